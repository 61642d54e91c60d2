/- A seat of the scripts: contracts of which events may be. -/
import Derived.Test.YtbjhikadmmolfaaGreatDoorMF
set_option linter.unusedSectionVars false
set_option linter.unusedVariables false
set_option linter.unusedSimpArgs false
set_option maxRecDepth 100000
set_option maxHeartbeats 4000000
namespace Go.Proofs.Sz
open Go Go.Am Go.SP
theorem isBools_self (l : List Bool) : IsBools (.rows 1 l.length (boolF l)) l := ⟨rfl, rfl, λ _ _ => rfl⟩
theorem isInts0_self (l : List Int) : IsInts0 (.rows 1 l.length (intF l)) l := ⟨rfl, rfl, λ _ _ => rfl⟩
theorem isMap_self (l : List (Bs × Bs)) : IsMap (.rows 2 l.length (rowF l)) l := ⟨rfl, rfl, λ _ _ => rfl⟩
theorem isEdit_self (l : List (Bs × Bool × Bs)) : IsEdit (.rows 3 l.length (chgF l)) l := ⟨rfl, rfl, λ _ _ => rfl⟩
theorem isRow8_self (l : Bs) : IsRow8 (.rows 1 l.length (byteF (bs l))) l := ⟨rfl, rfl, λ _ _ => rfl⟩
theorem sameE_eq (a b : Ev) : sameE a b = (((a.ck == b.ck && a.client == b.client && a.seq == b.seq && a.cbranch == b.cbranch && (List.range 32).all λ i => a.old i == b.old i) && (List.range 32).all λ i => a.new i == b.new i) && ((a.data == b.data && (a.kind == b.kind && a.node == b.node && a.to == b.to && a.n == b.n && a.branch == b.branch && (a.author == b.author && a.note == b.note))) && ((a.keep == b.keep) && ((a.conf == b.conf) && ((a.map == b.map) && (a.edit == b.edit)))))) := by
 simp only [sameE, idEq, Bool.and_assoc]
theorem XSame : EntOk Tryz.prog 31 (.lend TSameEv) := by
 refine ⟨Am.enters_of Tryz.func31 (by kernel_rfl) (by kernel_rfl), λ args R h => ?_⟩
 unfold TSameEv at h
 split at h
 ·rename_i x y
  obtain ⟨a, b, ⟨hx, hy⟩, h⟩ := h
  refine Spec.args (args' := [a.av, b.av]) ⟨hx, hy, trivial⟩ ?_
  refine mkSo (vSame a b R) (tb (ac XEqBytes (ac XEqBool (ac XEqInt (ac XSameMap (ac XSameEdit az)))))) Tryz.func31 (by kernel_rfl) ?_
  simp only [true_and, and_true, and_self, implies_true, forall_const, gEq_true, gEq_false, nonneg_iff, natle_iff, decide_eq_true_eq, decide_eq_false_iff_not, Int.toNat_natCast, cond_bt, cond_bf, Bool.cond_true, Bool.cond_false, Bool.not_true, Bool.not_false, reduceCtorEq, false_implies, implies_true, Bool.true_eq_false, Bool.false_eq_true, Bool.not_eq_true', Bool.not_eq_false', bs_size, bs_data, bs_toList, bs_extract, bs_append, bs_mk, byteF, Bool.true_and, Bool.and_true, Bool.false_and, true_implies]
  have hs := sameE_eq a b
  refine ⟨λ q1 => ⟨a.data, b.data, ⟨isRow8_self _, isRow8_self _⟩, λ q2 => ⟨a.keep, b.keep, ⟨isBools_self _, isBools_self _⟩, λ q3 => ⟨a.conf, b.conf, ⟨isInts0_self _, isInts0_self _⟩, λ q4 => ⟨a.map, b.map, ⟨isMap_self _, isMap_self _⟩, λ q5 => ⟨a.edit, b.edit, ⟨isEdit_self _, isEdit_self _⟩, ?_⟩, λ q5 => ?_⟩, λ q4 => ?_⟩, λ q3 => ?_⟩, λ q2 => ?_⟩, λ q1 => ?_⟩
  ·rw [q1, q2, q3, q4, q5] at hs
   rw [hs] at h
   exact h
  ·rw [q1, q2, q3, q4, q5] at hs
   rw [hs] at h
   exact h
  ·rw [q1, q2, q3, q4] at hs
   rw [hs] at h
   exact h
  ·rw [q1, q2, q3] at hs
   rw [hs] at h
   exact h
  ·rw [q1, q2] at hs
   rw [hs] at h
   exact h
  ·rw [q1] at hs
   rw [hs] at h
   exact h
 ·exact h.elim
theorem XSpoken : EntOk Tryz.prog 48 (.lend TSpoken) := by
 refine ⟨Am.enters_of Tryz.func48 (by kernel_rfl) (by kernel_rfl), λ args R h => ?_⟩
 unfold TSpoken at h
 split at h
 ·rename_i x
  obtain ⟨e, ⟨hx, h1, h2⟩, h⟩ := h
  have hk : e.kind = 1 ∨ e.kind = 2 ∨ e.kind = 3 ∨ e.kind = 4 ∨ e.kind = 5 ∨ e.kind = 6 ∨ e.kind = 7 ∨ e.kind = 8 ∨ e.kind = 9 ∨ e.kind = 10 ∨ e.kind = 11 ∨ e.kind = 12 ∨ e.kind = 13 ∨ e.kind = 14 ∨ e.kind = 15 := by omega
  have hx' : ∀ k, e.kind = k -> leA (idN 0) x (.agg (cellsK k e)) := λ k hk => by rw [<- hk]; exact hx
  rcases hk with hk | hk | hk | hk | hk | hk | hk | hk | hk | hk | hk | hk | hk | hk | hk
  ·refine Spec.args (args' := [.agg (cellsK 1 e)]) ⟨hx' _ hk, trivial⟩ (Spec.weak (Z := Unit) (X := λ _ => (spokenE e).av) (HH := λ _ => []) (mkSo (vSpoken1 e (spokenE e) R) (tb (ac XFieldsL (ac XStamped az))) Tryz.func48 (by kernel_rfl) ?_))
   simp only [true_and, and_true, and_self, implies_true, forall_const, gEq_true, gEq_false, nonneg_iff, natle_iff, decide_eq_true_eq, decide_eq_false_iff_not, Int.toNat_natCast, cond_bt, cond_bf, Bool.cond_true, Bool.cond_false, Bool.not_true, Bool.not_false, reduceCtorEq, false_implies, implies_true, Bool.true_eq_false, Bool.false_eq_true, Bool.not_eq_true', Bool.not_eq_false', w01, w12]
   (repeat' first | apply And.intro | apply Exists.intro ()) <;> first | exact h | omega | (simp [spokenE, Ev.setF, fieldsV, kNN, kN, kNT, k1, stampedK, hk, ev0, z0, bs_nil]; done)
  ·refine Spec.args (args' := [.agg (cellsK 2 e)]) ⟨hx' _ hk, trivial⟩ (Spec.weak (Z := Unit) (X := λ _ => (spokenE e).av) (HH := λ _ => []) (mkSo (vSpoken2 e (spokenE e) R) (tb (ac XFieldsL (ac XStamped az))) Tryz.func48 (by kernel_rfl) ?_))
   simp only [true_and, and_true, and_self, implies_true, forall_const, gEq_true, gEq_false, nonneg_iff, natle_iff, decide_eq_true_eq, decide_eq_false_iff_not, Int.toNat_natCast, cond_bt, cond_bf, Bool.cond_true, Bool.cond_false, Bool.not_true, Bool.not_false, reduceCtorEq, false_implies, implies_true, Bool.true_eq_false, Bool.false_eq_true, Bool.not_eq_true', Bool.not_eq_false', w01, w12]
   (repeat' first | apply And.intro | apply Exists.intro ()) <;> first | exact h | omega | (simp [spokenE, Ev.setF, fieldsV, kNN, kN, kNT, k1, stampedK, hk, ev0, z0, bs_nil]; done)
  ·refine Spec.args (args' := [.agg (cellsK 3 e)]) ⟨hx' _ hk, trivial⟩ (Spec.weak (Z := Unit) (X := λ _ => (spokenE e).av) (HH := λ _ => []) (mkSo (vSpoken3 e (spokenE e) R) (tb (ac XFieldsL (ac XStamped az))) Tryz.func48 (by kernel_rfl) ?_))
   simp only [true_and, and_true, and_self, implies_true, forall_const, gEq_true, gEq_false, nonneg_iff, natle_iff, decide_eq_true_eq, decide_eq_false_iff_not, Int.toNat_natCast, cond_bt, cond_bf, Bool.cond_true, Bool.cond_false, Bool.not_true, Bool.not_false, reduceCtorEq, false_implies, implies_true, Bool.true_eq_false, Bool.false_eq_true, Bool.not_eq_true', Bool.not_eq_false', w01, w12]
   (repeat' first | apply And.intro | apply Exists.intro ()) <;> first | exact h | omega | (simp [spokenE, Ev.setF, fieldsV, kNN, kN, kNT, k1, stampedK, hk, ev0, z0, bs_nil]; done)
  ·refine Spec.args (args' := [.agg (cellsK 4 e)]) ⟨hx' _ hk, trivial⟩ (Spec.weak (Z := Unit) (X := λ _ => (spokenE e).av) (HH := λ _ => []) (mkSo (vSpoken4 e (spokenE e) R) (tb (ac XFieldsL (ac XStamped az))) Tryz.func48 (by kernel_rfl) ?_))
   simp only [true_and, and_true, and_self, implies_true, forall_const, gEq_true, gEq_false, nonneg_iff, natle_iff, decide_eq_true_eq, decide_eq_false_iff_not, Int.toNat_natCast, cond_bt, cond_bf, Bool.cond_true, Bool.cond_false, Bool.not_true, Bool.not_false, reduceCtorEq, false_implies, implies_true, Bool.true_eq_false, Bool.false_eq_true, Bool.not_eq_true', Bool.not_eq_false', w01, w12]
   (repeat' first | apply And.intro | apply Exists.intro ()) <;> first | exact h | omega | (simp [spokenE, Ev.setF, fieldsV, kNN, kN, kNT, k1, stampedK, hk, ev0, z0, bs_nil]; done)
  ·refine Spec.args (args' := [.agg (cellsK 5 e)]) ⟨hx' _ hk, trivial⟩ (Spec.weak (Z := Unit) (X := λ _ => (spokenE e).av) (HH := λ _ => []) (mkSo (vSpoken5 e (spokenE e) R) (tb (ac XFieldsL (ac XStamped az))) Tryz.func48 (by kernel_rfl) ?_))
   simp only [true_and, and_true, and_self, implies_true, forall_const, gEq_true, gEq_false, nonneg_iff, natle_iff, decide_eq_true_eq, decide_eq_false_iff_not, Int.toNat_natCast, cond_bt, cond_bf, Bool.cond_true, Bool.cond_false, Bool.not_true, Bool.not_false, reduceCtorEq, false_implies, implies_true, Bool.true_eq_false, Bool.false_eq_true, Bool.not_eq_true', Bool.not_eq_false', w01, w12]
   (repeat' first | apply And.intro | apply Exists.intro ()) <;> first | exact h | omega | (simp [spokenE, Ev.setF, fieldsV, kNN, kN, kNT, k1, stampedK, hk, ev0, z0, bs_nil]; done)
  ·refine Spec.args (args' := [.agg (cellsK 6 e)]) ⟨hx' _ hk, trivial⟩ (Spec.weak (Z := Unit) (X := λ _ => (spokenE e).av) (HH := λ _ => []) (mkSo (vSpoken6 e (spokenE e) R) (tb (ac XFieldsL (ac XStamped az))) Tryz.func48 (by kernel_rfl) ?_))
   simp only [true_and, and_true, and_self, implies_true, forall_const, gEq_true, gEq_false, nonneg_iff, natle_iff, decide_eq_true_eq, decide_eq_false_iff_not, Int.toNat_natCast, cond_bt, cond_bf, Bool.cond_true, Bool.cond_false, Bool.not_true, Bool.not_false, reduceCtorEq, false_implies, implies_true, Bool.true_eq_false, Bool.false_eq_true, Bool.not_eq_true', Bool.not_eq_false', w01, w12]
   (repeat' first | apply And.intro | apply Exists.intro ()) <;> first | exact h | omega | (simp [spokenE, Ev.setF, fieldsV, kNN, kN, kNT, k1, stampedK, hk, ev0, z0, bs_nil]; done)
  ·refine Spec.args (args' := [.agg (cellsK 7 e)]) ⟨hx' _ hk, trivial⟩ (Spec.weak (Z := Unit) (X := λ _ => (spokenE e).av) (HH := λ _ => []) (mkSo (vSpoken7 e (spokenE e) R) (tb (ac XFieldsL (ac XStamped az))) Tryz.func48 (by kernel_rfl) ?_))
   simp only [true_and, and_true, and_self, implies_true, forall_const, gEq_true, gEq_false, nonneg_iff, natle_iff, decide_eq_true_eq, decide_eq_false_iff_not, Int.toNat_natCast, cond_bt, cond_bf, Bool.cond_true, Bool.cond_false, Bool.not_true, Bool.not_false, reduceCtorEq, false_implies, implies_true, Bool.true_eq_false, Bool.false_eq_true, Bool.not_eq_true', Bool.not_eq_false', w01, w12]
   (repeat' first | apply And.intro | apply Exists.intro ()) <;> first | exact h | omega | (simp [spokenE, Ev.setF, fieldsV, kNN, kN, kNT, k1, stampedK, hk, ev0, z0, bs_nil]; done)
  ·refine Spec.args (args' := [.agg (cellsK 8 e)]) ⟨hx' _ hk, trivial⟩ (Spec.weak (Z := Unit) (X := λ _ => (spokenE e).av) (HH := λ _ => []) (mkSo (vSpoken8 e (spokenE e) R) (tb (ac XFieldsL (ac XStamped az))) Tryz.func48 (by kernel_rfl) ?_))
   simp only [true_and, and_true, and_self, implies_true, forall_const, gEq_true, gEq_false, nonneg_iff, natle_iff, decide_eq_true_eq, decide_eq_false_iff_not, Int.toNat_natCast, cond_bt, cond_bf, Bool.cond_true, Bool.cond_false, Bool.not_true, Bool.not_false, reduceCtorEq, false_implies, implies_true, Bool.true_eq_false, Bool.false_eq_true, Bool.not_eq_true', Bool.not_eq_false', w01, w12]
   (repeat' first | apply And.intro | apply Exists.intro ()) <;> first | exact h | omega | (simp [spokenE, Ev.setF, fieldsV, kNN, kN, kNT, k1, stampedK, hk, ev0, z0, bs_nil]; done)
  ·refine Spec.args (args' := [.agg (cellsK 9 e)]) ⟨hx' _ hk, trivial⟩ (Spec.weak (Z := Unit) (X := λ _ => (spokenE e).av) (HH := λ _ => []) (mkSo (vSpoken9 e (spokenE e) R) (tb (ac XFieldsL (ac XStamped az))) Tryz.func48 (by kernel_rfl) ?_))
   simp only [true_and, and_true, and_self, implies_true, forall_const, gEq_true, gEq_false, nonneg_iff, natle_iff, decide_eq_true_eq, decide_eq_false_iff_not, Int.toNat_natCast, cond_bt, cond_bf, Bool.cond_true, Bool.cond_false, Bool.not_true, Bool.not_false, reduceCtorEq, false_implies, implies_true, Bool.true_eq_false, Bool.false_eq_true, Bool.not_eq_true', Bool.not_eq_false', w01, w12]
   (repeat' first | apply And.intro | apply Exists.intro ()) <;> first | exact h | omega | (simp [spokenE, Ev.setF, fieldsV, kNN, kN, kNT, k1, stampedK, hk, ev0, z0, bs_nil]; done)
  ·refine Spec.args (args' := [.agg (cellsK 10 e)]) ⟨hx' _ hk, trivial⟩ (Spec.weak (Z := Unit) (X := λ _ => (spokenE e).av) (HH := λ _ => []) (mkSo (vSpoken10 e (spokenE e) R) (tb (ac XFieldsL (ac XStamped az))) Tryz.func48 (by kernel_rfl) ?_))
   simp only [true_and, and_true, and_self, implies_true, forall_const, gEq_true, gEq_false, nonneg_iff, natle_iff, decide_eq_true_eq, decide_eq_false_iff_not, Int.toNat_natCast, cond_bt, cond_bf, Bool.cond_true, Bool.cond_false, Bool.not_true, Bool.not_false, reduceCtorEq, false_implies, implies_true, Bool.true_eq_false, Bool.false_eq_true, Bool.not_eq_true', Bool.not_eq_false', w01, w12]
   (repeat' first | apply And.intro | apply Exists.intro ()) <;> first | exact h | omega | (simp [spokenE, Ev.setF, fieldsV, kNN, kN, kNT, k1, stampedK, hk, ev0, z0, bs_nil]; done)
  ·refine Spec.args (args' := [.agg (cellsK 11 e)]) ⟨hx' _ hk, trivial⟩ (Spec.weak (Z := Unit) (X := λ _ => (spokenE e).av) (HH := λ _ => []) (mkSo (vSpoken11 e (spokenE e) R) (tb (ac XFieldsL (ac XStamped az))) Tryz.func48 (by kernel_rfl) ?_))
   simp only [true_and, and_true, and_self, implies_true, forall_const, gEq_true, gEq_false, nonneg_iff, natle_iff, decide_eq_true_eq, decide_eq_false_iff_not, Int.toNat_natCast, cond_bt, cond_bf, Bool.cond_true, Bool.cond_false, Bool.not_true, Bool.not_false, reduceCtorEq, false_implies, implies_true, Bool.true_eq_false, Bool.false_eq_true, Bool.not_eq_true', Bool.not_eq_false', w01, w12]
   (repeat' first | apply And.intro | apply Exists.intro ()) <;> first | exact h | omega | (simp [spokenE, Ev.setF, fieldsV, kNN, kN, kNT, k1, stampedK, hk, ev0, z0, bs_nil]; done)
  ·refine Spec.args (args' := [.agg (cellsK 12 e)]) ⟨hx' _ hk, trivial⟩ (Spec.weak (Z := Unit) (X := λ _ => (spokenE e).av) (HH := λ _ => []) (mkSo (vSpoken12 e (spokenE e) R) (tb (ac XFieldsL (ac XStamped az))) Tryz.func48 (by kernel_rfl) ?_))
   simp only [true_and, and_true, and_self, implies_true, forall_const, gEq_true, gEq_false, nonneg_iff, natle_iff, decide_eq_true_eq, decide_eq_false_iff_not, Int.toNat_natCast, cond_bt, cond_bf, Bool.cond_true, Bool.cond_false, Bool.not_true, Bool.not_false, reduceCtorEq, false_implies, implies_true, Bool.true_eq_false, Bool.false_eq_true, Bool.not_eq_true', Bool.not_eq_false', w01, w12]
   (repeat' first | apply And.intro | apply Exists.intro ()) <;> first | exact h | omega | (simp [spokenE, Ev.setF, fieldsV, kNN, kN, kNT, k1, stampedK, hk, ev0, z0, bs_nil]; done)
  ·refine Spec.args (args' := [.agg (cellsK 13 e)]) ⟨hx' _ hk, trivial⟩ (Spec.weak (Z := Unit) (X := λ _ => (spokenE e).av) (HH := λ _ => []) (mkSo (vSpoken13 e (spokenE e) R) (tb (ac XFieldsL (ac XStamped az))) Tryz.func48 (by kernel_rfl) ?_))
   simp only [true_and, and_true, and_self, implies_true, forall_const, gEq_true, gEq_false, nonneg_iff, natle_iff, decide_eq_true_eq, decide_eq_false_iff_not, Int.toNat_natCast, cond_bt, cond_bf, Bool.cond_true, Bool.cond_false, Bool.not_true, Bool.not_false, reduceCtorEq, false_implies, implies_true, Bool.true_eq_false, Bool.false_eq_true, Bool.not_eq_true', Bool.not_eq_false', w01, w12]
   (repeat' first | apply And.intro | apply Exists.intro ()) <;> first | exact h | omega | (simp [spokenE, Ev.setF, fieldsV, kNN, kN, kNT, k1, stampedK, hk, ev0, z0, bs_nil]; done)
  ·refine Spec.args (args' := [.agg (cellsK 14 e)]) ⟨hx' _ hk, trivial⟩ (Spec.weak (Z := Unit) (X := λ _ => (spokenE e).av) (HH := λ _ => []) (mkSo (vSpoken14 e (spokenE e) R) (tb (ac XFieldsL (ac XStamped az))) Tryz.func48 (by kernel_rfl) ?_))
   simp only [true_and, and_true, and_self, implies_true, forall_const, gEq_true, gEq_false, nonneg_iff, natle_iff, decide_eq_true_eq, decide_eq_false_iff_not, Int.toNat_natCast, cond_bt, cond_bf, Bool.cond_true, Bool.cond_false, Bool.not_true, Bool.not_false, reduceCtorEq, false_implies, implies_true, Bool.true_eq_false, Bool.false_eq_true, Bool.not_eq_true', Bool.not_eq_false', w01, w12]
   (repeat' first | apply And.intro | apply Exists.intro ()) <;> first | exact h | omega | (simp [spokenE, Ev.setF, fieldsV, kNN, kN, kNT, k1, stampedK, hk, ev0, z0, bs_nil]; done)
  ·refine Spec.args (args' := [.agg (cellsK 15 e)]) ⟨hx' _ hk, trivial⟩ (Spec.weak (Z := Unit) (X := λ _ => (spokenE e).av) (HH := λ _ => []) (mkSo (vSpoken15 e (spokenE e) R) (tb (ac XFieldsL (ac XStamped az))) Tryz.func48 (by kernel_rfl) ?_))
   simp only [true_and, and_true, and_self, implies_true, forall_const, gEq_true, gEq_false, nonneg_iff, natle_iff, decide_eq_true_eq, decide_eq_false_iff_not, Int.toNat_natCast, cond_bt, cond_bf, Bool.cond_true, Bool.cond_false, Bool.not_true, Bool.not_false, reduceCtorEq, false_implies, implies_true, Bool.true_eq_false, Bool.false_eq_true, Bool.not_eq_true', Bool.not_eq_false', w01, w12]
   (repeat' first | apply And.intro | apply Exists.intro ()) <;> first | exact h | omega | (simp [spokenE, Ev.setF, fieldsV, kNN, kN, kNT, k1, stampedK, hk, ev0, z0, bs_nil]; done)
 ·exact h.elim
theorem max3 (a b c : Nat) : decide ((if (c : Int) > (if (b : Int) > (a : Int) then (b : Int) else (a : Int)) then (c : Int) else if (b : Int) > (a : Int) then (b : Int) else (a : Int)) > 40) = (decide (40 < a) || decide (40 < b) || decide (40 < c)) := by
 rw [Bool.eq_iff_iff]
 simp only [Bool.or_eq_true, decide_eq_true_eq]
 split <;> split at * <;> omega
theorem gt2048 (a : Nat) : decide ((a : Int) > 2048) = decide (2048 < a) := by
 rw [decide_eq_decide]; omega
theorem any_take {α : Type} (l : List α) (d : α) (p : α -> Bool) (i : Nat) (h : i < l.length) : (l.take (i + 1)).any p = ((l.take i).any p || p (l.getD i d)) := by
 rw [List.take_succ_eq_append_getElem h, List.any_append, List.getD_eq_getElem?_getD, List.getElem?_eq_getElem h]
 simp
theorem any_at {α : Type} (l : List α) (d : α) (p : α -> Bool) (i : Nat) (h : i < l.length) (hp : p (l.getD i d) = true) : l.any p = true := by
 rw [List.any_eq_true]
 rw [List.getD_eq_getElem?_getD, List.getElem?_eq_getElem h] at hp
 exact ⟨_, List.getElem_mem h, hp⟩
theorem kind_ok {k : Int} (h : (decide (k < 1) || decide (k > 15)) = false) : 1 <= k /\ k <= 15 := by
 simp at h
 omega
def mapLong (r : Bs × Bs) : Bool := longB r.1 || longB r.2
def editLong (r : Bs × Bool × Bs) : Bool := longB r.1 || longB r.2.2 || (!r.2.1 && !(r.2.2 == []))
theorem wrongE_eq (x : Ev) : wrongE x = ((decide (x.kind < 1) || decide (x.kind > 15)) || (!sameE x (spokenE x) || ((decide (2048 < x.keep.length) || (decide (40 < x.conf.length) || decide (40 < x.map.length) || decide (40 < x.edit.length))) || (longB x.branch || (longB x.note || longB x.cbranch) || (x.map.any mapLong || x.edit.any editLong))))) := by
 unfold wrongE
 rw [show (λ r : Bs × Bool × Bs => longB r.1 || longB r.2.2 || (!r.2.1 && !(r.2.2 == []))) = editLong from rfl, show (λ r : Bs × Bs => longB r.1 || longB r.2) = mapLong from rfl]
 simp only [Bool.or_assoc, gt_iff_lt]
set_option maxHeartbeats 1000000 in
theorem XWrong : EntOk Tryz.prog 25 (.lend TWrong) := by
 refine ⟨Am.enters_of Tryz.func25 (by kernel_rfl) (by kernel_rfl), λ args R h => ?_⟩
 unfold TWrong at h
 split at h
 ·rename_i x
  obtain ⟨e, hx, h⟩ := h
  refine Spec.args (args' := [e.av]) ⟨hx, trivial⟩ (Spec.givenD λ hg => ?_)
  obtain ⟨⟨_, _, hgm, hge, _⟩, _⟩ := hg
  refine mkSo (vWrong e (λ i => i <= e.map.length /\ (e.map.take i).any mapLong = false) (λ i => i <= e.edit.length /\ (e.edit.take i).any editLong = false) R) (tb (ac XSpoken (ac XSame (ac XLong az)))) Tryz.func25 (by kernel_rfl) ?_
  have hmx := maxLen_eq
  have hw : ∀ b, wrongE e = b -> R (bl b) [] := λ b hb => hb ▸ h
  simp only [true_and, and_true, and_self, implies_true, forall_const, gEq_true, gEq_false, nonneg_iff, natle_iff, decide_eq_true_eq, decide_eq_false_iff_not, Int.toNat_natCast, cond_bt, cond_bf, Bool.cond_true, Bool.cond_false, Bool.not_true, Bool.not_false, reduceCtorEq, false_implies, implies_true, Bool.true_eq_false, Bool.false_eq_true, Bool.not_eq_true', Bool.not_eq_false', bs_size, bs_data, bs_toList, bs_extract, bs_append, bs_mk, byteF, Bool.true_and, Bool.and_true, Bool.false_and, true_implies, max3, gt2048]
  rw [wrongE_eq] at hw
  refine ⟨λ q1 => ⟨e, ⟨isEv_self e, kind_ok q1⟩, e, spokenE e, ⟨isEv_self e, isEv_self _⟩, λ q2 => hw _ (by rw [q1, q2]; rfl), λ q2 => ⟨λ q3 => ⟨by omega, [e.branch, e.note, e.cbranch], ⟨⟨rfl, rfl, λ i hi => ?_⟩, by simp⟩, λ q4 => hw _ ?_, λ q4 => ⟨⟨0, rfl, Nat.zero_le _, rfl⟩, λ i hi => ⟨λ hlt => ⟨⟨by omega, by omega⟩, by omega, [(e.map.getD i ([], [])).1, (e.map.getD i ([], [])).2], ⟨⟨rfl, rfl, λ j hj => ?_⟩, by simp⟩, λ q5 => hw _ ?_, λ q5 => ⟨i + 1, by rw [wrap64] <;> omega, ⟨by omega, ?_⟩, by omega⟩⟩, λ hge => ⟨⟨0, rfl, Nat.zero_le _, rfl⟩, λ j hj => ⟨λ hlt => ⟨⟨by omega, by omega⟩, by omega, [(e.edit.getD j ([], false, [])).1, (e.edit.getD j ([], false, [])).2.2], ⟨⟨rfl, rfl, λ k hk => ?_⟩, by simp⟩, λ q6 => hw _ ?_, λ q6 => ⟨j + 1, by rw [wrap64] <;> omega, ⟨by omega, ?_⟩, by omega⟩⟩, λ hge2 => hw _ ?_⟩⟩⟩⟩⟩, λ q3 => hw _ (by rw [q1, q2, q3]; rfl)⟩⟩, λ q1 => hw _ (by rw [q1]; rfl)⟩
  ·have : i = 0 ∨ i = 1 ∨ i = 2 := by simp at hi; omega
   rcases this with rfl | rfl | rfl <;> rfl
  ·simp only [List.any_cons, List.any_nil, Bool.or_false] at q4
   rw [q1, q2, q3, q4]
   rfl
  ·have : j = 0 ∨ j = 1 := by simp at hj; omega
   rcases this with rfl | rfl <;> rfl
  ·have hm : e.map.any mapLong = true := any_at e.map ([], []) mapLong i (by omega) (by simpa [mapLong] using q5)
   rw [hm, Bool.true_or]
   simp
  ·rw [any_take e.map ([], []) mapLong i (by omega), hi.2]
   simpa [mapLong] using q5
  ·have : k = 0 ∨ k = 1 := by simp at hk; omega
   rcases this with rfl | rfl <;> rfl
  ·have hm : e.edit.any editLong = true := any_at e.edit ([], false, []) editLong j (by omega) (by simpa [editLong] using q6)
   rw [hm, Bool.or_true]
   simp
  ·rw [any_take e.edit ([], false, []) editLong j (by omega), hj.2]
   simpa [editLong] using q6
  ·obtain ⟨hj1, hj2⟩ := hj
   have hjl : j = e.edit.length := by omega
   have hil : i = e.map.length := by omega
   obtain ⟨_, hi2⟩ := hi
   rw [hjl, List.take_length] at hj2
   rw [hil, List.take_length] at hi2
   simp only [List.any_cons, List.any_nil, Bool.or_false] at q4
   rw [q1, q2, q3, q4, hi2, hj2]
   rfl
 ·exact h.elim
theorem findW_none_take {l : List Ev} (x : Nat) (hx : x < l.length) (h : (l.take x).findIdx? wrongE = none) (hp : wrongE (evAt l x) = false) : (l.take (x + 1)).findIdx? wrongE = none := by
 rw [List.findIdx?_eq_none_iff] at h ⊢
 intro y hy
 rw [List.take_succ_eq_append_getElem hx, List.mem_append, List.mem_singleton] at hy
 rcases hy with hy | rfl
 ·exact h y hy
 ·rw [evAt, List.getD_eq_getElem?_getD, List.getElem?_eq_getElem hx] at hp
  exact hp
theorem findW_some_take {l : List Ev} (x : Nat) (hx : x < l.length) (h : (l.take x).findIdx? wrongE = none) (hp : wrongE (evAt l x) = true) : l.findIdx? wrongE = some x := by
 rw [List.findIdx?_eq_none_iff] at h
 rw [List.findIdx?_eq_some_iff_getElem]
 refine ⟨hx, ?_, λ j hj => ?_⟩
 ·rw [evAt, List.getD_eq_getElem?_getD, List.getElem?_eq_getElem hx] at hp
  exact hp
 ·have := h l[j] (by rw [List.mem_take_iff_getElem]; exact ⟨j, by omega, rfl⟩)
  simp [this]
theorem XIdxW : EntOk Tryz.prog 47 (.lend TIdxW) := by
 refine ⟨Am.enters_of Tryz.func47 (by kernel_rfl) (by kernel_rfl), λ args R h => ?_⟩
 unfold TIdxW at h
 split at h
 ·rename_i x
  obtain ⟨l, hx, h⟩ := h
  refine Spec.argsR (args' := [evsAV l, fnWrong]) ⟨hx, rfl, trivial⟩ (Spec.given λ hg => ?_)
  obtain ⟨hg, _⟩ := hg
  have hmx := maxLen_eq
  refine mkSo (vIdxW l (λ i => i <= l.length /\ (l.take i).findIdx? wrongE = none) R) (tb (ac XWrong az)) Tryz.func47 (by kernel_rfl) ?_
  simp only [true_and, and_true, and_self, implies_true, forall_const, gEq_true, gEq_false, nonneg_iff, natle_iff, decide_eq_true_eq, decide_eq_false_iff_not, Int.toNat_natCast, cond_bt, cond_bf, Bool.cond_true, Bool.cond_false, Bool.not_true, Bool.not_false, reduceCtorEq, false_implies, implies_true, Bool.true_eq_false, Bool.false_eq_true, Bool.not_eq_true', Bool.not_eq_false', bs_size, bs_data, bs_toList, bs_extract, bs_append, bs_mk, byteF] at h ⊢
  refine ⟨⟨0, rfl, Nat.zero_le _, by simp⟩, λ i hi => ⟨λ hlt => ⟨⟨by omega, by omega⟩, evAt l i, isEv_self _, λ hb => ?_, λ hb => ?_⟩, λ hge => ?_⟩⟩
  ·have e : l.findIdx? wrongE = some i := findW_some_take i (by omega) hi.2 hb
   rw [idxW, e] at h
   exact h
  ·exact ⟨i + 1, by rw [wrap64] <;> omega, ⟨by omega, findW_none_take i (by omega) hi.2 hb⟩, by omega⟩
  ·have : i = l.length := by omega
   subst this
   rw [List.take_length] at hi
   rw [idxW, hi.2] at h
   exact h
 ·exact h.elim
theorem idxW_any (l : List Ev) : decide (idxW l ≥ 0) = l.any wrongE := by
 unfold idxW
 cases h : l.findIdx? wrongE with
 | none =>
  rw [List.findIdx?_eq_none_iff] at h
  rw [Bool.eq_iff_iff]
  simp
  exact h
 | some i =>
  obtain ⟨hi, h1, _⟩ := List.findIdx?_eq_some_iff_getElem.1 h
  rw [Bool.eq_iff_iff]
  simp only [ge_iff_le, decide_eq_true_eq, List.any_eq_true]
  exact ⟨λ _ => ⟨_, List.getElem_mem hi, h1⟩, λ _ => by omega⟩
theorem XContW : EntOk Tryz.prog 24 (.lend TContW) := by
 refine ⟨Am.enters_of Tryz.func24 (by kernel_rfl) (by kernel_rfl), λ args R h => ?_⟩
 unfold TContW at h
 split at h
 ·rename_i x
  obtain ⟨l, hx, h⟩ := h
  refine Spec.argsR (args' := [evsAV l, fnWrong]) ⟨hx, rfl, trivial⟩ ?_
  refine mkSo (vContW l R) (tb (ac XIdxW az)) Tryz.func24 (by kernel_rfl) ?_
  simp only [true_and, and_true, and_self, implies_true, forall_const, gEq_true, gEq_false, nonneg_iff, natle_iff, decide_eq_true_eq, decide_eq_false_iff_not, Int.toNat_natCast, cond_bt, cond_bf, Bool.cond_true, Bool.cond_false, Bool.not_true, Bool.not_false, reduceCtorEq, false_implies, implies_true, Bool.true_eq_false, Bool.false_eq_true, Bool.not_eq_true', Bool.not_eq_false'] at h ⊢
  exact ⟨l, isEvs_self l, by rw [idxW_any]; exact h⟩
 ·exact h.elim
theorem evs_cw {x : AV} {l : List Ev} (h : IsEvs x l) : cw x = cw (evsAV l) := by
 cases x <;> simp only [IsEvs, leR, evsAV] at h
 rfl
theorem XCheck : EntOk Tryz.prog 9 (.lend TCheck) := by
 refine ⟨Am.enters_of Tryz.func9 (by kernel_rfl) (by kernel_rfl), λ args R h => ?_⟩
 unfold TCheck at h
 split at h
 ·rename_i a b c x
  obtain ⟨l, hx, h⟩ := h
  refine Spec.argsD (args' := [.agg [nm a, nm b, nm c, evsAV l]]) ⟨.cons (.pl _) rfl (.cons (.pl _) rfl (.cons (.pl _) rfl (.cons (.of_leR hx) (evs_cw hx) .nil))), trivial⟩ ?_
  refine mkSo (vCheck a b c l R) (tb (ac XContW az)) Tryz.func9 (by kernel_rfl) ?_
  simp only [true_and, and_true, and_self, implies_true, forall_const, gEq_true, gEq_false, nonneg_iff, natle_iff, decide_eq_true_eq, decide_eq_false_iff_not, Int.toNat_natCast, cond_bt, cond_bf, Bool.cond_true, Bool.cond_false, Bool.not_true, Bool.not_false, reduceCtorEq, false_implies, implies_true, Bool.true_eq_false, Bool.false_eq_true, Bool.not_eq_true', Bool.not_eq_false'] at h ⊢
  refine ⟨λ q1 => ⟨l, isEvs_self l, λ q2 => ?_, λ q2 => ?_⟩, λ q1 => ?_⟩
  ·simpa [checkE, q2] using h
  ·have e : ¬ 300 < l.length := by omega
   simpa [checkE, e, q2] using h
  ·have e : 300 < l.length := by omega
   simpa [checkE, e] using h
 ·exact h.elim
end Go.Proofs.Sz

namespace Go.Proofs.Sz
open Go Go.Am Go.SP
theorem kind_of (w : Bs) : (if 0 > idxT w wordsL then 0 else idxT w wordsL) = kindOf w := by
 unfold idxT kindOf
 cases wordsL.findIdx? (· == w) with
 | none => rfl
 | some i => simp only [Option.getD_some]; rw [if_neg (by omega)]
theorem evR1_0 {w : Bs} {r : Rd} (h : clsK (kindOf w) = 0) : evR1 w r = (({ ev0 with kind := kindOf w } : Ev), r) := by
 obtain ⟨h1, h2, h3, h4, h5⟩ := cls_0 h
 simp only [evR1, fieldsN, Ev.setF, h1, h2, h3, h4, h5, cond_false, numbersR]
theorem numbers_le (n : Nat) (r : Rd) : (numbersR n r).2.rest.length <= r.rest.length := by
 induction n generalizing r with
 | zero => exact Nat.le_refl _
 | succ n ih => exact Nat.le_trans (ih _) (number_le r)
def Zr (e : Ev) : Prop := e.keep = [] /\ e.conf = [] /\ e.map = [] /\ e.edit = [] /\ e.data = []
theorem zr_setF {e : Ev} (h : Zr e) (l : List Int) : Zr (e.setF l) := by
 unfold Ev.setF
 cases kNN e.kind <;> cases kN e.kind <;> cases kNT e.kind <;> cases k1 e.kind <;> cases e.kind == 14 <;> exact h
theorem evR1_zr (w : Bs) (r : Rd) : Zr (evR1 w r).1 := zr_setF ⟨rfl, rfl, rfl, rfl, rfl⟩ _
theorem evR2_zr {e : Ev} (h : Zr e) (r : Rd) : Zr (evR2 e r).1 := by
 unfold evR2
 cases stampedK e.kind <;> exact h
theorem evR2_le (e : Ev) (r : Rd) : (evR2 e r).2.rest.length <= r.rest.length := by
 unfold evR2
 cases stampedK e.kind with
 | false => exact Nat.le_refl _
 | true =>
  have h1 := number_le r
  have h2 := text_le (orBad (numberR r).2 (decide ((numberR r).1 < 0) || decide (4294967295 < (numberR r).1)))
  have h3 := text_le (textR (orBad (numberR r).2 (decide ((numberR r).1 < 0) || decide (4294967295 < (numberR r).1)))).2
  simp only [orBad] at h2 h3 ⊢
  simp only [cond_true]
  omega
theorem orBad2 (r : Rd) (a b : Bool) : (⟨r.rest, r.bad || a || b⟩ : Rd) = orBad r (a || b) := by simp [orBad, Bool.or_assoc]
def iterR {α : Type} (st : Rd -> α × Rd) : Nat -> Rd -> List α × Rd
 | 0, r => ([], r)
 | f + 1, r => bif moreR r then ((st r).1 :: (iterR st f (st r).2).1, (iterR st f (st r).2).2) else ([], r)
theorem iter_fuel {α : Type} (st : Rd -> α × Rd) (hlt : ∀ r, moreR r = true -> (st r).2.rest.length < r.rest.length) : ∀ (f g : Nat) (r : Rd), r.rest.length < f -> r.rest.length < g -> iterR st f r = iterR st g r := by
 intro f
 induction f with
 | zero => intro g r h; omega
 | succ f ih =>
  intro g r hf hg
  cases g with
  | zero => omega
  | succ g =>
   simp only [iterR]
   cases hm : moreR r with
   | false => rfl
   | true =>
    have := hlt r hm
    rw [ih g _ (by omega) (by omega)]
theorem iter_step {α : Type} (st : Rd -> α × Rd) (hlt : ∀ r, moreR r = true -> (st r).2.rest.length < r.rest.length) (r : Rd) (hm : moreR r = true) :
  iterR st (r.rest.length + 1) r = ((st r).1 :: (iterR st ((st r).2.rest.length + 1) (st r).2).1, (iterR st ((st r).2.rest.length + 1) (st r).2).2) := by
 have := hlt r hm
 rw [iterR, hm, cond_true, iter_fuel st hlt r.rest.length ((st r).2.rest.length + 1) _ (by omega) (by omega)]
theorem iter_end {α : Type} (st : Rd -> α × Rd) (n : Nat) (r : Rd) (hm : moreR r = false) : iterR st (n + 1) r = ([], r) := by
 rw [iterR, hm, cond_false]
theorem conf_iter (n : Nat) (r : Rd) : confR n r = iterR numberR n r := by
 induction n generalizing r with
 | zero => rfl
 | succ n ih => rw [confR, iterR, ih]
def rowR (r : Rd) : (Bs × Bs) × Rd := (((textR r).1, (textR (textR r).2).1), (textR (textR r).2).2)
theorem map_iter (n : Nat) (r : Rd) : mapR n r = iterR rowR n r := by
 induction n generalizing r with
 | zero => rfl
 | succ n ih => rw [mapR, iterR, ih]; rfl
theorem edit_iter (n : Nat) (r : Rd) : editR n r = iterR changeR n r := by
 induction n generalizing r with
 | zero => rfl
 | succ n ih => rw [editR, iterR, ih]
theorem more_ne {r : Rd} (h : moreR r = true) : 0 < r.rest.length := by
 rw [moreR, Bool.and_eq_true] at h
 exact List.length_pos_iff.2 (by simpa using h.2)
theorem blank_lt (r : Rd) (h : 0 < r.rest.length) : (blankR r).2.rest.length < r.rest.length := by
 have h1 := cutL_le 32 r.rest
 have : (blankR r).2.rest = (cutL 32 r.rest).2.1 := rfl
 rw [this]
 cases hf : (cutL 32 r.rest).2.2 with
 | true => have := cutL_le2 32 r.rest hf; omega
 | false => rw [(cutL_none hf).2.1]; exact h
theorem number_lt (r : Rd) (h : moreR r = true) : (numberR r).2.rest.length < r.rest.length := blank_lt r (more_ne h)
theorem text_lt (r : Rd) (h : 0 < r.rest.length) : (textR r).2.rest.length < r.rest.length := by
 unfold textR
 split
 ·have h1 := cutPre_le [34] r.rest
  rename_i b e hb
  have h2 := cutPre_le [32] ((cutPre [34] r.rest).drop (e + 1))
  simp only [textEnd]
  simp at h2
  omega
 ·exact h
theorem row_lt (r : Rd) (h : moreR r = true) : (rowR r).2.rest.length < r.rest.length :=
 Nat.lt_of_le_of_lt (text_le _) (text_lt r (more_ne h))
theorem change_lt (r : Rd) (h : moreR r = true) : (changeR r).2.rest.length < r.rest.length := by
 have h1 := text_lt r (more_ne h)
 unfold changeR
 cases ([45] : Bs).isPrefixOf (textR r).2.rest && (cutPre [45] (textR r).2.rest == [] || (cutPre [45] (textR r).2.rest).getD 0 0 == 32) with
 | true => have := blank_le (textR r).2; simp only [cond_true]; omega
 | false => have := text_le (textR r).2; simp only [cond_false]; omega
theorem app_at {α : Type} (F : α -> AV) (l : List α) (v d : α) (i : Nat) (hi : i < (l ++ [v]).length) : (if i < l.length then F (l.getD i d) else rowOf [(0, F v)] (0 + (i - l.length))) = F ((l ++ [v]).getD i d) := by
 simp only [List.getD_eq_getElem?_getD, List.getElem?_append]
 split
 ·rfl
 ·have : i - l.length = 0 := by simp at hi; omega
  rw [this]
  rfl
theorem bit_eq (c : UInt8) (k : Nat) (hk : k < 256) : ((((c.toNat : Nat) : Int) == (k : Nat)) : Bool) = (c == UInt8.ofNat k) := by
 rw [Bool.eq_iff_iff, beq_iff_eq, beq_iff_eq]
 constructor
 ·intro e
  have : c.toNat = k := by omega
  rw [<- this]; simp
 ·intro e; rw [e, u8n hk]
theorem all_take (l : Bs) (p : UInt8 -> Bool) (i : Nat) (h : i < l.length) : (l.take (i + 1)).all p = ((l.take i).all p && p (l.getD i 0)) := by
 rw [take_at l i h, List.all_append]
 simp
theorem XREvent : EntOk Tryz.prog 67 (.hand tkR TEvent) := by
 refine ⟨Am.enters_of Tryz.func67 (by kernel_rfl) (by kernel_rfl), λ H0 args R h => ?_⟩
 unfold TEvent at h
 split at h
 ·rename_i t s b w
  obtain ⟨l, rfl⟩ : ∃ l, s = bs l := ⟨_, bs_of s⟩
  obtain ⟨w, rfl⟩ : ∃ l, w = bs l := ⟨_, bs_of w⟩
  obtain ⟨⟨rfl, h1⟩, h⟩ := h
  simp only [bs_size, bs_data] at h1 h
  refine SpecH.weak (Z := Unit) (X := λ _ => (eventR w ⟨l, b⟩).1.av) (HH := λ _ => [rdO (eventR w ⟨l, b⟩).2]) (mkGo (vREvent l w b (λ r => cutPre [61] (blankR r).1)
   (λ x => x = (({ ev0 with kind := kindOf w } : Ev), ⟨l, b⟩))
   (λ x => x = evR1 w ⟨l, b⟩)
   (λ x => x = evR2 (evR1 w ⟨l, b⟩).1 (evR1 w ⟨l, b⟩).2)
   (λ x i => x.1.kind = 8 /\ i.1 <= (cutPre [61] (blankR x.2).1).length /\ i.2 = (([61] : Bs).isPrefixOf (blankR x.2).1 && ((cutPre [61] (blankR x.2).1).take i.1).all isBit))
   (λ x y => x.1.kind = 10 /\ y.2.rest.length <= rlim /\ y.1.length + y.2.rest.length <= rlim /\ confR (x.2.rest.length + 1) x.2 = (y.1 ++ (confR (y.2.rest.length + 1) y.2).1, (confR (y.2.rest.length + 1) y.2).2))
   (λ x y => x.1.kind = 11 /\ y.2.rest.length <= rlim /\ y.1.length + y.2.rest.length <= rlim /\ mapR (x.2.rest.length + 1) x.2 = (y.1 ++ (mapR (y.2.rest.length + 1) y.2).1, (mapR (y.2.rest.length + 1) y.2).2))
   (λ x y => (x.1.kind = 12 ∨ x.1.kind = 13) /\ y.2.rest.length <= rlim /\ y.1.length + y.2.rest.length <= rlim /\ editR (x.2.rest.length + 1) x.2 = (y.1 ++ (editR (y.2.rest.length + 1) y.2).1, (editR (y.2.rest.length + 1) y.2).2))
   (λ x y => y = evR3 x.1 x.2) R)
   (tb (ac XWords (ac XIdxT (ac XFields (ac XNumbers (ac XStamped (ac XNumber (ac XText (ac XBlank (ac XCutPre (ac XMore (ac XChange (ac XIdP (ac XWrong az)))))))))))))) Tryz.func67 (by kernel_rfl) ?_)
  simp only [true_and, and_true, and_self, implies_true, forall_const, gEq_true, gEq_false, nonneg_iff, natle_iff, decide_eq_true_eq, decide_eq_false_iff_not, Int.toNat_natCast, cond_bt, cond_bf, Bool.cond_true, Bool.cond_false, Bool.not_true, Bool.not_false, reduceCtorEq, false_implies, implies_true, Bool.true_eq_false, Bool.false_eq_true, Bool.not_eq_true', Bool.not_eq_false', bs_size, bs_data, bs_toList, bs_extract, bs_append, bs_mk, byteF, w01, w12]
  refine ⟨⟨by omega, wordsL, ⟨⟨rfl, rfl, λ i _ => by dsimp only; rw [Nat.zero_add]⟩, by decide⟩, (({ ev0 with kind := kindOf w } : Ev), ⟨l, b⟩), ⟨⟨rfl, rfl⟩, kind_of w, rfl, rfl, rfl, rfl, rfl, rfl, rfl, rfl, rfl, rfl, λ _ _ => rfl, λ _ _ => rfl⟩, rfl⟩, ?_⟩
  rintro x rfl
  refine ⟨⟨λ hc => ⟨{ ev0 with kind := kindOf w }, ⟨h1, rfl, .inl ⟨hc, rfl, rfl⟩⟩, evR1 w ⟨l, b⟩, ⟨⟨rfl, rfl⟩, rfl, rfl, rfl, rfl, rfl, rfl, rfl, rfl, rfl, rfl, rfl, λ _ _ => rfl, λ _ _ => rfl⟩, rfl⟩, λ hc => ⟨{ ev0 with kind := kindOf w }, ⟨h1, rfl, .inr (.inl ⟨hc, rfl, rfl⟩)⟩, evR1 w ⟨l, b⟩, ⟨⟨rfl, rfl⟩, rfl, rfl, rfl, rfl, rfl, rfl, rfl, rfl, rfl, rfl, rfl, λ _ _ => rfl, λ _ _ => rfl⟩, rfl⟩, λ hc => ⟨{ ev0 with kind := kindOf w }, ⟨h1, rfl, .inr (.inr (.inl ⟨hc, rfl, rfl⟩))⟩, evR1 w ⟨l, b⟩, ⟨⟨rfl, rfl⟩, rfl, rfl, rfl, rfl, rfl, rfl, rfl, rfl, rfl, rfl, rfl, λ _ _ => rfl, λ _ _ => rfl⟩, rfl⟩, λ hc => ⟨{ ev0 with kind := kindOf w }, ⟨h1, rfl, .inr (.inr (.inr (.inl ⟨hc, rfl, rfl⟩)))⟩, evR1 w ⟨l, b⟩, ⟨⟨rfl, rfl⟩, rfl, rfl, rfl, rfl, rfl, rfl, rfl, rfl, rfl, rfl, rfl, λ _ _ => rfl, λ _ _ => rfl⟩, rfl⟩, λ hc => ⟨{ ev0 with kind := kindOf w }, ⟨h1, rfl, .inr (.inr (.inr (.inr ⟨hc, rfl, rfl⟩)))⟩, evR1 w ⟨l, b⟩, ⟨⟨rfl, rfl⟩, rfl, rfl, rfl, rfl, rfl, rfl, rfl, rfl, rfl, rfl, rfl, λ _ _ => rfl, λ _ _ => rfl⟩, rfl⟩, λ hc => ⟨evR1 w ⟨l, b⟩, ?_, rfl⟩⟩, ?_⟩
  ·rw [evR1_0 hc]
   exact ⟨⟨rfl, rfl⟩, rfl, rfl, rfl, rfl, rfl, rfl, rfl, rfl, rfl, rfl, rfl, λ _ _ => rfl, λ _ _ => rfl⟩
  rintro x rfl
  have hz1 := evR1_zr w ⟨l, b⟩
  have hl1 : (evR1 w ⟨l, b⟩).2.rest.length <= rlim := Nat.le_trans (numbers_le _ _) h1
  unfold eventR at h ⊢
  generalize evR1 w ⟨l, b⟩ = y at h hz1 hl1 ⊢
  have hg : ∀ n : Int, decide (n > 4294967295) = decide (4294967295 < n) := λ _ => rfl
  simp only [orBad2, hg]
  have hl2 := number_le y.2
  have hl3 := text_le (orBad (numberR y.2).2 (decide ((numberR y.2).1 < 0) || decide (4294967295 < (numberR y.2).1)))
  have hl4 : (orBad (numberR y.2).2 (decide ((numberR y.2).1 < 0) || decide (4294967295 < (numberR y.2).1))).rest = (numberR y.2).2.rest := rfl
  rw [hl4] at hl3
  refine ⟨⟨λ hs => ⟨hl1, by omega, by omega, evR2 y.1 y.2, ?_, rfl⟩, λ hs => ⟨evR2 y.1 y.2, ?_, rfl⟩⟩, ?_⟩
  ·rw [evR2, hs, cond_true]
   exact ⟨⟨rfl, rfl⟩, rfl, rfl, rfl, rfl, rfl, rfl, rfl, rfl, rfl, rfl, rfl, λ _ _ => rfl, λ _ _ => rfl⟩
  ·rw [evR2, hs, cond_false]
   exact ⟨⟨rfl, rfl⟩, rfl, rfl, rfl, rfl, rfl, rfl, rfl, rfl, rfl, rfl, rfl, λ _ _ => rfl, λ _ _ => rfl⟩
  rintro x rfl
  have hz2 := evR2_zr hz1 y.2
  have hl5 : (evR2 y.1 y.2).2.rest.length <= rlim := Nat.le_trans (evR2_le _ _) hl1
  generalize evR2 y.1 y.2 = z at h hz2 hl5 ⊢
  have hmx := maxLen_eq
  have hrl : rlim = 1000000 := rfl
  have hsl : (cutPre [61] (blankR z.2).1).length <= z.2.rest.length := Nat.le_trans (cutPre_le _ _) (Nat.le_trans (Nat.le_add_right _ _) (blank_le z.2))
  obtain ⟨z1, z2, z3, z4, z5⟩ := hz2
  have nk := congrArg List.length z1
  have nc := congrArg List.length z2
  have nm' := congrArg List.length z3
  have ne := congrArg List.length z4
  have b48 : ∀ c : UInt8, (((c.toNat : Nat) : Int) == 48) = (c == 48) := λ c => bit_eq c 48 (by omega)
  have b49 : ∀ c : UInt8, (((c.toNat : Nat) : Int) == 49) = (c == 49) := λ c => bit_eq c 49 (by omega)
  simp only [b48, b49]
  refine ⟨⟨λ k8 => ⟨hl5, by omega, ⟨(0, ([61] : Bs).isPrefixOf (blankR z.2).1), ⟨rfl, rfl⟩, rfl, beq_iff_eq.1 k8, Nat.zero_le _, by simp⟩, λ i hi => ⟨λ hlt => ⟨⟨by omega, by omega⟩, ⟨by omega, by omega, by omega⟩, (i.1 + 1, i.2 && isBit ((cutPre [61] (blankR z.2).1).getD i.1 0)), ⟨rfl, by rw [wrap64] <;> omega⟩, ⟨rfl, Nat.le_refl _, λ q hq => ?_⟩, ⟨beq_iff_eq.1 k8, by dsimp only; omega, ?_⟩, by dsimp only; omega⟩, λ hge => ⟨evR3 z.1 z.2, ?_, rfl⟩⟩⟩, λ k8 => ⟨λ k10 => ⟨⟨([], z.2), ⟨⟨rfl, rfl⟩, rfl⟩, beq_iff_eq.1 k10, hl5, by simpa using hl5, rfl⟩, λ y hy => ⟨λ hm => ?_, λ hm => ⟨evR3 z.1 z.2, ?_, rfl⟩⟩⟩, λ k10 => ⟨λ k11 => ⟨⟨([], z.2), ⟨⟨rfl, rfl⟩, rfl⟩, beq_iff_eq.1 k11, hl5, by simpa using hl5, rfl⟩, λ y hy => ⟨λ hm => ?_, λ hm => ⟨evR3 z.1 z.2, ?_, rfl⟩⟩⟩, λ k11 => ⟨λ k12 => ⟨⟨([], z.2), ⟨⟨rfl, rfl⟩, rfl⟩, .inl (beq_iff_eq.1 k12), hl5, by simpa using hl5, rfl⟩, λ y hy => ⟨λ hm => ?_, λ hm => ⟨evR3 z.1 z.2, ?_, rfl⟩⟩⟩, λ k12 => ⟨λ k13 => ⟨⟨([], z.2), ⟨⟨rfl, rfl⟩, rfl⟩, .inr (beq_iff_eq.1 k13), hl5, by simpa using hl5, rfl⟩, λ y hy => ⟨λ hm => ?_, λ hm => ⟨evR3 z.1 z.2, ?_, rfl⟩⟩⟩, λ k13 => ⟨λ k14 => ⟨hl5, Nat.le_trans (text_le _) hl5, by have := blank_le (textR z.2).2; have := text_le z.2; omega, evR3 z.1 z.2, ?_, rfl⟩, λ k14 => ⟨evR3 z.1 z.2, ?_, rfl⟩⟩⟩⟩⟩⟩⟩, ?_⟩
  ·have hq' : q < i.1 + 1 := hq
   have e9 : ∀ j, j < (cutPre [61] (blankR z.2).1).length -> ((cutPre [61] (blankR z.2).1).map (· == 49)).getD j false = ((cutPre [61] (blankR z.2).1).getD j 0 == 49) := λ j hj => by
    simp [List.getD_eq_getElem?_getD, hj]
   split
   ·rfl
   ·have hqi : q = i.1 := by omega
    rw [hqi, e9 i.1 (by omega), Nat.sub_self]
    rfl
  ·rw [hi.2.2, all_take _ isBit i.1 (by omega), Bool.and_assoc]
  ·have hil : i.1 = (cutPre [61] (blankR z.2).1).length := by omega
   have hib := hi.2.2
   rw [hil, List.take_length] at hib
   have e3 : evR3 z.1 z.2 = (({ z.1 with keep := (keepR z.2).1 } : Ev), (keepR z.2).2) := by
    rw [evR3, k8, cond_true]
   rw [e3, hil, hib]
   exact ⟨⟨rfl, rfl⟩, ⟨rfl, rfl, rfl, rfl, by simp [keepR], nc, rfl, nm', ne, rfl, rfl, rfl, rfl, rfl, rfl, λ _ _ => rfl, λ _ _ => rfl⟩, ⟨by simp [keepR], λ _ _ => rfl⟩, nc, nm', ne⟩
  ·have hlt := number_lt y.2 hm
   have hst := iter_step numberR number_lt y.2 hm
   simp only [conf_iter] at hy ⊢
   refine ⟨hy.2.1, ⟨by omega, by omega, by omega⟩, (y.1 ++ [(numberR y.2).1], (numberR y.2).2), ⟨⟨rfl, rfl⟩, by simp, by simp, λ q hq => app_at (λ v => nm v) y.1 _ 0 q hq⟩, ⟨hy.1, by dsimp only; omega, by simp; omega, ?_⟩, by dsimp only; omega⟩
   rw [hy.2.2.2, hst]
   simp [List.append_assoc]
  ·have hst := iter_end numberR y.2.rest.length y.2 hm
   have e3 : evR3 z.1 z.2 = (({ z.1 with conf := y.1 } : Ev), y.2) := by
    have h9 := hy.2.2.2
    simp only [evR3, k8, k10, cond_false, cond_true, conf_iter] at h9 ⊢
    rw [h9, hst]
    simp
   rw [e3]
   exact ⟨⟨rfl, rfl⟩, ⟨rfl, rfl, rfl, rfl, nk, rfl, rfl, nm', ne, rfl, rfl, rfl, rfl, rfl, rfl, λ _ _ => rfl, λ _ _ => rfl⟩, nk, ⟨Nat.le_refl _, λ _ _ => rfl⟩, nm', ne⟩
  ·have hlt := row_lt y.2 hm
   have hst := iter_step rowR row_lt y.2 hm
   simp only [map_iter] at hy ⊢
   refine ⟨hy.2.1, Nat.le_trans (text_le _) hy.2.1, ⟨by omega, by omega, by omega⟩, (y.1 ++ [(rowR y.2).1], (rowR y.2).2), ⟨⟨rfl, rfl⟩, by simp, by simp, λ q hq => app_at (λ v : Bs × Bs => .agg [sl v.1, sl v.2]) y.1 _ ([], []) q hq⟩, ⟨hy.1, by dsimp only; omega, by simp; omega, ?_⟩, by dsimp only; omega⟩
   rw [hy.2.2.2, hst]
   simp [List.append_assoc]
  ·have hst := iter_end rowR y.2.rest.length y.2 hm
   have e3 : evR3 z.1 z.2 = (({ z.1 with map := y.1 } : Ev), y.2) := by
    have h9 := hy.2.2.2
    simp only [evR3, k8, k10, k11, cond_false, cond_true, map_iter] at h9 ⊢
    rw [h9, hst]
    simp
   rw [e3]
   exact ⟨⟨rfl, rfl⟩, ⟨rfl, rfl, rfl, rfl, nk, nc, rfl, rfl, ne, rfl, rfl, rfl, rfl, rfl, rfl, λ _ _ => rfl, λ _ _ => rfl⟩, nk, nc, ⟨Nat.le_refl _, λ _ _ => rfl⟩, ne⟩
  ·have hlt := change_lt y.2 hm
   have hst := iter_step changeR change_lt y.2 hm
   simp only [edit_iter] at hy ⊢
   refine ⟨hy.2.1, ⟨by omega, by omega, by omega⟩, (y.1 ++ [(changeR y.2).1], (changeR y.2).2), ⟨⟨rfl, rfl⟩, by simp, by simp, λ q hq => app_at (λ v : Bs × Bool × Bs => .agg [sl v.1, bl v.2.1, sl v.2.2]) y.1 _ ([], false, []) q hq⟩, ⟨hy.1, by dsimp only; omega, by simp; omega, ?_⟩, by dsimp only; omega⟩
   rw [hy.2.2.2, hst]
   simp [List.append_assoc]
  ·have hst := iter_end changeR y.2.rest.length y.2 hm
   have e3 : evR3 z.1 z.2 = (({ z.1 with edit := y.1 } : Ev), y.2) := by
    have h9 := hy.2.2.2
    simp only [evR3, k8, k10, k11, k12, Bool.true_or, cond_false, cond_true, edit_iter] at h9 ⊢
    rw [h9, hst]
    simp
   rw [e3]
   exact ⟨⟨rfl, rfl⟩, ⟨rfl, rfl, rfl, rfl, nk, nc, rfl, nm', rfl, rfl, rfl, rfl, rfl, rfl, rfl, λ _ _ => rfl, λ _ _ => rfl⟩, nk, nc, nm', ⟨Nat.le_refl _, λ _ _ => rfl⟩⟩
  ·have hlt := change_lt y.2 hm
   have hst := iter_step changeR change_lt y.2 hm
   simp only [edit_iter] at hy ⊢
   refine ⟨hy.2.1, ⟨by omega, by omega, by omega⟩, (y.1 ++ [(changeR y.2).1], (changeR y.2).2), ⟨⟨rfl, rfl⟩, by simp, by simp, λ q hq => app_at (λ v : Bs × Bool × Bs => .agg [sl v.1, bl v.2.1, sl v.2.2]) y.1 _ ([], false, []) q hq⟩, ⟨hy.1, by dsimp only; omega, by simp; omega, ?_⟩, by dsimp only; omega⟩
   rw [hy.2.2.2, hst]
   simp [List.append_assoc]
  ·have hst := iter_end changeR y.2.rest.length y.2 hm
   have e3 : evR3 z.1 z.2 = (({ z.1 with edit := y.1 } : Ev), y.2) := by
    have h9 := hy.2.2.2
    simp only [evR3, k8, k10, k11, k12, k13, Bool.false_or, cond_false, cond_true, edit_iter] at h9 ⊢
    rw [h9, hst]
    simp
   rw [e3]
   exact ⟨⟨rfl, rfl⟩, ⟨rfl, rfl, rfl, rfl, nk, nc, rfl, nm', rfl, rfl, rfl, rfl, rfl, rfl, rfl, λ _ _ => rfl, λ _ _ => rfl⟩, nk, nc, nm', ⟨Nat.le_refl _, λ _ _ => rfl⟩⟩
  ·have e3 : evR3 z.1 z.2 = (({ z.1 with cbranch := (doR z.2).1, new := (doR z.2).2.1 } : Ev), (doR z.2).2.2) := by
    simp only [evR3, k8, k10, k11, k12, k13, k14, Bool.false_or, cond_false, cond_true]
   have e4 : ∀ s : Bs, (idE s != 0) = !(idR s).2 := λ s => by
    unfold idE
    cases (idR s).2 <;> rfl
   rw [e3, e4]
   exact ⟨⟨rfl, rfl⟩, ⟨rfl, rfl, rfl, rfl, nk, nc, rfl, nm', ne, rfl, rfl, rfl, rfl, rfl, rfl, λ _ _ => rfl, λ _ _ => rfl⟩, nk, nc, nm', ne⟩
  ·have e3 : evR3 z.1 z.2 = (z.1, z.2) := by
    simp only [evR3, k8, k10, k11, k12, k13, k14, Bool.false_or, cond_false]
   rw [e3]
   exact ⟨⟨rfl, rfl⟩, ⟨rfl, rfl, rfl, rfl, nk, nc, rfl, nm', ne, rfl, rfl, rfl, rfl, rfl, rfl, λ _ _ => rfl, λ _ _ => rfl⟩, nk, nc, nm', ne⟩
  ·rintro x rfl
   have hd : (evR3 z.1 z.2).1.data = [] := by
    unfold evR3
    cases z.1.kind == 8 <;> cases z.1.kind == 10 <;> cases z.1.kind == 11 <;> cases z.1.kind == 12 || z.1.kind == 13 <;> cases z.1.kind == 14 <;> exact z5
   generalize evR3 z.1 z.2 = y at h hd ⊢
   have hev : IsEv (AV.agg [nm y.1.kind, nm y.1.node, nm y.1.to, nm y.1.n, AV.rows 1 y.1.keep.length λ i => bl (y.1.keep.getD (0 + i) false), AV.rows 1 y.1.conf.length λ i => nm (y.1.conf.getD (0 + i) 0), sl y.1.branch, AV.rows 2 y.1.map.length λ i => AV.agg [sl (y.1.map.getD (0 + i) ([], [])).fst, sl (y.1.map.getD (0 + i) ([], [])).snd], AV.rows 3 y.1.edit.length λ i => AV.agg [sl (y.1.edit.getD (0 + i) ([], false, [])).fst, bl (y.1.edit.getD (0 + i) ([], false, [])).snd.fst, sl (y.1.edit.getD (0 + i) ([], false, [])).snd.snd], AV.pl (Value.int IntKind.u32 y.1.author), sl y.1.note, nm y.1.ck, nm y.1.client, AV.pl (Value.int IntKind.u32 y.1.seq), sl y.1.cbranch, AV.iarr IntKind.u8 32 y.1.old, AV.iarr IntKind.u8 32 y.1.new, nilS]) y.1 :=
    ⟨rfl, rfl, rfl, rfl, ⟨rfl, rfl, λ i _ => by dsimp only; rw [Nat.zero_add]; rfl⟩, ⟨rfl, rfl, λ i _ => by dsimp only; rw [Nat.zero_add]; rfl⟩, rfl, ⟨rfl, rfl, λ i _ => by dsimp only; rw [Nat.zero_add]; rfl⟩, ⟨rfl, rfl, λ i _ => by dsimp only; rw [Nat.zero_add]; rfl⟩, rfl, rfl, rfl, rfl, rfl, rfl, ⟨rfl, rfl, λ _ _ => rfl⟩, ⟨rfl, rfl, λ _ _ => rfl⟩, ⟨trivial, by rw [hd]; rfl⟩, trivial⟩
   have hb4 : 0 + y.1.keep.length <= y.1.keep.length /\ 0 + y.1.conf.length <= y.1.conf.length /\ 0 + y.1.map.length <= y.1.map.length /\ 0 + y.1.edit.length <= y.1.edit.length := ⟨by omega, by omega, by omega, by omega⟩
   refine ⟨λ hb => ⟨hb4, y.1, hev, hb4, (), ?_, ?_, h⟩, λ hb => ⟨hb4, (), ?_, ?_, h⟩⟩
   ·exact ⟨rfl, rfl, rfl, rfl, ⟨rfl, λ i _ => by rw [Nat.zero_add]⟩, ⟨rfl, λ i _ => by rw [Nat.zero_add]⟩, rfl, ⟨rfl, λ i _ => by rw [Nat.zero_add]⟩, ⟨rfl, λ i _ => by rw [Nat.zero_add]⟩, rfl, rfl, rfl, rfl, rfl, rfl, λ _ _ => rfl, λ _ _ => rfl, by rw [hd]; rfl⟩
   ·exact ⟨rfl, by simp only [orBad, hb, Bool.false_or]⟩
   ·exact ⟨rfl, rfl, rfl, rfl, ⟨rfl, λ i _ => by rw [Nat.zero_add]⟩, ⟨rfl, λ i _ => by rw [Nat.zero_add]⟩, rfl, ⟨rfl, λ i _ => by rw [Nat.zero_add]⟩, ⟨rfl, λ i _ => by rw [Nat.zero_add]⟩, rfl, rfl, rfl, rfl, rfl, rfl, λ _ _ => rfl, λ _ _ => rfl, by rw [hd]; rfl⟩
   ·exact ⟨rfl, by simp only [orBad, hb, Bool.true_or]⟩
 ·exact h.elim
end Go.Proofs.Sz

namespace Go.Proofs.Sz
open Go Go.Am Go.SP
theorem XLine : EntOk Tryz.prog 33 (.hand tkL TLine) := by
 refine ⟨Am.enters_of Tryz.func33 (by kernel_rfl) (by kernel_rfl), λ H0 args R h => ?_⟩
 unfold TLine at h
 split at h
 ·rename_i t a b c n k e m f s j
  obtain ⟨s, rfl⟩ : ∃ l, s = bs l := ⟨_, bs_of s⟩
  obtain ⟨l, q, ⟨rfl, ⟨rfl, rfl, rfl, rfl, hf⟩, h1, h2, rfl⟩, h⟩ := h
  simp only [bs_size, bs_data] at h1 h
  refine SpecH.weak (Z := Unit) (X := λ _ => bl (lineR ⟨a, b, c, l⟩ s q).2) (HH := λ _ => [scBox 2 (lineR ⟨a, b, c, l⟩ s q).1, .dead, rowE (lineR ⟨a, b, c, l⟩ s q).1.evs]) (mkHo (vLine1 a b c l s q f R) (tb (ac XBlank (ac XNumbers (ac XREvent az)))) Tryz.func33 (by kernel_rfl) ?_)
  simp only [true_and, and_true, and_self, implies_true, forall_const, gEq_true, gEq_false, nonneg_iff, natle_iff, decide_eq_true_eq, decide_eq_false_iff_not, Int.toNat_natCast, cond_bt, cond_bf, Bool.cond_true, Bool.cond_false, Bool.not_true, Bool.not_false, reduceCtorEq, false_implies, implies_true, Bool.true_eq_false, Bool.false_eq_true, Bool.not_eq_true', Bool.not_eq_false', bs_size, bs_data, bs_toList, bs_extract, bs_append, bs_mk, byteF]
  have hb := blank_le ⟨s, false⟩
  rcases Nat.eq_zero_or_pos q with rfl | hq
  ·exact ⟨h1, λ _ => ⟨by dsimp only at hb; omega, (), rfl, ⟨⟨rfl, rfl, rfl, rfl⟩, Nat.le_refl _, hf⟩, h⟩, λ hn => absurd (by omega) hn⟩
  ·
   have hmx := maxLen_eq
   have hrl : rlim = 1000000 := rfl
   dsimp only at hb
   have hq0 : (q == 0) = false := by simp; omega
   have e : lineR ⟨a, b, c, l⟩ s q = (⟨a, b, c, l ++ [(eventR (blankR ⟨s, false⟩).1 (blankR ⟨s, false⟩).2).1]⟩, okR (orBad (eventR (blankR ⟨s, false⟩).1 (blankR ⟨s, false⟩).2).2 (decide (300 < l.length + 1)))) := by
    simp only [lineR, hq0, cond_false]
   rw [e] at h ⊢
   have hd : decide (((l.length + 1 : Nat) : Int) > 300) = decide (300 < l.length + 1) := by rw [decide_eq_decide]; omega
   generalize eventR (blankR ⟨s, false⟩).1 (blankR ⟨s, false⟩).2 = v at h ⊢
   refine ⟨h1, λ hlt => absurd hlt (by omega), λ _ => ⟨by omega, ⟨by omega, by omega, by omega⟩, (), ?_, ?_, h⟩⟩
   ·rw [hd]
    rfl
   ·refine ⟨⟨rfl, rfl, rfl, by simp⟩, by simp, λ i hi => ?_⟩
    have hi' : i < (l ++ [v.1]).length := hi
    have := app_at Ev.av l v.1 ev0 i hi'
    refine Eq.trans ?_ this
    split
    ·rename_i hlt; exact hf i hlt
    ·rfl
 ·exact h.elim
theorem s10 : sepOf (ByteArray.mk #[10]) = 10 := rfl
theorem eq_or_ne_nil (t : Bs) : t = [] ∨ t ≠ [] := by cases t <;> simp
theorem parseGo_cons (f : Nat) {t : Bs} (ht : t ≠ []) (a n : Nat) (s : Sc) : parseGo (f + 1) t a n s = bif (cutL 10 t).2.2 && (lineR s (cutL 10 t).1 n).2 then parseGo f (cutL 10 t).2.1 (a + (cutL 10 t).1.length + 1) (n + 1) (lineR s (cutL 10 t).1 n).1 else (s, a, n, false) := by
 cases t with
 | nil => exact absurd rfl ht
 | cons c t => rfl
theorem parseGo_nil (f a n : Nat) (s : Sc) : parseGo f [] a n s = (s, a, n, true) := by cases f <;> rfl
theorem parseGo_fuel : ∀ (f g : Nat) (t : Bs) (a n : Nat) (s : Sc), t.length < f -> t.length < g -> parseGo f t a n s = parseGo g t a n s := by
 intro f
 induction f with
 | zero => intro g t a n s h; omega
 | succ f ih =>
  intro g t a n s hf hg
  cases g with
  | zero => omega
  | succ g =>
   rcases eq_or_ne_nil t with rfl | ht
   ·rfl
   ·rw [parseGo_cons f ht, parseGo_cons g ht]
    cases hc : (cutL 10 t).2.2 with
    | false => rfl
    | true =>
     have := cutL_le2 10 t hc
     rw [ih g _ _ _ _ (by omega) (by omega)]
theorem lineR_len (s : Sc) (l : Bs) (n : Nat) : (lineR s l n).1.evs.length <= s.evs.length + 1 := by
 unfold lineR
 cases n == 0 <;> simp [setupR]
theorem XParse : EntOk Tryz.prog 14 (.lend TParse) := by
 refine ⟨Am.enters_of Tryz.func14 (by kernel_rfl) (by kernel_rfl), λ args R h => ?_⟩
 unfold TParse at h
 split at h
 ·rename_i s
  obtain ⟨l, rfl⟩ : ∃ l, s = bs l := ⟨_, bs_of s⟩
  rw [bs_data] at h
  refine Spec.weak (Z := Unit) (X := λ _ => .tup [scAV (parseR l).1, nm (parseR l).2.1, nm (parseR l).2.2]) (HH := λ _ => []) (mkSo (vParse l
   (λ x => x.2.2.2 = true /\ l.length <= 262144 /\ x.2.1 <= l.length /\ x.1.evs.length <= x.2.2.1 /\ x.2.2.1 <= x.2.1 /\ ∀ f, (l.drop x.2.1).length < f -> parseGo (l.length + 1) l 0 0 sc0 = parseGo f (l.drop x.2.1) x.2.1 x.2.2.1 x.1)
   (λ x => l.length <= 262144 /\ (parseGo (l.length + 1) l 0 0 sc0).2 = x.2 /\ (x.2.2.2 = true -> (parseGo (l.length + 1) l 0 0 sc0).1 = x.1)) R) (tb (ac XCut (ac XLine az))) Tryz.func14 (by kernel_rfl) ?_)
  simp only [true_and, and_true, and_self, implies_true, forall_const, gEq_true, gEq_false, nonneg_iff, natle_iff, decide_eq_true_eq, decide_eq_false_iff_not, Int.toNat_natCast, cond_bt, cond_bf, Bool.cond_true, Bool.cond_false, Bool.not_true, Bool.not_false, reduceCtorEq, false_implies, implies_true, Bool.true_eq_false, Bool.false_eq_true, Bool.not_eq_true', Bool.not_eq_false', bs_size, bs_data, bs_toList, bs_extract, bs_append, bs_mk, byteF, s10, sep1, List.take_length]
  have hmx := maxLen_eq
  have hrl : rlim = 1000000 := rfl
  refine ⟨λ hlt => ?_, λ hge => ⟨⟨⟨(sc0, 0, 0, true), ⟨rfl, rfl, rfl⟩, ⟨⟨rfl, rfl, rfl, rfl⟩, rfl⟩, rfl, by omega, Nat.zero_le _, Nat.le_refl _, Nat.le_refl _, λ f hf => ?_⟩, λ x hx => ⟨λ hlt => ?_, λ hge => ?_⟩⟩, λ x hx => ?_⟩⟩
  ·have hd : decide (262144 < l.length) = true := by rw [decide_eq_true_eq]; omega
   have e : parseR l = (sc0, 0, 3) := by rw [parseR, hd, cond_true]
   rw [e] at h ⊢
   exact ⟨(), ⟨⟨rfl, rfl, rfl, rfl⟩, rfl, rfl⟩, h⟩
  ·exact parseGo_fuel _ _ _ _ _ _ (by omega) hf
  ·obtain ⟨hx1, hx2, hx3, hx4, hx5, hx6⟩ := hx
   obtain ⟨sc, at_, n, ok⟩ := x
   dsimp only at hlt hx1 hx3 hx4 hx5 hx6 ⊢
   have hlt : at_ < l.length := by omega
   have hdl : (l.drop at_).length = l.length - at_ := by simp
   have ht : l.drop at_ ≠ [] := λ e => by rw [e] at hdl; simp at hdl; omega
   have hG := hx6 (l.length - at_ + 1) (by omega)
   rw [parseGo_cons _ ht] at hG
   have hle := cutL_le 10 (l.drop at_)
   refine ⟨⟨by omega, by omega, by omega⟩, by omega, λ hc => ⟨sc.evs, n, ⟨isEvRow_self _, by omega, by omega, rfl⟩, λ hb => ⟨((lineR sc (cutL 10 (l.drop at_)).1 n).1, at_, n, false), ⟨rfl, rfl, hb⟩, ⟨⟨rfl, rfl, rfl, rfl⟩, Nat.le_refl _, λ _ _ => rfl⟩, hx2, ?_, λ hf => by cases hf⟩, λ hb => ⟨((lineR sc (cutL 10 (l.drop at_)).1 n).1, at_ + (cutL 10 (l.drop at_)).1.length + 1, n + 1, true), ?_, ⟨⟨rfl, rfl, rfl, rfl⟩, Nat.le_refl _, λ _ _ => rfl⟩, ?_, ?_⟩⟩, λ hc => ⟨(sc, at_, n, false), ⟨rfl, rfl, rfl⟩, ⟨⟨rfl, rfl, rfl, rfl⟩, Nat.le_refl _, λ _ _ => rfl⟩, hx2, ?_, λ hf => by cases hf⟩⟩
   ·have hb' : (lineR sc (cutL 10 (l.drop at_)).1 n).2 = false := hb
    rw [hb', Bool.and_false, cond_false] at hG
    rw [hG]
   ·have hl2 := cutL_le2 10 (l.drop at_) hc
    dsimp only
    refine ⟨?_, by rw [wrap64] <;> omega, hb⟩
    rw [wrap64 (x := ((cutL 10 (l.drop at_)).1.length : Int) + 1) (by omega) (by omega), wrap64] <;> omega
   ·have hl2 := cutL_le2 10 (l.drop at_) hc
    have hb' : (lineR sc (cutL 10 (l.drop at_)).1 n).2 = true := hb
    have hev := lineR_len sc (cutL 10 (l.drop at_)).1 n
    have hrest : (cutL 10 (l.drop at_)).2.1 = l.drop (at_ + (cutL 10 (l.drop at_)).1.length + 1) := by
     have h9 := (cutL_found hc).1
     have h10 : l.drop (at_ + (cutL 10 (l.drop at_)).1.length + 1) = (l.drop at_).drop ((cutL 10 (l.drop at_)).1.length + 1) := by rw [List.drop_drop, Nat.add_assoc]
     rw [h10]
     generalize (cutL 10 (l.drop at_)).1 = a at h9
     generalize (cutL 10 (l.drop at_)).2.1 = b at h9
     rw [h9]
     simp
    refine ⟨rfl, hx2, by dsimp only; omega, by dsimp only; omega, by dsimp only; omega, λ f hf => ?_⟩
    rw [hc, hb', Bool.and_self, cond_true] at hG
    rw [hG, hrest]
    have hr := congrArg List.length hrest
    exact parseGo_fuel _ _ _ _ _ _ (by rw [<- hr]; omega) hf
   ·dsimp only; omega
   ·rw [hc, Bool.false_and, cond_false] at hG
    rw [hG]
  ·obtain ⟨hx1, hx2, hx3, hx4, hx5, hx6⟩ := hx
   obtain ⟨sc, at_, n, ok⟩ := x
   dsimp only at hge hx1 hx3 hx4 hx5 hx6 ⊢
   have e : l.drop at_ = [] := List.drop_eq_nil_of_le (by omega)
   have hG := hx6 1 (by rw [e]; exact Nat.zero_lt_one)
   rw [e, parseGo_nil] at hG
   rw [hG]
   exact ⟨(sc, at_, n, ok), ⟨rfl, rfl, rfl⟩, ⟨⟨rfl, rfl, rfl, rfl⟩, Nat.le_refl _, λ _ _ => rfl⟩, hx2, by dsimp only; rw [hx1], λ _ => rfl⟩
  ·obtain ⟨hx1, hx2, hx3⟩ := hx
   obtain ⟨sc, at_, n, ok⟩ := x
   have hd : decide (262144 < l.length) = false := by rw [decide_eq_false_iff_not]; omega
   have e : parseR l = (bif !ok || n == 0 then (sc0, at_, 360) else ((parseGo (l.length + 1) l 0 0 sc0).1, 0, 0)) := by
    rw [parseR, hd, cond_false]
    generalize parseGo (l.length + 1) l 0 0 sc0 = g at hx2 hx3
    obtain ⟨g1, g2⟩ := g
    dsimp only at hx2
    subst hx2
    rfl
   have e0 : decide ((n : Int) < 1) = (n == 0) := by rw [Bool.eq_iff_iff]; simp; omega
   dsimp only at hx3 ⊢
   rw [e0]
   refine ⟨λ hb => ?_, λ hb => ⟨by omega, ?_⟩⟩
   ·rw [hb, cond_true] at e
    rw [e] at h ⊢
    exact ⟨(), ⟨⟨rfl, rfl, rfl, rfl⟩, rfl, rfl⟩, h⟩
   ·rw [hb, cond_false] at e
    have hok : ok = true := by
     rw [Bool.or_eq_false_iff] at hb
     simpa using hb.1
    rw [hx3 hok] at e
    rw [e] at h ⊢
    exact ⟨(), ⟨⟨rfl, rfl, rfl, rfl, λ i _ => by rw [Nat.zero_add]⟩, rfl, rfl⟩, h⟩
 ·exact h.elim
end Go.Proofs.Sz

namespace Go.Proofs.Sz
open Go Go.Am Go.SP
theorem vWEvent (l : Bs) (e : Ev) (f : Nat -> AV) (inv7 inv10 inv24 inv30 : Bs -> Prop) (inv14 inv26 inv31 : Bs -> Nat -> Prop) (R : AV -> List LObj -> Prop) : (vcA false false (List.length ([wBox 1 l.length, .row 1 tyU8
 l.length f] : List LObj)) [0, 1] Tryz.prog (mkTab [(42, .lend TWords), (43, .hand tkR TFields), (44, .lend TStamped), (18, .hand tkW TWrS), (20, .hand tkW TWrB), (19, .hand tkW TNums), (45, .hand tkW TTexts), (46, .lend
 TIdT)]) (optC (Tryz.f21.body.getD .skip)) ([.unroll 3 3 true (λ _ => []), .cut 7 Bs inv7 (λ t => ⟨slotsOf 143 0 [(0, .ptr 0 0 0 0), (3, .ptr 3 0 0 0)], WR (l ++ t) ++ [.box tyEv e.cells]⟩) (λ _ => [.cut 10 Bs inv10
 (λ t => ⟨slotsOf 143 0 [(0, .ptr 0 0 0 0), (3, .ptr 3 0 0 0)], WR (l ++ t) ++ [.box tyEv e.cells]⟩) (λ t0 => [.loop 14 Nat (inv14 t0) (λ i => ⟨slotsOf 143 0 [(0, .ptr 0 0 0 0), (3, .ptr 3 0 0 0), (61, .rows 1
 e.keep.length (boolF e.keep)), (62, nm e.keep.length), (63, nm i)], WR (l ++ (t0 ++ ([32, 61] ++ bitsL (e.keep.take i)))) ++ [.box tyEv e.cells]⟩) (λ i => e.keep.length - i) (λ _ => []), .cut 24 Bs inv24 (λ t =>
 ⟨slotsOf 143 0 [(0, .ptr 0 0 0 0), (3, .ptr 3 0 0 0)], WR (l ++ t) ++ [.box tyEv e.cells]⟩) (λ t => [.loop 26 Nat (inv26 t) (λ i => ⟨slotsOf 143 0 [(0, .ptr 0 0 0 0), (3, .ptr 3 0 0 0), (100, mapAV e.map), (101, nm
 e.map.length), (102, nm i)], WR (l ++ (t ++ nums e.conf ++ (e.map.take i).flatMap (λ r => txts [r.1, r.2]))) ++ [.box tyEv e.cells]⟩) (λ i => e.map.length - i) (λ _ => []), .cut 30 Bs inv30 (λ t => ⟨slotsOf 143 0
 [(0, .ptr 0 0 0 0), (3, .ptr 3 0 0 0)], WR (l ++ t) ++ [.box tyEv e.cells]⟩) (λ t => [.loop 31 Nat (inv31 t) (λ i => ⟨slotsOf 143 0 [(0, .ptr 0 0 0 0), (3, .ptr 3 0 0 0), (116, editAV e.edit), (117, nm
 e.edit.length), (118, nm i)], WR (l ++ (t ++ (e.edit.take i).flatMap chgL)) ++ [.box tyEv e.cells]⟩) (λ i => e.edit.length - i) (λ _ => [])])])])])]) (finalKH Tryz.prog Tryz.f21 (λ y H => ∃ _ : Unit, leSt 2 ⟨[y],
 H⟩ ⟨[.tup []], WR (l ++ evL e)⟩ (R (.tup []) (WR (l ++ evL e))))) (startStH Tryz.f21 ([wBox 1 l.length, .row 1 tyU8 l.length f]) ([.ptr 0 0 0 0, e.av]))) = ( True /\ ((0 : Int) <= e.kind /\ e.kind + 1 <= (↑ (16 : Nat) :
 Int)) /\ (((0 : Nat) + e.kind.toNat).succ.le (16 : Nat) /\ True) /\ (True /\ True /\ True) /\ ∃ (l_1 : Bs), (71 = 71 /\ IsBytes (1 : Nat) (5 : Nat) l.length l.length f l_1 /\ (l_1.length + (List.length (wordsL.getD ((0 :
 Nat) + e.kind.toNat) []))).le lim) /\ ((True /\ True) /\ 62 = 62 /\ (clsK e.kind = 1 -> ((0 : Int) <= 0 /\ (0 : Int) + 1 <= (↑ (2 : Nat) : Int)) /\ True /\ True /\ (True /\ ((0 : Nat) + 1).le (1 : Nat) /\ True) /\ ∃ (l_2
 : Bs), ∃ (ns : List Int), (71 = 71 /\ IsBytes (1 : Nat) (5 : Nat) (List.length (l_1 ++ (wordsL.getD ((0 : Nat) + e.kind.toNat) []))) (List.length (l_1 ++ (wordsL.getD ((0 : Nat) + e.kind.toNat) []))) (byteF (bs (l_1 ++
 (wordsL.getD ((0 : Nat) + e.kind.toNat) [])))) l_2 /\ IsInts (AV.rows 1 1 λ (i : Nat) => rowOf [((0 : Nat), nm e.node)] ((0 : Nat) + i)) ns /\ (l_2.length + 22 * ns.length).le lim /\ ∀ (n : Int), n ∈ ns ->
 (-9223372036854775808 : Int) <= n /\ n <= 9223372036854775807) /\ nflB (AV.tup []) = true /\ (nflL [AV.ptr 0 0 0 0, AV.own 2 0 (List.length (l_2 ++ nums ns))] = true /\ True /\ (∀ (i : Nat), i < List.length (l_2 ++ nums
 ns) -> flatB (byteF (bs (l_2 ++ nums ns)) i) = true) /\ True) /\ ((0 : Int) <= k64Q.wrap ((0 : Int) + 1) /\ k64Q.wrap ((0 : Int) + 1) + 1 <= (↑ (2 : Nat) : Int)) /\ True /\ True /\ (True /\ ((0 : Nat) + 1).le (1 : Nat)
 /\ True) /\ ∃ (l_3 : Bs), ∃ (ns_1 : List Int), (71 = 71 /\ IsBytes (1 : Nat) (5 : Nat) (List.length (l_2 ++ nums ns)) (List.length (l_2 ++ nums ns)) (byteF (bs (l_2 ++ nums ns))) l_3 /\ IsInts (AV.rows 1 1 λ (i : Nat)
 => rowOf [((0 : Nat), nm e.n)] ((0 : Nat) + i)) ns_1 /\ (l_3.length + 22 * ns_1.length).le lim /\ ∀ (n : Int), n ∈ ns_1 -> (-9223372036854775808 : Int) <= n /\ n <= 9223372036854775807) /\ nflB (AV.tup []) = true /\
 (nflL [AV.ptr 0 0 0 0, AV.own 2 0 (List.length (l_3 ++ nums ns_1))] = true /\ True /\ (∀ (i : Nat), i < List.length (l_3 ++ nums ns_1) -> flatB (byteF (bs (l_3 ++ nums ns_1)) i) = true) /\ True) /\ ∃ (x : Bs), ((True /\
 0 = 0 /\ 0 = 0 /\ 0 = 0) /\ (True /\ 0 = 0 /\ 0 = 0 /\ 0 = 0) /\ True) /\ ((71 = 71 /\ (True /\ 0 = 0 /\ 0 = 0 /\ 0 = 0) /\ (True /\ 0 = 0 /\ List.length (l_3 ++ nums ns_1) = List.length (l ++ x)) /\ True) /\ True /\ (1
 = 1 /\ 5 = 5 /\ (List.length (l ++ x)).le (List.length (l_3 ++ nums ns_1)) /\ ∀ (i : Nat), i < List.length (l ++ x) -> AV.pl (Value.int k8Q (↑ ((l_3 ++ nums ns_1).getD i (0 : UInt8)).toNat : Int)) = AV.pl (Value.int k8Q
 (↑ ((l ++ x).getD i (0 : UInt8)).toNat : Int))) /\ (62 = 62 /\ e.kind = e.kind /\ e.node = e.node /\ e.to = e.to /\ e.n = e.n /\ (1 = 1 /\ e.keep.length = e.keep.length /\ ∀ i < e.keep.length, boolF e.keep i = boolF
 e.keep i) /\ (1 = 1 /\ e.conf.length = e.conf.length /\ ∀ i < e.conf.length, intF e.conf i = intF e.conf i) /\ bs e.branch = bs e.branch /\ (2 = 2 /\ e.map.length = e.map.length /\ ∀ i < e.map.length, rowF e.map i = rowF
 e.map i) /\ (3 = 3 /\ e.edit.length = e.edit.length /\ ∀ i < e.edit.length, chgF e.edit i = chgF e.edit i) /\ e.author = e.author /\ bs e.note = bs e.note /\ e.ck = e.ck /\ e.client = e.client /\ e.seq = e.seq /\ bs
 e.cbranch = bs e.cbranch /\ (k8Q = k8Q /\ 32 = 32 /\ ∀ i < 32, e.old i = e.old i) /\ (k8Q = k8Q /\ 32 = 32 /\ ∀ i < 32, e.new i = e.new i) /\ (1 = 1 /\ e.data.length = e.data.length /\ ∀ i < e.data.length, byteF (bs
 e.data) i = byteF (bs e.data) i) /\ True) /\ True) /\ inv7 x) /\ (clsK e.kind = 2 -> ((0 : Int) <= 0 /\ (0 : Int) + 1 <= (↑ (1 : Nat) : Int)) /\ True /\ True /\ (True /\ ((0 : Nat) + 1).le (1 : Nat) /\ True) /\ ∃ (l_2 :
 Bs), ∃ (ns : List Int), (71 = 71 /\ IsBytes (1 : Nat) (5 : Nat) (List.length (l_1 ++ (wordsL.getD ((0 : Nat) + e.kind.toNat) []))) (List.length (l_1 ++ (wordsL.getD ((0 : Nat) + e.kind.toNat) []))) (byteF (bs (l_1 ++
 (wordsL.getD ((0 : Nat) + e.kind.toNat) [])))) l_2 /\ IsInts (AV.rows 1 1 λ (i : Nat) => rowOf [((0 : Nat), nm e.n)] ((0 : Nat) + i)) ns /\ (l_2.length + 22 * ns.length).le lim /\ ∀ (n : Int), n ∈ ns ->
 (-9223372036854775808 : Int) <= n /\ n <= 9223372036854775807) /\ nflB (AV.tup []) = true /\ (nflL [AV.ptr 0 0 0 0, AV.own 2 0 (List.length (l_2 ++ nums ns))] = true /\ True /\ (∀ (i : Nat), i < List.length (l_2 ++ nums
 ns) -> flatB (byteF (bs (l_2 ++ nums ns)) i) = true) /\ True) /\ ∃ (x : Bs), ((True /\ 0 = 0 /\ 0 = 0 /\ 0 = 0) /\ (True /\ 0 = 0 /\ 0 = 0 /\ 0 = 0) /\ True) /\ ((71 = 71 /\ (True /\ 0 = 0 /\ 0 = 0 /\ 0 = 0) /\ (True /\
 0 = 0 /\ List.length (l_2 ++ nums ns) = List.length (l ++ x)) /\ True) /\ True /\ (1 = 1 /\ 5 = 5 /\ (List.length (l ++ x)).le (List.length (l_2 ++ nums ns)) /\ ∀ (i : Nat), i < List.length (l ++ x) -> AV.pl (Value.int
 k8Q (↑ ((l_2 ++ nums ns).getD i (0 : UInt8)).toNat : Int)) = AV.pl (Value.int k8Q (↑ ((l ++ x).getD i (0 : UInt8)).toNat : Int))) /\ (62 = 62 /\ e.kind = e.kind /\ e.node = e.node /\ e.to = e.to /\ e.n = e.n /\ (1 = 1 /\
 e.keep.length = e.keep.length /\ ∀ i < e.keep.length, boolF e.keep i = boolF e.keep i) /\ (1 = 1 /\ e.conf.length = e.conf.length /\ ∀ i < e.conf.length, intF e.conf i = intF e.conf i) /\ bs e.branch = bs e.branch /\ (2
 = 2 /\ e.map.length = e.map.length /\ ∀ i < e.map.length, rowF e.map i = rowF e.map i) /\ (3 = 3 /\ e.edit.length = e.edit.length /\ ∀ i < e.edit.length, chgF e.edit i = chgF e.edit i) /\ e.author = e.author /\ bs e.note
 = bs e.note /\ e.ck = e.ck /\ e.client = e.client /\ e.seq = e.seq /\ bs e.cbranch = bs e.cbranch /\ (k8Q = k8Q /\ 32 = 32 /\ ∀ i < 32, e.old i = e.old i) /\ (k8Q = k8Q /\ 32 = 32 /\ ∀ i < 32, e.new i = e.new i) /\ (1 =
 1 /\ e.data.length = e.data.length /\ ∀ i < e.data.length, byteF (bs e.data) i = byteF (bs e.data) i) /\ True) /\ True) /\ inv7 x) /\ (clsK e.kind = 3 -> ((0 : Int) <= 0 /\ (0 : Int) + 1 <= (↑ (2 : Nat) : Int)) /\ True
 /\ True /\ (True /\ ((0 : Nat) + 1).le (1 : Nat) /\ True) /\ ∃ (l_2 : Bs), ∃ (ns : List Int), (71 = 71 /\ IsBytes (1 : Nat) (5 : Nat) (List.length (l_1 ++ (wordsL.getD ((0 : Nat) + e.kind.toNat) []))) (List.length (l_1
 ++ (wordsL.getD ((0 : Nat) + e.kind.toNat) []))) (byteF (bs (l_1 ++ (wordsL.getD ((0 : Nat) + e.kind.toNat) [])))) l_2 /\ IsInts (AV.rows 1 1 λ (i : Nat) => rowOf [((0 : Nat), nm e.node)] ((0 : Nat) + i)) ns /\
 (l_2.length + 22 * ns.length).le lim /\ ∀ (n : Int), n ∈ ns -> (-9223372036854775808 : Int) <= n /\ n <= 9223372036854775807) /\ nflB (AV.tup []) = true /\ (nflL [AV.ptr 0 0 0 0, AV.own 2 0 (List.length (l_2 ++ nums
 ns))] = true /\ True /\ (∀ (i : Nat), i < List.length (l_2 ++ nums ns) -> flatB (byteF (bs (l_2 ++ nums ns)) i) = true) /\ True) /\ ((0 : Int) <= k64Q.wrap ((0 : Int) + 1) /\ k64Q.wrap ((0 : Int) + 1) + 1 <= (↑ (2 : Nat)
 : Int)) /\ True /\ True /\ (True /\ ((0 : Nat) + 1).le (1 : Nat) /\ True) /\ ∃ (l_3 : Bs), ∃ (ns_1 : List Int), (71 = 71 /\ IsBytes (1 : Nat) (5 : Nat) (List.length (l_2 ++ nums ns)) (List.length (l_2 ++ nums ns)) (byteF
 (bs (l_2 ++ nums ns))) l_3 /\ IsInts (AV.rows 1 1 λ (i : Nat) => rowOf [((0 : Nat), nm e.to)] ((0 : Nat) + i)) ns_1 /\ (l_3.length + 22 * ns_1.length).le lim /\ ∀ (n : Int), n ∈ ns_1 -> (-9223372036854775808 : Int) <=
 n /\ n <= 9223372036854775807) /\ nflB (AV.tup []) = true /\ (nflL [AV.ptr 0 0 0 0, AV.own 2 0 (List.length (l_3 ++ nums ns_1))] = true /\ True /\ (∀ (i : Nat), i < List.length (l_3 ++ nums ns_1) -> flatB (byteF (bs (l_3
 ++ nums ns_1)) i) = true) /\ True) /\ ∃ (x : Bs), ((True /\ 0 = 0 /\ 0 = 0 /\ 0 = 0) /\ (True /\ 0 = 0 /\ 0 = 0 /\ 0 = 0) /\ True) /\ ((71 = 71 /\ (True /\ 0 = 0 /\ 0 = 0 /\ 0 = 0) /\ (True /\ 0 = 0 /\ List.length (l_3
 ++ nums ns_1) = List.length (l ++ x)) /\ True) /\ True /\ (1 = 1 /\ 5 = 5 /\ (List.length (l ++ x)).le (List.length (l_3 ++ nums ns_1)) /\ ∀ (i : Nat), i < List.length (l ++ x) -> AV.pl (Value.int k8Q (↑ ((l_3 ++ nums
 ns_1).getD i (0 : UInt8)).toNat : Int)) = AV.pl (Value.int k8Q (↑ ((l ++ x).getD i (0 : UInt8)).toNat : Int))) /\ (62 = 62 /\ e.kind = e.kind /\ e.node = e.node /\ e.to = e.to /\ e.n = e.n /\ (1 = 1 /\ e.keep.length =
 e.keep.length /\ ∀ i < e.keep.length, boolF e.keep i = boolF e.keep i) /\ (1 = 1 /\ e.conf.length = e.conf.length /\ ∀ i < e.conf.length, intF e.conf i = intF e.conf i) /\ bs e.branch = bs e.branch /\ (2 = 2 /\
 e.map.length = e.map.length /\ ∀ i < e.map.length, rowF e.map i = rowF e.map i) /\ (3 = 3 /\ e.edit.length = e.edit.length /\ ∀ i < e.edit.length, chgF e.edit i = chgF e.edit i) /\ e.author = e.author /\ bs e.note = bs
 e.note /\ e.ck = e.ck /\ e.client = e.client /\ e.seq = e.seq /\ bs e.cbranch = bs e.cbranch /\ (k8Q = k8Q /\ 32 = 32 /\ ∀ i < 32, e.old i = e.old i) /\ (k8Q = k8Q /\ 32 = 32 /\ ∀ i < 32, e.new i = e.new i) /\ (1 = 1 /\
 e.data.length = e.data.length /\ ∀ i < e.data.length, byteF (bs e.data) i = byteF (bs e.data) i) /\ True) /\ True) /\ inv7 x) /\ (clsK e.kind = 4 -> ((0 : Int) <= 0 /\ (0 : Int) + 1 <= (↑ (1 : Nat) : Int)) /\ True /\
 True /\ (True /\ ((0 : Nat) + 1).le (1 : Nat) /\ True) /\ ∃ (l_2 : Bs), ∃ (ns : List Int), (71 = 71 /\ IsBytes (1 : Nat) (5 : Nat) (List.length (l_1 ++ (wordsL.getD ((0 : Nat) + e.kind.toNat) []))) (List.length (l_1 ++
 (wordsL.getD ((0 : Nat) + e.kind.toNat) []))) (byteF (bs (l_1 ++ (wordsL.getD ((0 : Nat) + e.kind.toNat) [])))) l_2 /\ IsInts (AV.rows 1 1 λ (i : Nat) => rowOf [((0 : Nat), nm e.node)] ((0 : Nat) + i)) ns /\
 (l_2.length + 22 * ns.length).le lim /\ ∀ (n : Int), n ∈ ns -> (-9223372036854775808 : Int) <= n /\ n <= 9223372036854775807) /\ nflB (AV.tup []) = true /\ (nflL [AV.ptr 0 0 0 0, AV.own 2 0 (List.length (l_2 ++ nums
 ns))] = true /\ True /\ (∀ (i : Nat), i < List.length (l_2 ++ nums ns) -> flatB (byteF (bs (l_2 ++ nums ns)) i) = true) /\ True) /\ ∃ (x : Bs), ((True /\ 0 = 0 /\ 0 = 0 /\ 0 = 0) /\ (True /\ 0 = 0 /\ 0 = 0 /\ 0 = 0) /\
 True) /\ ((71 = 71 /\ (True /\ 0 = 0 /\ 0 = 0 /\ 0 = 0) /\ (True /\ 0 = 0 /\ List.length (l_2 ++ nums ns) = List.length (l ++ x)) /\ True) /\ True /\ (1 = 1 /\ 5 = 5 /\ (List.length (l ++ x)).le (List.length (l_2 ++ nums
 ns)) /\ ∀ (i : Nat), i < List.length (l ++ x) -> AV.pl (Value.int k8Q (↑ ((l_2 ++ nums ns).getD i (0 : UInt8)).toNat : Int)) = AV.pl (Value.int k8Q (↑ ((l ++ x).getD i (0 : UInt8)).toNat : Int))) /\ (62 = 62 /\ e.kind =
 e.kind /\ e.node = e.node /\ e.to = e.to /\ e.n = e.n /\ (1 = 1 /\ e.keep.length = e.keep.length /\ ∀ i < e.keep.length, boolF e.keep i = boolF e.keep i) /\ (1 = 1 /\ e.conf.length = e.conf.length /\ ∀ i < e.conf.length,
 intF e.conf i = intF e.conf i) /\ bs e.branch = bs e.branch /\ (2 = 2 /\ e.map.length = e.map.length /\ ∀ i < e.map.length, rowF e.map i = rowF e.map i) /\ (3 = 3 /\ e.edit.length = e.edit.length /\ ∀ i < e.edit.length,
 chgF e.edit i = chgF e.edit i) /\ e.author = e.author /\ bs e.note = bs e.note /\ e.ck = e.ck /\ e.client = e.client /\ e.seq = e.seq /\ bs e.cbranch = bs e.cbranch /\ (k8Q = k8Q /\ 32 = 32 /\ ∀ i < 32, e.old i = e.old
 i) /\ (k8Q = k8Q /\ 32 = 32 /\ ∀ i < 32, e.new i = e.new i) /\ (1 = 1 /\ e.data.length = e.data.length /\ ∀ i < e.data.length, byteF (bs e.data) i = byteF (bs e.data) i) /\ True) /\ True) /\ inv7 x) /\ (clsK e.kind = 5
 -> ((0 : Int) <= 0 /\ (0 : Int) + 1 <= (↑ (2 : Nat) : Int)) /\ True /\ True /\ (True /\ ((0 : Nat) + 1).le (1 : Nat) /\ True) /\ ∃ (l_2 : Bs), ∃ (ns : List Int), (71 = 71 /\ IsBytes (1 : Nat) (5 : Nat) (List.length (l_1
 ++ (wordsL.getD ((0 : Nat) + e.kind.toNat) []))) (List.length (l_1 ++ (wordsL.getD ((0 : Nat) + e.kind.toNat) []))) (byteF (bs (l_1 ++ (wordsL.getD ((0 : Nat) + e.kind.toNat) [])))) l_2 /\ IsInts (AV.rows 1 1 λ (i :
 Nat) => rowOf [((0 : Nat), nm e.node)] ((0 : Nat) + i)) ns /\ (l_2.length + 22 * ns.length).le lim /\ ∀ (n : Int), n ∈ ns -> (-9223372036854775808 : Int) <= n /\ n <= 9223372036854775807) /\ nflB (AV.tup []) = true /\
 (nflL [AV.ptr 0 0 0 0, AV.own 2 0 (List.length (l_2 ++ nums ns))] = true /\ True /\ (∀ (i : Nat), i < List.length (l_2 ++ nums ns) -> flatB (byteF (bs (l_2 ++ nums ns)) i) = true) /\ True) /\ ((0 : Int) <= k64Q.wrap ((0
 : Int) + 1) /\ k64Q.wrap ((0 : Int) + 1) + 1 <= (↑ (2 : Nat) : Int)) /\ True /\ True /\ (True /\ ((0 : Nat) + 1).le (1 : Nat) /\ True) /\ ∃ (l_3 : Bs), ∃ (ns_1 : List Int), (71 = 71 /\ IsBytes (1 : Nat) (5 : Nat)
 (List.length (l_2 ++ nums ns)) (List.length (l_2 ++ nums ns)) (byteF (bs (l_2 ++ nums ns))) l_3 /\ IsInts (AV.rows 1 1 λ (i : Nat) => rowOf [((0 : Nat), nm e.ck)] ((0 : Nat) + i)) ns_1 /\ (l_3.length + 22 *
 ns_1.length).le lim /\ ∀ (n : Int), n ∈ ns_1 -> (-9223372036854775808 : Int) <= n /\ n <= 9223372036854775807) /\ nflB (AV.tup []) = true /\ (nflL [AV.ptr 0 0 0 0, AV.own 2 0 (List.length (l_3 ++ nums ns_1))] = true /\
 True /\ (∀ (i : Nat), i < List.length (l_3 ++ nums ns_1) -> flatB (byteF (bs (l_3 ++ nums ns_1)) i) = true) /\ True) /\ ∃ (x : Bs), ((True /\ 0 = 0 /\ 0 = 0 /\ 0 = 0) /\ (True /\ 0 = 0 /\ 0 = 0 /\ 0 = 0) /\ True) /\ ((71
 = 71 /\ (True /\ 0 = 0 /\ 0 = 0 /\ 0 = 0) /\ (True /\ 0 = 0 /\ List.length (l_3 ++ nums ns_1) = List.length (l ++ x)) /\ True) /\ True /\ (1 = 1 /\ 5 = 5 /\ (List.length (l ++ x)).le (List.length (l_3 ++ nums ns_1)) /\ ∀
 (i : Nat), i < List.length (l ++ x) -> AV.pl (Value.int k8Q (↑ ((l_3 ++ nums ns_1).getD i (0 : UInt8)).toNat : Int)) = AV.pl (Value.int k8Q (↑ ((l ++ x).getD i (0 : UInt8)).toNat : Int))) /\ (62 = 62 /\ e.kind = e.kind
 /\ e.node = e.node /\ e.to = e.to /\ e.n = e.n /\ (1 = 1 /\ e.keep.length = e.keep.length /\ ∀ i < e.keep.length, boolF e.keep i = boolF e.keep i) /\ (1 = 1 /\ e.conf.length = e.conf.length /\ ∀ i < e.conf.length, intF
 e.conf i = intF e.conf i) /\ bs e.branch = bs e.branch /\ (2 = 2 /\ e.map.length = e.map.length /\ ∀ i < e.map.length, rowF e.map i = rowF e.map i) /\ (3 = 3 /\ e.edit.length = e.edit.length /\ ∀ i < e.edit.length, chgF
 e.edit i = chgF e.edit i) /\ e.author = e.author /\ bs e.note = bs e.note /\ e.ck = e.ck /\ e.client = e.client /\ e.seq = e.seq /\ bs e.cbranch = bs e.cbranch /\ (k8Q = k8Q /\ 32 = 32 /\ ∀ i < 32, e.old i = e.old i) /\
 (k8Q = k8Q /\ 32 = 32 /\ ∀ i < 32, e.new i = e.new i) /\ (1 = 1 /\ e.data.length = e.data.length /\ ∀ i < e.data.length, byteF (bs e.data) i = byteF (bs e.data) i) /\ True) /\ True) /\ inv7 x) /\ (clsK e.kind = 0 -> ∃ (x
 : Bs), ((True /\ 0 = 0 /\ 0 = 0 /\ 0 = 0) /\ (True /\ 0 = 0 /\ 0 = 0 /\ 0 = 0) /\ True) /\ ((71 = 71 /\ (True /\ 0 = 0 /\ 0 = 0 /\ 0 = 0) /\ (True /\ 0 = 0 /\ List.length (l_1 ++ (wordsL.getD ((0 : Nat) + e.kind.toNat)
 [])) = List.length (l ++ x)) /\ True) /\ True /\ (1 = 1 /\ 5 = 5 /\ (List.length (l ++ x)).le (List.length (l_1 ++ (wordsL.getD ((0 : Nat) + e.kind.toNat) []))) /\ ∀ (i : Nat), i < List.length (l ++ x) -> AV.pl
 (Value.int k8Q (↑ ((l_1 ++ (wordsL.getD ((0 : Nat) + e.kind.toNat) [])).getD i (0 : UInt8)).toNat : Int)) = AV.pl (Value.int k8Q (↑ ((l ++ x).getD i (0 : UInt8)).toNat : Int))) /\ (62 = 62 /\ e.kind = e.kind /\ e.node =
 e.node /\ e.to = e.to /\ e.n = e.n /\ (1 = 1 /\ e.keep.length = e.keep.length /\ ∀ i < e.keep.length, boolF e.keep i = boolF e.keep i) /\ (1 = 1 /\ e.conf.length = e.conf.length /\ ∀ i < e.conf.length, intF e.conf i =
 intF e.conf i) /\ bs e.branch = bs e.branch /\ (2 = 2 /\ e.map.length = e.map.length /\ ∀ i < e.map.length, rowF e.map i = rowF e.map i) /\ (3 = 3 /\ e.edit.length = e.edit.length /\ ∀ i < e.edit.length, chgF e.edit i =
 chgF e.edit i) /\ e.author = e.author /\ bs e.note = bs e.note /\ e.ck = e.ck /\ e.client = e.client /\ e.seq = e.seq /\ bs e.cbranch = bs e.cbranch /\ (k8Q = k8Q /\ 32 = 32 /\ ∀ i < 32, e.old i = e.old i) /\ (k8Q = k8Q
 /\ 32 = 32 /\ ∀ i < 32, e.new i = e.new i) /\ (1 = 1 /\ e.data.length = e.data.length /\ ∀ i < e.data.length, byteF (bs e.data) i = byteF (bs e.data) i) /\ True) /\ True) /\ inv7 x)) /\ ∀ (x : Bs), inv7 x -> ((stampedK
 e.kind = true -> True /\ (True /\ ((0 : Nat) + 1).le (1 : Nat) /\ True) /\ ∃ (l_2 : Bs), ∃ (ns : List Int), (71 = 71 /\ IsBytes (1 : Nat) (5 : Nat) (List.length (l ++ x)) (List.length (l ++ x)) (byteF (bs (l ++ x))) l_2
 /\ IsInts (AV.rows 1 1 λ (i : Nat) => rowOf [((0 : Nat), nm (k64Q.wrap e.author))] ((0 : Nat) + i)) ns /\ (l_2.length + 22 * ns.length).le lim /\ ∀ (n : Int), n ∈ ns -> (-9223372036854775808 : Int) <= n /\ n <=
 9223372036854775807) /\ nflB (AV.tup []) = true /\ (nflL [AV.ptr 0 0 0 0, AV.own 2 0 (List.length (l_2 ++ nums ns))] = true /\ True /\ (∀ (i : Nat), i < List.length (l_2 ++ nums ns) -> flatB (byteF (bs (l_2 ++ nums ns))
 i) = true) /\ True) /\ True /\ (True /\ ((0 : Nat) + 2).le (2 : Nat) /\ True) /\ ∃ (l_3 : Bs), ∃ (ls : List Bs), (71 = 71 /\ IsBytes (1 : Nat) (5 : Nat) (List.length (l_2 ++ nums ns)) (List.length (l_2 ++ nums ns))
 (byteF (bs (l_2 ++ nums ns))) l_3 /\ IsTexts (AV.rows 1 2 λ (i : Nat) => rowOf [((0 : Nat), sl e.branch), ((1 : Nat), sl e.note)] ((0 : Nat) + i)) ls /\ (l_3.length + txtLen ls).le lim) /\ nflB (AV.tup []) = true /\
 (nflL [AV.ptr 0 0 0 0, AV.own 2 0 (List.length (l_3 ++ txts ls))] = true /\ True /\ (∀ (i : Nat), i < List.length (l_3 ++ txts ls) -> flatB (byteF (bs (l_3 ++ txts ls)) i) = true) /\ True) /\ ∃ (x : Bs), ((True /\ 0 = 0
 /\ 0 = 0 /\ 0 = 0) /\ (True /\ 0 = 0 /\ 0 = 0 /\ 0 = 0) /\ True) /\ ((71 = 71 /\ (True /\ 0 = 0 /\ 0 = 0 /\ 0 = 0) /\ (True /\ 0 = 0 /\ List.length (l_3 ++ txts ls) = List.length (l ++ x)) /\ True) /\ True /\ (1 = 1 /\ 5
 = 5 /\ (List.length (l ++ x)).le (List.length (l_3 ++ txts ls)) /\ ∀ (i : Nat), i < List.length (l ++ x) -> AV.pl (Value.int k8Q (↑ ((l_3 ++ txts ls).getD i (0 : UInt8)).toNat : Int)) = AV.pl (Value.int k8Q (↑ ((l ++
 x).getD i (0 : UInt8)).toNat : Int))) /\ (62 = 62 /\ e.kind = e.kind /\ e.node = e.node /\ e.to = e.to /\ e.n = e.n /\ (1 = 1 /\ e.keep.length = e.keep.length /\ ∀ i < e.keep.length, boolF e.keep i = boolF e.keep i) /\
 (1 = 1 /\ e.conf.length = e.conf.length /\ ∀ i < e.conf.length, intF e.conf i = intF e.conf i) /\ bs e.branch = bs e.branch /\ (2 = 2 /\ e.map.length = e.map.length /\ ∀ i < e.map.length, rowF e.map i = rowF e.map i) /\
 (3 = 3 /\ e.edit.length = e.edit.length /\ ∀ i < e.edit.length, chgF e.edit i = chgF e.edit i) /\ e.author = e.author /\ bs e.note = bs e.note /\ e.ck = e.ck /\ e.client = e.client /\ e.seq = e.seq /\ bs e.cbranch = bs
 e.cbranch /\ (k8Q = k8Q /\ 32 = 32 /\ ∀ i < 32, e.old i = e.old i) /\ (k8Q = k8Q /\ 32 = 32 /\ ∀ i < 32, e.new i = e.new i) /\ (1 = 1 /\ e.data.length = e.data.length /\ ∀ i < e.data.length, byteF (bs e.data) i = byteF
 (bs e.data) i) /\ True) /\ True) /\ inv10 x) /\ (stampedK e.kind = false -> ∃ (x_1 : Bs), ((True /\ 0 = 0 /\ 0 = 0 /\ 0 = 0) /\ (True /\ 0 = 0 /\ 0 = 0 /\ 0 = 0) /\ True) /\ ((71 = 71 /\ (True /\ 0 = 0 /\ 0 = 0 /\ 0 = 0)
 /\ (True /\ 0 = 0 /\ List.length (l ++ x) = List.length (l ++ x_1)) /\ True) /\ True /\ (1 = 1 /\ 5 = 5 /\ (List.length (l ++ x_1)).le (List.length (l ++ x)) /\ ∀ (i : Nat), i < List.length (l ++ x_1) -> AV.pl (Value.int
 k8Q (↑ ((l ++ x).getD i (0 : UInt8)).toNat : Int)) = AV.pl (Value.int k8Q (↑ ((l ++ x_1).getD i (0 : UInt8)).toNat : Int))) /\ (62 = 62 /\ e.kind = e.kind /\ e.node = e.node /\ e.to = e.to /\ e.n = e.n /\ (1 = 1 /\
 e.keep.length = e.keep.length /\ ∀ i < e.keep.length, boolF e.keep i = boolF e.keep i) /\ (1 = 1 /\ e.conf.length = e.conf.length /\ ∀ i < e.conf.length, intF e.conf i = intF e.conf i) /\ bs e.branch = bs e.branch /\ (2
 = 2 /\ e.map.length = e.map.length /\ ∀ i < e.map.length, rowF e.map i = rowF e.map i) /\ (3 = 3 /\ e.edit.length = e.edit.length /\ ∀ i < e.edit.length, chgF e.edit i = chgF e.edit i) /\ e.author = e.author /\ bs e.note
 = bs e.note /\ e.ck = e.ck /\ e.client = e.client /\ e.seq = e.seq /\ bs e.cbranch = bs e.cbranch /\ (k8Q = k8Q /\ 32 = 32 /\ ∀ i < 32, e.old i = e.old i) /\ (k8Q = k8Q /\ 32 = 32 /\ ∀ i < 32, e.new i = e.new i) /\ (1 =
 1 /\ e.data.length = e.data.length /\ ∀ i < e.data.length, byteF (bs e.data) i = byteF (bs e.data) i) /\ True) /\ True) /\ inv10 x_1)) /\ ∀ (x : Bs), inv10 x -> (((e.kind == 8) = true -> (True /\ True /\ True) /\ ∃ (l_2
 : Bs), (71 = 71 /\ IsBytes (1 : Nat) (5 : Nat) (List.length (l ++ x)) (List.length (l ++ x)) (byteF (bs (l ++ x))) l_2 /\ (l_2.length + (ByteArray.mk #[32, 61]).size).le lim) /\ (∃ (x_1 : Nat), ((True
 /\ 0 = 0 /\ 0 = 0 /\ 0 = 0) /\ (True /\ 0 = 0 /\ 0 = 0 /\ 0 = 0) /\ (1 = 1 /\ e.keep.length = e.keep.length /\ ∀ i < e.keep.length, boolF e.keep i = boolF e.keep i) /\ (↑e.keep.length : Int) = (↑e.keep.length : Int) /\
 (0 : Int) = (x_1 : Int) /\ True) /\ ((71 = 71 /\ (True /\ 0 = 0 /\ 0 = 0 /\ 0 = 0) /\ (True /\ 0 = 0 /\ List.length (l_2 ++ ([32, 61] : Bs)) = List.length (l ++ (x ++ ([(32 : UInt8), (61 : UInt8)] ++ bitsL (List.take
 x_1 e.keep))))) /\ True) /\ True /\ (1 = 1 /\ 5 = 5 /\ (List.length (l ++ (x ++ ([(32 : UInt8), (61 : UInt8)] ++ bitsL (List.take x_1 e.keep))))).le (List.length (l_2 ++ ([32, 61] : Bs))) /\ ∀ (i : Nat), i < List.length
 (l ++ (x ++ ([(32 : UInt8), (61 : UInt8)] ++ bitsL (List.take x_1 e.keep)))) -> AV.pl (Value.int k8Q (↑ ((l_2 ++ ([32, 61] : Bs)).getD i (0 : UInt8)).toNat : Int)) = AV.pl (Value.int k8Q (↑ ((l ++ (x ++ ([(32 : UInt8),
 (61 : UInt8)] ++ bitsL (List.take x_1 e.keep)))).getD i (0 : UInt8)).toNat : Int))) /\ (62 = 62 /\ e.kind = e.kind /\ e.node = e.node /\ e.to = e.to /\ e.n = e.n /\ (1 = 1 /\ e.keep.length = e.keep.length /\ ∀ i <
 e.keep.length, boolF e.keep i = boolF e.keep i) /\ (1 = 1 /\ e.conf.length = e.conf.length /\ ∀ i < e.conf.length, intF e.conf i = intF e.conf i) /\ bs e.branch = bs e.branch /\ (2 = 2 /\ e.map.length = e.map.length /\ ∀
 i < e.map.length, rowF e.map i = rowF e.map i) /\ (3 = 3 /\ e.edit.length = e.edit.length /\ ∀ i < e.edit.length, chgF e.edit i = chgF e.edit i) /\ e.author = e.author /\ bs e.note = bs e.note /\ e.ck = e.ck /\ e.client
 = e.client /\ e.seq = e.seq /\ bs e.cbranch = bs e.cbranch /\ (k8Q = k8Q /\ 32 = 32 /\ ∀ i < 32, e.old i = e.old i) /\ (k8Q = k8Q /\ 32 = 32 /\ ∀ i < 32, e.new i = e.new i) /\ (1 = 1 /\ e.data.length = e.data.length /\ ∀
 i < e.data.length, byteF (bs e.data) i = byteF (bs e.data) i) /\ True) /\ True) /\ inv14 x x_1) /\ ∀ (x_1 : Nat), inv14 x x_1 -> (decide ((x_1 : Int) < (↑e.keep.length : Int)) = true -> ((0 : Int) <= (x_1 : Int) /\
 (x_1 : Int) + 1 <= (↑e.keep.length : Int)) /\ (e.keep.getD (x_1 : Int).toNat false = true -> (True /\ True /\ True) /\ ∃ (l_3 : Bs), (71 = 71 /\ IsBytes (1 : Nat) (5 : Nat) (List.length (l ++ (x ++ ([(32 : UInt8), (61
 : UInt8)] ++ bitsL (List.take x_1 e.keep))))) (List.length (l ++ (x ++ ([(32 : UInt8), (61 : UInt8)] ++ bitsL (List.take x_1 e.keep))))) (byteF (bs (l ++ (x ++ ([(32 : UInt8), (61 : UInt8)] ++ bitsL (List.take x_1
 e.keep)))))) l_3 /\ (l_3.length + 1).le lim /\ (0 : Int) <= k8Q.wrap ((48 : Int) + 1) /\ k8Q.wrap ((48 : Int) + 1) + 1 <= 256) /\ ∃ (y : Nat), ((True /\ 0 = 0 /\ 0 = 0 /\ 0 = 0) /\ (True /\ 0 = 0 /\ 0 = 0 /\ 0 = 0) /\ (1
 = 1 /\ e.keep.length = e.keep.length /\ ∀ i < e.keep.length, boolF e.keep i = boolF e.keep i) /\ (↑e.keep.length : Int) = (↑e.keep.length : Int) /\ k64Q.wrap ((x_1 : Int) + 1) = (y : Int) /\ True) /\ ((71 = 71 /\ (True
 /\ 0 = 0 /\ 0 = 0 /\ 0 = 0) /\ (True /\ 0 = 0 /\ List.length (l_3 ++ [UInt8.ofNat (k8Q.wrap ((48 : Int) + 1)).toNat]) = List.length (l ++ (x ++ ([(32 : UInt8), (61 : UInt8)] ++ bitsL (List.take y e.keep))))) /\ True) /\
 True /\ (1 = 1 /\ 5 = 5 /\ (List.length (l ++ (x ++ ([(32 : UInt8), (61 : UInt8)] ++ bitsL (List.take y e.keep))))).le (List.length (l_3 ++ [UInt8.ofNat (k8Q.wrap ((48 : Int) + 1)).toNat])) /\ ∀ (i : Nat), i <
 List.length (l ++ (x ++ ([(32 : UInt8), (61 : UInt8)] ++ bitsL (List.take y e.keep)))) -> AV.pl (Value.int k8Q (↑ ((l_3 ++ [UInt8.ofNat (k8Q.wrap ((48 : Int) + 1)).toNat]).getD i (0 : UInt8)).toNat : Int)) = AV.pl
 (Value.int k8Q (↑ ((l ++ (x ++ ([(32 : UInt8), (61 : UInt8)] ++ bitsL (List.take y e.keep)))).getD i (0 : UInt8)).toNat : Int))) /\ (62 = 62 /\ e.kind = e.kind /\ e.node = e.node /\ e.to = e.to /\ e.n = e.n /\ (1 = 1 /\
 e.keep.length = e.keep.length /\ ∀ i < e.keep.length, boolF e.keep i = boolF e.keep i) /\ (1 = 1 /\ e.conf.length = e.conf.length /\ ∀ i < e.conf.length, intF e.conf i = intF e.conf i) /\ bs e.branch = bs e.branch /\ (2
 = 2 /\ e.map.length = e.map.length /\ ∀ i < e.map.length, rowF e.map i = rowF e.map i) /\ (3 = 3 /\ e.edit.length = e.edit.length /\ ∀ i < e.edit.length, chgF e.edit i = chgF e.edit i) /\ e.author = e.author /\ bs e.note
 = bs e.note /\ e.ck = e.ck /\ e.client = e.client /\ e.seq = e.seq /\ bs e.cbranch = bs e.cbranch /\ (k8Q = k8Q /\ 32 = 32 /\ ∀ i < 32, e.old i = e.old i) /\ (k8Q = k8Q /\ 32 = 32 /\ ∀ i < 32, e.new i = e.new i) /\ (1 =
 1 /\ e.data.length = e.data.length /\ ∀ i < e.data.length, byteF (bs e.data) i = byteF (bs e.data) i) /\ True) /\ True) /\ inv14 x y /\ (e.keep.length - y).succ.le (e.keep.length - x_1)) /\ (e.keep.getD (↑x_1 :
 Int).toNat false = false -> (True /\ True /\ True) /\ ∃ (l_3 : Bs), (71 = 71 /\ IsBytes (1 : Nat) (5 : Nat) (List.length (l ++ (x ++ ([(32 : UInt8), (61 : UInt8)] ++ bitsL (List.take x_1 e.keep))))) (List.length (l ++ (x
 ++ ([(32 : UInt8), (61 : UInt8)] ++ bitsL (List.take x_1 e.keep))))) (byteF (bs (l ++ (x ++ ([(32 : UInt8), (61 : UInt8)] ++ bitsL (List.take x_1 e.keep)))))) l_3 /\ (l_3.length + 1).le lim /\ (0 : Int) <= 48 /\ (48 :
 Int) + 1 <= 256) /\ ∃ (y : Nat), ((True /\ 0 = 0 /\ 0 = 0 /\ 0 = 0) /\ (True /\ 0 = 0 /\ 0 = 0 /\ 0 = 0) /\ (1 = 1 /\ e.keep.length = e.keep.length /\ ∀ i < e.keep.length, boolF e.keep i = boolF e.keep i) /\
 (↑e.keep.length : Int) = (↑e.keep.length : Int) /\ k64Q.wrap ((x_1 : Int) + 1) = (y : Int) /\ True) /\ ((71 = 71 /\ (True /\ 0 = 0 /\ 0 = 0 /\ 0 = 0) /\ (True /\ 0 = 0 /\ List.length (l_3 ++ [UInt8.ofNat (Int.toNat
 48)]) = List.length (l ++ (x ++ ([(32 : UInt8), (61 : UInt8)] ++ bitsL (List.take y e.keep))))) /\ True) /\ True /\ (1 = 1 /\ 5 = 5 /\ (List.length (l ++ (x ++ ([(32 : UInt8), (61 : UInt8)] ++ bitsL (List.take y
 e.keep))))).le (List.length (l_3 ++ [UInt8.ofNat (Int.toNat 48)])) /\ ∀ (i : Nat), i < List.length (l ++ (x ++ ([(32 : UInt8), (61 : UInt8)] ++ bitsL (List.take y e.keep)))) -> AV.pl (Value.int k8Q (↑ ((l_3 ++
 [UInt8.ofNat (Int.toNat 48)]).getD i (0 : UInt8)).toNat : Int)) = AV.pl (Value.int k8Q (↑ ((l ++ (x ++ ([(32 : UInt8), (61 : UInt8)] ++ bitsL (List.take y e.keep)))).getD i (0 : UInt8)).toNat : Int))) /\ (62 = 62 /\
 e.kind = e.kind /\ e.node = e.node /\ e.to = e.to /\ e.n = e.n /\ (1 = 1 /\ e.keep.length = e.keep.length /\ ∀ i < e.keep.length, boolF e.keep i = boolF e.keep i) /\ (1 = 1 /\ e.conf.length = e.conf.length /\ ∀ i <
 e.conf.length, intF e.conf i = intF e.conf i) /\ bs e.branch = bs e.branch /\ (2 = 2 /\ e.map.length = e.map.length /\ ∀ i < e.map.length, rowF e.map i = rowF e.map i) /\ (3 = 3 /\ e.edit.length = e.edit.length /\ ∀ i <
 e.edit.length, chgF e.edit i = chgF e.edit i) /\ e.author = e.author /\ bs e.note = bs e.note /\ e.ck = e.ck /\ e.client = e.client /\ e.seq = e.seq /\ bs e.cbranch = bs e.cbranch /\ (k8Q = k8Q /\ 32 = 32 /\ ∀ i < 32,
 e.old i = e.old i) /\ (k8Q = k8Q /\ 32 = 32 /\ ∀ i < 32, e.new i = e.new i) /\ (1 = 1 /\ e.data.length = e.data.length /\ ∀ i < e.data.length, byteF (bs e.data) i = byteF (bs e.data) i) /\ True) /\ True) /\ inv14 x y /\
 (e.keep.length - y).succ.le (e.keep.length - x_1))) /\ (decide ((x_1 : Int) < (↑e.keep.length : Int)) = false -> ∃ (x_2 : Bs), ((True /\ 0 = 0 /\ 0 = 0 /\ 0 = 0) /\ (True /\ 0 = 0 /\ 0 = 0 /\ 0 = 0) /\ True) /\ ((71 =
 71 /\ (True /\ 0 = 0 /\ 0 = 0 /\ 0 = 0) /\ (True /\ 0 = 0 /\ List.length (l ++ (x ++ ([(32 : UInt8), (61 : UInt8)] ++ bitsL (List.take x_1 e.keep)))) = List.length (l ++ x_2)) /\ True) /\ True /\ (1 = 1 /\ 5 = 5 /\
 (List.length (l ++ x_2)).le (List.length (l ++ (x ++ ([(32 : UInt8), (61 : UInt8)] ++ bitsL (List.take x_1 e.keep))))) /\ ∀ (i : Nat), i < List.length (l ++ x_2) -> AV.pl (Value.int k8Q (↑ ((l ++ (x ++ ([(32 : UInt8),
 (61 : UInt8)] ++ bitsL (List.take x_1 e.keep)))).getD i (0 : UInt8)).toNat : Int)) = AV.pl (Value.int k8Q (↑ ((l ++ x_2).getD i (0 : UInt8)).toNat : Int))) /\ (62 = 62 /\ e.kind = e.kind /\ e.node = e.node /\ e.to = e.to
 /\ e.n = e.n /\ (1 = 1 /\ e.keep.length = e.keep.length /\ ∀ i < e.keep.length, boolF e.keep i = boolF e.keep i) /\ (1 = 1 /\ e.conf.length = e.conf.length /\ ∀ i < e.conf.length, intF e.conf i = intF e.conf i) /\ bs
 e.branch = bs e.branch /\ (2 = 2 /\ e.map.length = e.map.length /\ ∀ i < e.map.length, rowF e.map i = rowF e.map i) /\ (3 = 3 /\ e.edit.length = e.edit.length /\ ∀ i < e.edit.length, chgF e.edit i = chgF e.edit i) /\
 e.author = e.author /\ bs e.note = bs e.note /\ e.ck = e.ck /\ e.client = e.client /\ e.seq = e.seq /\ bs e.cbranch = bs e.cbranch /\ (k8Q = k8Q /\ 32 = 32 /\ ∀ i < 32, e.old i = e.old i) /\ (k8Q = k8Q /\ 32 = 32 /\ ∀ i
 < 32, e.new i = e.new i) /\ (1 = 1 /\ e.data.length = e.data.length /\ ∀ i < e.data.length, byteF (bs e.data) i = byteF (bs e.data) i) /\ True) /\ True) /\ inv24 x_2)) /\ ((e.kind == 8) = false -> ((e.kind == 14) = true
 -> True /\ (True /\ ((0 : Nat) + 1).le (1 : Nat) /\ True) /\ ∃ (l_2 : Bs), ∃ (ls : List Bs), (71 = 71 /\ IsBytes (1 : Nat) (5 : Nat) (List.length (l ++ x)) (List.length (l ++ x)) (byteF (bs (l ++ x))) l_2 /\ IsTexts
 (AV.rows 1 1 λ (i : Nat) => rowOf [((0 : Nat), sl e.cbranch)] ((0 : Nat) + i)) ls /\ (l_2.length + txtLen ls).le lim) /\ nflB (AV.tup []) = true /\ (nflL [AV.ptr 0 0 0 0, AV.own 2 0 (List.length (l_2 ++ txts ls))] =
 true /\ True /\ (∀ (i : Nat), i < List.length (l_2 ++ txts ls) -> flatB (byteF (bs (l_2 ++ txts ls)) i) = true) /\ True) /\ (∀ i < 32, (0 : Int) <= e.new i /\ e.new i + 1 <= 256) /\ ((ByteArray.mk #[32]).size +
 (List.length (idL e.new))).le (9223372036854775807 : Nat) /\ (True /\ True /\ True) /\ ∃ (l_3 : Bs), (71 = 71 /\ IsBytes (1 : Nat) (5 : Nat) (List.length (l_2 ++ txts ls)) (List.length (l_2 ++ txts ls)) (byteF (bs (l_2
 ++ txts ls))) l_3 /\ (l_3.length + (ByteArray.mk #[32] ++ bs (idL e.new)).size).le lim) /\ ∃ (x : Bs), ((True /\ 0 = 0 /\ 0 = 0 /\ 0 = 0) /\ (True /\ 0 = 0 /\ 0 = 0 /\ 0 = 0) /\ True) /\ ((71 = 71 /\ (True /\ 0
 = 0 /\ 0 = 0 /\ 0 = 0) /\ (True /\ 0 = 0 /\ List.length (l_3 ++ (ByteArray.mk #[32] ++ bs (idL e.new)).data.toList) = List.length (l ++ x)) /\ True) /\ True /\ (1 = 1 /\ 5 = 5 /\ (List.length (l ++ x)).le
 (List.length (l_3 ++ (ByteArray.mk #[32] ++ bs (idL e.new)).data.toList)) /\ ∀ (i : Nat), i < List.length (l ++ x) -> AV.pl (Value.int k8Q (↑ ((l_3 ++ (ByteArray.mk #[32] ++ bs (idL
 e.new)).data.toList).getD i (0 : UInt8)).toNat : Int)) = AV.pl (Value.int k8Q (↑ ((l ++ x).getD i (0 : UInt8)).toNat : Int))) /\ (62 = 62 /\ e.kind = e.kind /\ e.node = e.node /\ e.to = e.to /\ e.n = e.n /\ (1 = 1 /\
 e.keep.length = e.keep.length /\ ∀ i < e.keep.length, boolF e.keep i = boolF e.keep i) /\ (1 = 1 /\ e.conf.length = e.conf.length /\ ∀ i < e.conf.length, intF e.conf i = intF e.conf i) /\ bs e.branch = bs e.branch /\ (2
 = 2 /\ e.map.length = e.map.length /\ ∀ i < e.map.length, rowF e.map i = rowF e.map i) /\ (3 = 3 /\ e.edit.length = e.edit.length /\ ∀ i < e.edit.length, chgF e.edit i = chgF e.edit i) /\ e.author = e.author /\ bs e.note
 = bs e.note /\ e.ck = e.ck /\ e.client = e.client /\ e.seq = e.seq /\ bs e.cbranch = bs e.cbranch /\ (k8Q = k8Q /\ 32 = 32 /\ ∀ i < 32, e.old i = e.old i) /\ (k8Q = k8Q /\ 32 = 32 /\ ∀ i < 32, e.new i = e.new i) /\ (1 =
 1 /\ e.data.length = e.data.length /\ ∀ i < e.data.length, byteF (bs e.data) i = byteF (bs e.data) i) /\ True) /\ True) /\ inv24 x) /\ ((e.kind == 14) = false -> ∃ (x_1 : Bs), ((True /\ 0 = 0 /\ 0 = 0 /\ 0 = 0) /\ (True
 /\ 0 = 0 /\ 0 = 0 /\ 0 = 0) /\ True) /\ ((71 = 71 /\ (True /\ 0 = 0 /\ 0 = 0 /\ 0 = 0) /\ (True /\ 0 = 0 /\ List.length (l ++ x) = List.length (l ++ x_1)) /\ True) /\ True /\ (1 = 1 /\ 5 = 5 /\ (List.length (l ++
 x_1)).le (List.length (l ++ x)) /\ ∀ (i : Nat), i < List.length (l ++ x_1) -> AV.pl (Value.int k8Q (↑ ((l ++ x).getD i (0 : UInt8)).toNat : Int)) = AV.pl (Value.int k8Q (↑ ((l ++ x_1).getD i (0 : UInt8)).toNat : Int)))
 /\ (62 = 62 /\ e.kind = e.kind /\ e.node = e.node /\ e.to = e.to /\ e.n = e.n /\ (1 = 1 /\ e.keep.length = e.keep.length /\ ∀ i < e.keep.length, boolF e.keep i = boolF e.keep i) /\ (1 = 1 /\ e.conf.length = e.conf.length
 /\ ∀ i < e.conf.length, intF e.conf i = intF e.conf i) /\ bs e.branch = bs e.branch /\ (2 = 2 /\ e.map.length = e.map.length /\ ∀ i < e.map.length, rowF e.map i = rowF e.map i) /\ (3 = 3 /\ e.edit.length = e.edit.length
 /\ ∀ i < e.edit.length, chgF e.edit i = chgF e.edit i) /\ e.author = e.author /\ bs e.note = bs e.note /\ e.ck = e.ck /\ e.client = e.client /\ e.seq = e.seq /\ bs e.cbranch = bs e.cbranch /\ (k8Q = k8Q /\ 32 = 32 /\ ∀ i
 < 32, e.old i = e.old i) /\ (k8Q = k8Q /\ 32 = 32 /\ ∀ i < 32, e.new i = e.new i) /\ (1 = 1 /\ e.data.length = e.data.length /\ ∀ i < e.data.length, byteF (bs e.data) i = byteF (bs e.data) i) /\ True) /\ True) /\ inv24
 x_1))) /\ ∀ (x : Bs), inv24 x -> (True /\ True /\ True) /\ ∃ (l_2 : Bs), ∃ (ns : List Int), (71 = 71 /\ IsBytes (1 : Nat) (5 : Nat) (List.length (l ++ x)) (List.length (l ++ x)) (byteF (bs (l ++ x))) l_2 /\ IsInts
 (AV.rows 1 e.conf.length (intF e.conf)) ns /\ (l_2.length + 22 * ns.length).le lim /\ ∀ (n : Int), n ∈ ns -> (-9223372036854775808 : Int) <= n /\ n <= 9223372036854775807) /\ ((∃ (x_1 : Nat), ((True /\ 0 = 0 /\ 0 = 0 /\
 0 = 0) /\ (True /\ 0 = 0 /\ 0 = 0 /\ 0 = 0) /\ (2 = 2 /\ e.map.length = e.map.length /\ ∀ i < e.map.length, rowF e.map i = rowF e.map i) /\ (↑e.map.length : Int) = (↑e.map.length : Int) /\ (0 : Int) = (x_1 : Int) /\
 True) /\ ((71 = 71 /\ (True /\ 0 = 0 /\ 0 = 0 /\ 0 = 0) /\ (True /\ 0 = 0 /\ List.length (l_2 ++ nums ns) = List.length (l ++ (x ++ nums e.conf ++ List.flatMap (λ (r : Bs × Bs) => txts [r.1, r.2]) (List.take x_1
 e.map)))) /\ True) /\ True /\ (1 = 1 /\ 5 = 5 /\ (List.length (l ++ (x ++ nums e.conf ++ List.flatMap (λ (r : Bs × Bs) => txts [r.1, r.2]) (List.take x_1 e.map)))).le (List.length (l_2 ++ nums ns)) /\ ∀ (i : Nat), i <
 List.length (l ++ (x ++ nums e.conf ++ List.flatMap (λ (r : Bs × Bs) => txts [r.1, r.2]) (List.take x_1 e.map))) -> AV.pl (Value.int k8Q (↑ ((l_2 ++ nums ns).getD i (0 : UInt8)).toNat : Int)) = AV.pl (Value.int k8Q (↑
 ((l ++ (x ++ nums e.conf ++ List.flatMap (λ (r : Bs × Bs) => txts [r.1, r.2]) (List.take x_1 e.map))).getD i (0 : UInt8)).toNat : Int))) /\ (62 = 62 /\ e.kind = e.kind /\ e.node = e.node /\ e.to = e.to /\ e.n = e.n /\
 (1 = 1 /\ e.keep.length = e.keep.length /\ ∀ i < e.keep.length, boolF e.keep i = boolF e.keep i) /\ (1 = 1 /\ e.conf.length = e.conf.length /\ ∀ i < e.conf.length, intF e.conf i = intF e.conf i) /\ bs e.branch = bs
 e.branch /\ (2 = 2 /\ e.map.length = e.map.length /\ ∀ i < e.map.length, rowF e.map i = rowF e.map i) /\ (3 = 3 /\ e.edit.length = e.edit.length /\ ∀ i < e.edit.length, chgF e.edit i = chgF e.edit i) /\ e.author =
 e.author /\ bs e.note = bs e.note /\ e.ck = e.ck /\ e.client = e.client /\ e.seq = e.seq /\ bs e.cbranch = bs e.cbranch /\ (k8Q = k8Q /\ 32 = 32 /\ ∀ i < 32, e.old i = e.old i) /\ (k8Q = k8Q /\ 32 = 32 /\ ∀ i < 32, e.new
 i = e.new i) /\ (1 = 1 /\ e.data.length = e.data.length /\ ∀ i < e.data.length, byteF (bs e.data) i = byteF (bs e.data) i) /\ True) /\ True) /\ inv26 x x_1) /\ ∀ (x_1 : Nat), inv26 x x_1 -> (decide ((x_1 : Int) <
 (↑e.map.length : Int)) = true -> ((0 : Int) <= (x_1 : Int) /\ (x_1 : Int) + 1 <= (↑e.map.length : Int)) /\ True /\ True /\ True /\ (True /\ ((0 : Nat) + 2).le (2 : Nat) /\ True) /\ ∃ (l_3 : Bs), ∃ (ls : List Bs), (71 =
 71 /\ IsBytes (1 : Nat) (5 : Nat) (List.length (l ++ (x ++ nums e.conf ++ List.flatMap (λ (r : Bs × Bs) => txts [r.1, r.2]) (List.take x_1 e.map)))) (List.length (l ++ (x ++ nums e.conf ++ List.flatMap (λ (r : Bs ×
 Bs) => txts [r.1, r.2]) (List.take x_1 e.map)))) (byteF (bs (l ++ (x ++ nums e.conf ++ List.flatMap (λ (r : Bs × Bs) => txts [r.1, r.2]) (List.take x_1 e.map))))) l_3 /\ IsTexts (AV.rows 1 2 λ (i : Nat) => rowOf [((0
 : Nat), sl (e.map.getD (x_1 : Int).toNat ([], [])).1), ((1 : Nat), sl (e.map.getD (x_1 : Int).toNat ([], [])).2)] ((0 : Nat) + i)) ls /\ (l_3.length + txtLen ls).le lim) /\ nflB (AV.tup []) = true /\ (nflL [AV.ptr 0 0
 0 0, AV.own 2 0 (List.length (l_3 ++ txts ls))] = true /\ True /\ (∀ (i : Nat), i < List.length (l_3 ++ txts ls) -> flatB (byteF (bs (l_3 ++ txts ls)) i) = true) /\ True) /\ ∃ (y : Nat), ((True /\ 0 = 0 /\ 0 = 0 /\ 0 =
 0) /\ (True /\ 0 = 0 /\ 0 = 0 /\ 0 = 0) /\ (2 = 2 /\ e.map.length = e.map.length /\ ∀ i < e.map.length, rowF e.map i = rowF e.map i) /\ (↑e.map.length : Int) = (↑e.map.length : Int) /\ k64Q.wrap ((x_1 : Int) + 1) = (↑y
 : Int) /\ True) /\ ((71 = 71 /\ (True /\ 0 = 0 /\ 0 = 0 /\ 0 = 0) /\ (True /\ 0 = 0 /\ List.length (l_3 ++ txts ls) = List.length (l ++ (x ++ nums e.conf ++ List.flatMap (λ (r : Bs × Bs) => txts [r.1, r.2]) (List.take
 y e.map)))) /\ True) /\ True /\ (1 = 1 /\ 5 = 5 /\ (List.length (l ++ (x ++ nums e.conf ++ List.flatMap (λ (r : Bs × Bs) => txts [r.1, r.2]) (List.take y e.map)))).le (List.length (l_3 ++ txts ls)) /\ ∀ (i : Nat), i <
 List.length (l ++ (x ++ nums e.conf ++ List.flatMap (λ (r : Bs × Bs) => txts [r.1, r.2]) (List.take y e.map))) -> AV.pl (Value.int k8Q (↑ ((l_3 ++ txts ls).getD i (0 : UInt8)).toNat : Int)) = AV.pl (Value.int k8Q (↑
 ((l ++ (x ++ nums e.conf ++ List.flatMap (λ (r : Bs × Bs) => txts [r.1, r.2]) (List.take y e.map))).getD i (0 : UInt8)).toNat : Int))) /\ (62 = 62 /\ e.kind = e.kind /\ e.node = e.node /\ e.to = e.to /\ e.n = e.n /\ (1
 = 1 /\ e.keep.length = e.keep.length /\ ∀ i < e.keep.length, boolF e.keep i = boolF e.keep i) /\ (1 = 1 /\ e.conf.length = e.conf.length /\ ∀ i < e.conf.length, intF e.conf i = intF e.conf i) /\ bs e.branch = bs e.branch
 /\ (2 = 2 /\ e.map.length = e.map.length /\ ∀ i < e.map.length, rowF e.map i = rowF e.map i) /\ (3 = 3 /\ e.edit.length = e.edit.length /\ ∀ i < e.edit.length, chgF e.edit i = chgF e.edit i) /\ e.author = e.author /\ bs
 e.note = bs e.note /\ e.ck = e.ck /\ e.client = e.client /\ e.seq = e.seq /\ bs e.cbranch = bs e.cbranch /\ (k8Q = k8Q /\ 32 = 32 /\ ∀ i < 32, e.old i = e.old i) /\ (k8Q = k8Q /\ 32 = 32 /\ ∀ i < 32, e.new i = e.new i)
 /\ (1 = 1 /\ e.data.length = e.data.length /\ ∀ i < e.data.length, byteF (bs e.data) i = byteF (bs e.data) i) /\ True) /\ True) /\ inv26 x y /\ (e.map.length - y).succ.le (e.map.length - x_1)) /\ (decide ((x_1 : Int) <
 (↑e.map.length : Int)) = false -> ∃ (x_2 : Bs), ((True /\ 0 = 0 /\ 0 = 0 /\ 0 = 0) /\ (True /\ 0 = 0 /\ 0 = 0 /\ 0 = 0) /\ True) /\ ((71 = 71 /\ (True /\ 0 = 0 /\ 0 = 0 /\ 0 = 0) /\ (True /\ 0 = 0 /\ List.length (l ++ (x
 ++ nums e.conf ++ List.flatMap (λ (r : Bs × Bs) => txts [r.1, r.2]) (List.take x_1 e.map))) = List.length (l ++ x_2)) /\ True) /\ True /\ (1 = 1 /\ 5 = 5 /\ (List.length (l ++ x_2)).le (List.length (l ++ (x ++ nums
 e.conf ++ List.flatMap (λ (r : Bs × Bs) => txts [r.1, r.2]) (List.take x_1 e.map)))) /\ ∀ (i : Nat), i < List.length (l ++ x_2) -> AV.pl (Value.int k8Q (↑ ((l ++ (x ++ nums e.conf ++ List.flatMap (λ (r : Bs × Bs) =>
 txts [r.1, r.2]) (List.take x_1 e.map))).getD i (0 : UInt8)).toNat : Int)) = AV.pl (Value.int k8Q (↑ ((l ++ x_2).getD i (0 : UInt8)).toNat : Int))) /\ (62 = 62 /\ e.kind = e.kind /\ e.node = e.node /\ e.to = e.to /\ e.n
 = e.n /\ (1 = 1 /\ e.keep.length = e.keep.length /\ ∀ i < e.keep.length, boolF e.keep i = boolF e.keep i) /\ (1 = 1 /\ e.conf.length = e.conf.length /\ ∀ i < e.conf.length, intF e.conf i = intF e.conf i) /\ bs e.branch =
 bs e.branch /\ (2 = 2 /\ e.map.length = e.map.length /\ ∀ i < e.map.length, rowF e.map i = rowF e.map i) /\ (3 = 3 /\ e.edit.length = e.edit.length /\ ∀ i < e.edit.length, chgF e.edit i = chgF e.edit i) /\ e.author =
 e.author /\ bs e.note = bs e.note /\ e.ck = e.ck /\ e.client = e.client /\ e.seq = e.seq /\ bs e.cbranch = bs e.cbranch /\ (k8Q = k8Q /\ 32 = 32 /\ ∀ i < 32, e.old i = e.old i) /\ (k8Q = k8Q /\ 32 = 32 /\ ∀ i < 32, e.new
 i = e.new i) /\ (1 = 1 /\ e.data.length = e.data.length /\ ∀ i < e.data.length, byteF (bs e.data) i = byteF (bs e.data) i) /\ True) /\ True) /\ inv30 x_2)) /\ ∀ (x : Bs), inv30 x -> (∃ (x_1 : Nat), ((True /\ 0 = 0 /\ 0 =
 0 /\ 0 = 0) /\ (True /\ 0 = 0 /\ 0 = 0 /\ 0 = 0) /\ (3 = 3 /\ e.edit.length = e.edit.length /\ ∀ i < e.edit.length, chgF e.edit i = chgF e.edit i) /\ (↑e.edit.length : Int) = (↑e.edit.length : Int) /\ (0 : Int) = (↑x_1 :
 Int) /\ True) /\ ((71 = 71 /\ (True /\ 0 = 0 /\ 0 = 0 /\ 0 = 0) /\ (True /\ 0 = 0 /\ List.length (l ++ x) = List.length (l ++ (x ++ List.flatMap chgL (List.take x_1 e.edit)))) /\ True) /\ True /\ (1 = 1 /\ 5 = 5 /\
 (List.length (l ++ (x ++ List.flatMap chgL (List.take x_1 e.edit)))).le (List.length (l ++ x)) /\ ∀ (i : Nat), i < List.length (l ++ (x ++ List.flatMap chgL (List.take x_1 e.edit))) -> AV.pl (Value.int k8Q (↑ ((l ++
 x).getD i (0 : UInt8)).toNat : Int)) = AV.pl (Value.int k8Q (↑ ((l ++ (x ++ List.flatMap chgL (List.take x_1 e.edit))).getD i (0 : UInt8)).toNat : Int))) /\ (62 = 62 /\ e.kind = e.kind /\ e.node = e.node /\ e.to = e.to
 /\ e.n = e.n /\ (1 = 1 /\ e.keep.length = e.keep.length /\ ∀ i < e.keep.length, boolF e.keep i = boolF e.keep i) /\ (1 = 1 /\ e.conf.length = e.conf.length /\ ∀ i < e.conf.length, intF e.conf i = intF e.conf i) /\ bs
 e.branch = bs e.branch /\ (2 = 2 /\ e.map.length = e.map.length /\ ∀ i < e.map.length, rowF e.map i = rowF e.map i) /\ (3 = 3 /\ e.edit.length = e.edit.length /\ ∀ i < e.edit.length, chgF e.edit i = chgF e.edit i) /\
 e.author = e.author /\ bs e.note = bs e.note /\ e.ck = e.ck /\ e.client = e.client /\ e.seq = e.seq /\ bs e.cbranch = bs e.cbranch /\ (k8Q = k8Q /\ 32 = 32 /\ ∀ i < 32, e.old i = e.old i) /\ (k8Q = k8Q /\ 32 = 32 /\ ∀ i
 < 32, e.new i = e.new i) /\ (1 = 1 /\ e.data.length = e.data.length /\ ∀ i < e.data.length, byteF (bs e.data) i = byteF (bs e.data) i) /\ True) /\ True) /\ inv31 x x_1) /\ ∀ (x_1 : Nat), inv31 x x_1 -> (decide ((↑x_1 :
 Int) < (↑e.edit.length : Int)) = true -> ((0 : Int) <= (x_1 : Int) /\ (x_1 : Int) + 1 <= (↑e.edit.length : Int)) /\ True /\ True /\ True /\ (True /\ ((0 : Nat) + 1).le (1 : Nat) /\ True) /\ ∃ (l_3 : Bs), ∃ (ls : List
 Bs), (71 = 71 /\ IsBytes (1 : Nat) (5 : Nat) (List.length (l ++ (x ++ List.flatMap chgL (List.take x_1 e.edit)))) (List.length (l ++ (x ++ List.flatMap chgL (List.take x_1 e.edit)))) (byteF (bs (l ++ (x ++ List.flatMap
 chgL (List.take x_1 e.edit))))) l_3 /\ IsTexts (AV.rows 1 1 λ (i : Nat) => rowOf [((0 : Nat), sl (e.edit.getD (x_1 : Int).toNat ([], false, [])).1)] ((0 : Nat) + i)) ls /\ (l_3.length + txtLen ls).le lim) /\ nflB
 (AV.tup []) = true /\ (nflL [AV.ptr 0 0 0 0, AV.own 2 0 (List.length (l_3 ++ txts ls))] = true /\ True /\ (∀ (i : Nat), i < List.length (l_3 ++ txts ls) -> flatB (byteF (bs (l_3 ++ txts ls)) i) = true) /\ True) /\
 ((e.edit.getD (x_1 : Int).toNat ([], false, [])).2.1 = true -> True /\ (True /\ ((0 : Nat) + 1).le (1 : Nat) /\ True) /\ ∃ (l_4 : Bs), ∃ (ls_1 : List Bs), (71 = 71 /\ IsBytes (1 : Nat) (5 : Nat) (List.length (l_3 ++
 txts ls)) (List.length (l_3 ++ txts ls)) (byteF (bs (l_3 ++ txts ls))) l_4 /\ IsTexts (AV.rows 1 1 λ (i : Nat) => rowOf [((0 : Nat), sl (e.edit.getD (x_1 : Int).toNat ([], false, [])).2.2)] ((0 : Nat) + i)) ls_1 /\
 (l_4.length + txtLen ls_1).le lim) /\ nflB (AV.tup []) = true /\ (nflL [AV.ptr 0 0 0 0, AV.own 2 0 (List.length (l_4 ++ txts ls_1))] = true /\ True /\ (∀ (i : Nat), i < List.length (l_4 ++ txts ls_1) -> flatB (byteF (bs
 (l_4 ++ txts ls_1)) i) = true) /\ True) /\ ∃ (y : Nat), ((True /\ 0 = 0 /\ 0 = 0 /\ 0 = 0) /\ (True /\ 0 = 0 /\ 0 = 0 /\ 0 = 0) /\ (3 = 3 /\ e.edit.length = e.edit.length /\ ∀ i < e.edit.length, chgF e.edit i = chgF
 e.edit i) /\ (↑e.edit.length : Int) = (↑e.edit.length : Int) /\ k64Q.wrap ((x_1 : Int) + 1) = (y : Int) /\ True) /\ ((71 = 71 /\ (True /\ 0 = 0 /\ 0 = 0 /\ 0 = 0) /\ (True /\ 0 = 0 /\ List.length (l_4 ++ txts ls_1) =
 List.length (l ++ (x ++ List.flatMap chgL (List.take y e.edit)))) /\ True) /\ True /\ (1 = 1 /\ 5 = 5 /\ (List.length (l ++ (x ++ List.flatMap chgL (List.take y e.edit)))).le (List.length (l_4 ++ txts ls_1)) /\ ∀ (i :
 Nat), i < List.length (l ++ (x ++ List.flatMap chgL (List.take y e.edit))) -> AV.pl (Value.int k8Q (↑ ((l_4 ++ txts ls_1).getD i (0 : UInt8)).toNat : Int)) = AV.pl (Value.int k8Q (↑ ((l ++ (x ++ List.flatMap chgL
 (List.take y e.edit))).getD i (0 : UInt8)).toNat : Int))) /\ (62 = 62 /\ e.kind = e.kind /\ e.node = e.node /\ e.to = e.to /\ e.n = e.n /\ (1 = 1 /\ e.keep.length = e.keep.length /\ ∀ i < e.keep.length, boolF e.keep i =
 boolF e.keep i) /\ (1 = 1 /\ e.conf.length = e.conf.length /\ ∀ i < e.conf.length, intF e.conf i = intF e.conf i) /\ bs e.branch = bs e.branch /\ (2 = 2 /\ e.map.length = e.map.length /\ ∀ i < e.map.length, rowF e.map i
 = rowF e.map i) /\ (3 = 3 /\ e.edit.length = e.edit.length /\ ∀ i < e.edit.length, chgF e.edit i = chgF e.edit i) /\ e.author = e.author /\ bs e.note = bs e.note /\ e.ck = e.ck /\ e.client = e.client /\ e.seq = e.seq /\
 bs e.cbranch = bs e.cbranch /\ (k8Q = k8Q /\ 32 = 32 /\ ∀ i < 32, e.old i = e.old i) /\ (k8Q = k8Q /\ 32 = 32 /\ ∀ i < 32, e.new i = e.new i) /\ (1 = 1 /\ e.data.length = e.data.length /\ ∀ i < e.data.length, byteF (bs
 e.data) i = byteF (bs e.data) i) /\ True) /\ True) /\ inv31 x y /\ (e.edit.length - y).succ.le (e.edit.length - x_1)) /\ ((e.edit.getD (x_1 : Int).toNat ([], false, [])).2.1 = false -> (True /\ True /\ True) /\ ∃ (l_4 :
 Bs), (71 = 71 /\ IsBytes (1 : Nat) (5 : Nat) (List.length (l_3 ++ txts ls)) (List.length (l_3 ++ txts ls)) (byteF (bs (l_3 ++ txts ls))) l_4 /\ (l_4.length + (ByteArray.mk #[32, 45]).size).le lim) /\
 ∃ (y : Nat), ((True /\ 0 = 0 /\ 0 = 0 /\ 0 = 0) /\ (True /\ 0 = 0 /\ 0 = 0 /\ 0 = 0) /\ (3 = 3 /\ e.edit.length = e.edit.length /\ ∀ i < e.edit.length, chgF e.edit i = chgF e.edit i) /\ (↑e.edit.length : Int) =
 (↑e.edit.length : Int) /\ k64Q.wrap ((x_1 : Int) + 1) = (y : Int) /\ True) /\ ((71 = 71 /\ (True /\ 0 = 0 /\ 0 = 0 /\ 0 = 0) /\ (True /\ 0 = 0 /\ List.length (l_4 ++ ([32, 45] : Bs)) = List.length (l ++ (x ++
 List.flatMap chgL (List.take y e.edit)))) /\ True) /\ True /\ (1 = 1 /\ 5 = 5 /\ (List.length (l ++ (x ++ List.flatMap chgL (List.take y e.edit)))).le (List.length (l_4 ++ ([32, 45] : Bs))) /\ ∀ (i : Nat), i <
 List.length (l ++ (x ++ List.flatMap chgL (List.take y e.edit))) -> AV.pl (Value.int k8Q (↑ ((l_4 ++ ([32, 45] : Bs)).getD i (0 : UInt8)).toNat : Int)) = AV.pl (Value.int k8Q (↑ ((l ++ (x ++ List.flatMap chgL (List.take
 y e.edit))).getD i (0 : UInt8)).toNat : Int))) /\ (62 = 62 /\ e.kind = e.kind /\ e.node = e.node /\ e.to = e.to /\ e.n = e.n /\ (1 = 1 /\ e.keep.length = e.keep.length /\ ∀ i < e.keep.length, boolF e.keep i = boolF
 e.keep i) /\ (1 = 1 /\ e.conf.length = e.conf.length /\ ∀ i < e.conf.length, intF e.conf i = intF e.conf i) /\ bs e.branch = bs e.branch /\ (2 = 2 /\ e.map.length = e.map.length /\ ∀ i < e.map.length, rowF e.map i = rowF
 e.map i) /\ (3 = 3 /\ e.edit.length = e.edit.length /\ ∀ i < e.edit.length, chgF e.edit i = chgF e.edit i) /\ e.author = e.author /\ bs e.note = bs e.note /\ e.ck = e.ck /\ e.client = e.client /\ e.seq = e.seq /\ bs
 e.cbranch = bs e.cbranch /\ (k8Q = k8Q /\ 32 = 32 /\ ∀ i < 32, e.old i = e.old i) /\ (k8Q = k8Q /\ 32 = 32 /\ ∀ i < 32, e.new i = e.new i) /\ (1 = 1 /\ e.data.length = e.data.length /\ ∀ i < e.data.length, byteF (bs
 e.data) i = byteF (bs e.data) i) /\ True) /\ True) /\ inv31 x y /\ (e.edit.length - y).succ.le (e.edit.length - x_1))) /\ (decide ((x_1 : Int) < (↑e.edit.length : Int)) = false -> (True /\ True /\ True) /\ ∃ (l_3 : Bs),
 (71 = 71 /\ IsBytes (1 : Nat) (5 : Nat) (List.length (l ++ (x ++ List.flatMap chgL (List.take x_1 e.edit)))) (List.length (l ++ (x ++ List.flatMap chgL (List.take x_1 e.edit)))) (byteF (bs (l ++ (x ++ List.flatMap chgL
 (List.take x_1 e.edit))))) l_3 /\ (l_3.length + 1).le lim /\ (0 : Int) <= 10 /\ (10 : Int) + 1 <= 256) /\ True /\ ∃ (x : Unit), (True /\ True) /\ ((71 = 71 /\ (True /\ 0 = 0 /\ 0 = 0 /\ 0 = 0) /\ (True /\ 0 = 0 /\
 List.length (l_3 ++ [UInt8.ofNat (Int.toNat 10)]) = List.length (l ++ evL e)) /\ True) /\ True /\ (1 = 1 /\ 5 = 5 /\ (List.length (l ++ evL e)).le (List.length (l_3 ++ [UInt8.ofNat (Int.toNat 10)])) /\ ∀ (i : Nat), i <
 List.length (l ++ evL e) -> AV.pl (Value.int k8Q (↑ ((l_3 ++ [UInt8.ofNat (Int.toNat 10)]).getD i (0 : UInt8)).toNat : Int)) = AV.pl (Value.int k8Q (↑ ((l ++ evL e).getD i (0 : UInt8)).toNat : Int))) /\ True) /\ R
 (AV.tup []) [LObj.box 71 [AV.ptr 0 0 0 0, AV.own 2 0 (List.length (l ++ evL e))], LObj.dead, LObj.row 1 5 (List.length (l ++ evL e)) (byteF (bs (l ++ evL e)))])) := by kernel_rfl
end Go.Proofs.Sz

namespace Go.Proofs.Sz
open Go Go.Am Go.SP
theorem isEv_ids {x : AV} {e : Ev} (h : IsEv x e) (ks : Names) : leA ks x e.av := by
 cases x <;> simp only [IsEv, Ev.av, leA] at h ⊢
 rename_i cs
 match cs with
 | [a0, a1, a2, a3, a4, a5, a6, a7, a8, a9, a10, a11, a12, a13, a14, a15, a16, a17] =>
  have key : ∀ {k k' : Names} {a : AV} {v : Value}, leA k a (.pl v) -> leA k' a (.pl v) := fun {k k' a v} h => by cases a <;> simp only [leA] at h ⊢; exact h
  have keyr : ∀ {k k' : Names} {a : AV} {x n : Nat} {f : Nat -> AV}, leA k a (.rows x n f) -> leA k' a (.rows x n f) := fun {k k' a x n f} h => by cases a <;> simp only [leA] at h ⊢ <;> exact h
  have keyi : ∀ {k k' : Names} {a : AV} {x : IntKind} {n : Nat} {f : Nat -> Int}, leA k a (.iarr x n f) -> leA k' a (.iarr x n f) := fun {k k' a x n f} h => by cases a <;> simp only [leA] at h ⊢; exact h
  obtain ⟨h0, h1, h2, h3, h4, h5, h6, h7, h8, h9, h10, h11, h12, h13, h14, h15, h16, h17, _⟩ := h
  exact ⟨key h0, key h1, key h2, key h3, keyr h4, keyr h5, key h6, keyr h7, keyr h8, key h9, key h10, key h11, key h12, key h13, key h14, keyi h15, keyi h16, keyr h17, trivial⟩
 | [] | [_] | [_, _] | [_, _, _] | [_, _, _, _] | [_, _, _, _, _] | [_, _, _, _, _, _] | [_, _, _, _, _, _, _] | [_, _, _, _, _, _, _, _] | [_, _, _, _, _, _, _, _, _] | [_, _, _, _, _, _, _, _, _, _] | [_, _, _, _, _, _, _, _, _, _, _] | [_, _, _, _, _, _, _, _, _, _, _, _] | [_, _, _, _, _, _, _, _, _, _, _, _, _] | [_, _, _, _, _, _, _, _, _, _, _, _, _, _] | [_, _, _, _, _, _, _, _, _, _, _, _, _, _, _] | [_, _, _, _, _, _, _, _, _, _, _, _, _, _, _, _] | [_, _, _, _, _, _, _, _, _, _, _, _, _, _, _, _, _] | _ :: _ :: _ :: _ :: _ :: _ :: _ :: _ :: _ :: _ :: _ :: _ :: _ :: _ :: _ :: _ :: _ :: _ :: _ :: _ => simp [Ev.cells, leL] at h
theorem ints1 (a : Int) : IsInts (.rows 1 1 λ i => rowOf [(0, nm a)] i) [a] := ⟨rfl, rfl, λ i hi => by
 have : i = 0 := by simpa using hi
 subst this
 rfl⟩
theorem in1 {a : Int} (h : Int64 a) : ∀ n, n ∈ [a] -> -9223372036854775808 <= n /\ n <= 9223372036854775807 := λ n hn => by
 have : n = a := by simpa using hn
 rw [this]; exact h
theorem texts1 (a : Bs) : IsTexts (.rows 1 1 λ i => rowOf [(0, sl a)] i) [a] := ⟨rfl, rfl, λ i hi => by
 have : i = 0 := by simpa using hi
 subst this
 rfl⟩
theorem texts2 (a b : Bs) : IsTexts (.rows 1 2 λ i => rowOf [(0, sl a), (1, sl b)] i) [a, b] := ⟨rfl, rfl, λ i hi => by
 have : i = 0 ∨ i = 1 := by simp at hi; omega
 rcases this with rfl | rfl <;> rfl⟩
theorem word_len (i : Nat) : (wordsL.getD i []).length <= 7 := by
 rcases Nat.lt_or_ge i 16 with h | h
 ·have : ∀ j : Fin 16, (wordsL.getD j.val []).length <= 7 := by decide
  exact this ⟨i, h⟩
 ·rw [List.getD_eq_getElem?_getD, List.getElem?_eq_none (by simpa [wordsL] using h)]
  simp
def evL0 (e : Ev) : Bs := (wordsL.getD e.kind.toNat []) ++ nums (fieldsV e)
structure Fit (v : Ev) : Prop where
 k1 : 1 <= v.kind
 k2 : v.kind <= 15
 keep : v.keep.length <= 2048
 conf : v.conf.length <= 40
 map : v.map.length <= 40
 edit : v.edit.length <= 40
 branch : v.branch.length <= 1024
 note : v.note.length <= 1024
 cbranch : v.cbranch.length <= 1024
 maps : ∀ r ∈ v.map, r.1.length <= 1024 /\ r.2.length <= 1024
 edits : ∀ r ∈ v.edit, r.1.length <= 1024 /\ r.2.2.length <= 1024
theorem long_no {s : Bs} (h : longB s = false) : s.length <= 1024 := by
 unfold longB at h
 simpa using h
theorem fit_of {v : Ev} (h : wrongE v = false) : Fit v := by
 rw [wrongE_eq] at h
 simp only [Bool.or_eq_false_iff, decide_eq_false_iff_not, List.any_eq_false] at h
 obtain ⟨⟨h1, h2⟩, _, ⟨h3, ⟨h4, h5⟩, h6⟩, ⟨h7, h8, h9⟩, h10, h11⟩ := h
 refine ⟨by omega, by omega, by omega, by omega, by omega, by omega, long_no h7, long_no h8, long_no h9, λ r hr => ?_, λ r hr => ?_⟩
 ·have := h10 r hr
  simp only [mapLong, Bool.not_eq_true, Bool.or_eq_false_iff] at this
  exact ⟨long_no this.1, long_no this.2⟩
 ·have := h11 r hr
  simp only [editLong, Bool.not_eq_true, Bool.or_eq_false_iff] at this
  exact ⟨long_no this.1.1, long_no this.1.2⟩
theorem txt_len (s : Bs) : (txt s).length <= 4 * s.length + 3 := by
 have := quote_len s
 simp [txt]
 omega
theorem txts1 (a : Bs) : txts [a] = txt a := by simp [txts]
theorem txts2 (a b : Bs) : txts [a, b] = txt a ++ txt b := by simp [txts]
theorem rows_len {α : Type} (l : List α) (f : α -> Bs) (n : Nat) (h : ∀ r ∈ l, (f r).length <= n) : (l.flatMap f).length <= n * l.length := by
 induction l with
 | nil => simp
 | cons a l ih =>
  have h1 := h a List.mem_cons_self
  have h2 := ih (λ r hr => h r (List.mem_cons_of_mem _ hr))
  simp only [List.flatMap_cons, List.length_append, List.length_cons, Nat.mul_add] at h2 ⊢
  omega
theorem num_len {n : Int} (h : Int64 n) : (numL n).length <= 22 := by
 have := itoa_len n h
 simp [numL]
 omega
theorem nums1 (a : Int) : nums [a] = numL a := by simp [nums]
theorem nums2 (a b : Int) : nums [a, b] = nums [a] ++ nums [b] := by simp [nums]
theorem fields_cls (e : Ev) : (clsK e.kind = 1 -> fieldsV e = [e.node, e.n]) /\ (clsK e.kind = 2 -> fieldsV e = [e.n]) /\ (clsK e.kind = 3 -> fieldsV e = [e.node, e.to]) /\ (clsK e.kind = 4 -> fieldsV e = [e.node]) /\ (clsK e.kind = 5 -> fieldsV e = [e.node, e.ck]) /\ (clsK e.kind = 0 -> fieldsV e = []) := by
 refine ⟨λ h => ?_, λ h => ?_, λ h => ?_, λ h => ?_, λ h => ?_, λ h => ?_⟩
 ·simp only [fieldsV, cls_1 h, cond_true]
 ·simp only [fieldsV, cls_2 h, cond_true, cond_false]
 ·simp only [fieldsV, cls_3 h, cond_true, cond_false]
 ·simp only [fieldsV, cls_4 h, cond_true, cond_false]
 ·simp only [fieldsV, (cls_5 h).1, (cls_5 h).2.1, (cls_5 h).2.2.1, (cls_5 h).2.2.2.1, (cls_5 h).2.2.2.2, cond_true, cond_false]
 ·simp only [fieldsV, (cls_0 h).1, (cls_0 h).2.1, (cls_0 h).2.2.1, (cls_0 h).2.2.2.1, (cls_0 h).2.2.2.2, cond_false]
theorem fields_ok {e : Ev} (h : EvOk e) : ∀ x ∈ fieldsV e, Int64 x := by
 obtain ⟨_, h1, h2, h3, _, h5, _⟩ := h
 unfold fieldsV
 cases kNN e.kind <;> cases kN e.kind <;> cases kNT e.kind <;> cases k1 e.kind <;> cases e.kind == 14 <;> simp [*]
theorem fields_len (e : Ev) : (fieldsV e).length <= 2 := by
 unfold fieldsV
 cases kNN e.kind <;> cases kN e.kind <;> cases kNT e.kind <;> cases k1 e.kind <;> cases e.kind == 14 <;> simp
theorem evL0_len {e : Ev} (h : EvOk e) : (evL0 e).length <= 60 := by
 have h1 := word_len e.kind.toNat
 have h2 := nums_len (fieldsV e) (fields_ok h)
 have h3 := fields_len e
 simp only [evL0, List.length_append]
 omega
theorem evL1_eq (e : Ev) : evL1 e = evL0 e ++ (bif stampedK e.kind then numL e.author ++ txts [e.branch, e.note] else []) := rfl
theorem auth64 {e : Ev} (h : EvOk e) : Int64 e.author := by
 obtain ⟨_, _, _, _, _, _, h, _⟩ := h
 exact ⟨by omega, by omega⟩
theorem evL1_len {e : Ev} (h : EvOk e) (hf : Fit e) : (evL1 e).length <= 9000 := by
 have h1 := evL0_len h
 have h2 := num_len (auth64 h)
 have h3 := txt_len e.branch
 have h4 := txt_len e.note
 have h5 := hf.branch
 have h6 := hf.note
 rw [evL1_eq, txts2]
 cases stampedK e.kind <;> simp <;> omega
theorem idL_len (f : Idv) : (idL f).length = 64 := idTk_len f 32
theorem evL2_len {e : Ev} (hf : Fit e) : (evL2 e).length <= 5000 := by
 have h3 := txt_len e.cbranch
 have h4 := hf.cbranch
 have h5 := hf.keep
 have h6 := idL_len e.new
 unfold evL2
 cases e.kind == 8 <;> cases e.kind == 14 <;> simp [bitsL] <;> omega
theorem map_len {e : Ev} (hf : Fit e) (i : Nat) : ((e.map.take i).flatMap λ r => txts [r.1, r.2]).length <= 400000 := by
 have h1 := rows_len (e.map.take i) (λ r => txts [r.1, r.2]) 8198 (λ r hr => by
  obtain ⟨h1, h2⟩ := hf.maps r (List.mem_of_mem_take hr)
  have h3 := txt_len r.1
  have h4 := txt_len r.2
  rw [txts2]
  simp
  omega)
 have h2 := hf.map
 have h3 : (e.map.take i).length <= 40 := by simp; omega
 omega
theorem chg_len {r : Bs × Bool × Bs} (h : r.1.length <= 1024 /\ r.2.2.length <= 1024) : (chgL r).length <= 8198 := by
 have h3 := txt_len r.1
 have h4 := txt_len r.2.2
 unfold chgL
 cases r.2.1 <;> simp <;> omega
theorem edit_len {e : Ev} (hf : Fit e) (i : Nat) : ((e.edit.take i).flatMap chgL).length <= 400000 := by
 have h1 := rows_len (e.edit.take i) chgL 8198 (λ r hr => chg_len (hf.edits r (List.mem_of_mem_take hr)))
 have h2 := hf.edit
 have h3 : (e.edit.take i).length <= 40 := by simp; omega
 omega
theorem flat_take {α : Type} (l : List α) (d : α) (f : α -> Bs) (i : Nat) (h : i < l.length) : (l.take (i + 1)).flatMap f = (l.take i).flatMap f ++ f (l.getD i d) := by
 rw [List.take_succ_eq_append_getElem h, List.flatMap_append]
 simp [List.getD_eq_getElem?_getD, h]
theorem XWEvent : EntOk Tryz.prog 21 (.hand tkW TWEvent) := by
 refine ⟨Am.enters_of Tryz.func21 (by kernel_rfl) (by kernel_rfl), λ H0 args R h => ?_⟩
 unfold TWEvent at h
 split at h
 ·rename_i t n k e m f x
  obtain ⟨l, v, ⟨rfl, ⟨rfl, rfl, rfl, rfl, hf⟩, hx, hok, hw, h1⟩, h⟩ := h
  refine SpecH.args 2 (args' := [.ptr 0 0 0 0, v.av]) ⟨⟨trivial, rfl, rfl, rfl⟩, isEv_ids hx _, trivial⟩ (SpecH.weak (Z := Unit) (X := λ _ => .tup []) (HH := λ _ => WR (l ++ evL v)) ?_)
  refine mkHo (vWEvent l v f (λ t => t = evL0 v) (λ t => t = evL1 v) (λ t => t = evL1 v ++ evL2 v) (λ t => t = evL1 v ++ evL2 v ++ nums v.conf ++ v.map.flatMap (λ r => txts [r.1, r.2])) (λ t i => v.kind = 8 /\ i <= v.keep.length) (λ t i => i <= v.map.length) (λ t i => i <= v.edit.length) R) (tb (ac XWords (ac XFields (ac XStamped (ac XWrS (ac XWrB (ac XNums (ac XTexts (ac XIdT az))))))))) Tryz.func21 (by kernel_rfl) ?_
  have hft := fit_of hw
  have hmx := maxLen_eq
  have hlm : lim = 140737488355328 := rfl
  have hk1 := hft.k1
  have hk2 := hft.k2
  have hwl := word_len v.kind.toNat
  have hL0 := evL0_len hok
  have hL1 := evL1_len hok hft
  have hL2 := evL2_len hft
  have z0 : Int.toNat 0 = 0 := rfl
  simp only [true_and, and_true, and_self, implies_true, forall_const, gEq_true, gEq_false, nonneg_iff, natle_iff, decide_eq_true_eq, decide_eq_false_iff_not, Int.toNat_natCast, cond_bt, cond_bf, Bool.cond_true, Bool.cond_false, Bool.not_true, Bool.not_false, reduceCtorEq, false_implies, implies_true, Bool.true_eq_false, Bool.false_eq_true, Bool.not_eq_true', Bool.not_eq_false', bs_size, bs_data, bs_toList, bs_extract, bs_append, bs_mk, byteF, w01, w12, Nat.zero_add]
  obtain ⟨c1, c2, c3, c4, c5, c0⟩ := fields_cls v
  have two : ∀ a b, fieldsV v = [a, b] -> evL0 v = wordsL.getD v.kind.toNat [] ++ nums [a] ++ nums [b] := λ a b e => by rw [evL0, e, nums2, List.append_assoc]
  have one : ∀ a, fieldsV v = [a] -> evL0 v = wordsL.getD v.kind.toNat [] ++ nums [a] := λ a e => by rw [evL0, e]
  have l22 : ∀ a, Int64 a -> (nums [a]).length <= 22 := λ a ha => by rw [nums1]; exact num_len ha
  obtain ⟨o1, o2, o3, o4, o5, o6, o7, o8⟩ := id hok
  refine ⟨⟨by omega, by omega⟩, by omega, l, ⟨⟨rfl, rfl, rfl, rfl, hf⟩, by omega⟩, ⟨λ hc => ⟨by omega, by omega, _, [v.node], ⟨isBytes_self _, ints1 _, by simp only [List.length_append, List.length_cons, List.length_nil]; omega, in1 o2⟩, rfl, ⟨rfl, λ _ _ => rfl⟩, by omega, by omega, _, [v.n], ⟨isBytes_self _, ints1 _, by have := l22 v.node o2; simp only [List.length_append, List.length_cons, List.length_nil]; omega, in1 o4⟩, rfl, ⟨rfl, λ _ _ => rfl⟩, evL0 v, rowLe (by rw [two _ _ (c1 hc)]; simp), rfl⟩, λ hc => ⟨by omega, by omega, _, [v.n], ⟨isBytes_self _, ints1 _, by simp only [List.length_append, List.length_cons, List.length_nil]; omega, in1 o4⟩, rfl, ⟨rfl, λ _ _ => rfl⟩, evL0 v, rowLe (by rw [one _ (c2 hc)]; simp), rfl⟩, λ hc => ⟨by omega, by omega, _, [v.node], ⟨isBytes_self _, ints1 _, by simp only [List.length_append, List.length_cons, List.length_nil]; omega, in1 o2⟩, rfl, ⟨rfl, λ _ _ => rfl⟩, by omega, by omega, _, [v.to], ⟨isBytes_self _, ints1 _, by have := l22 v.node o2; simp only [List.length_append, List.length_cons, List.length_nil]; omega, in1 o3⟩, rfl, ⟨rfl, λ _ _ => rfl⟩, evL0 v, rowLe (by rw [two _ _ (c3 hc)]; simp), rfl⟩, λ hc => ⟨by omega, by omega, _, [v.node], ⟨isBytes_self _, ints1 _, by simp only [List.length_append, List.length_cons, List.length_nil]; omega, in1 o2⟩, rfl, ⟨rfl, λ _ _ => rfl⟩, evL0 v, rowLe (by rw [one _ (c4 hc)]; simp), rfl⟩, λ hc => ⟨by omega, by omega, _, [v.node], ⟨isBytes_self _, ints1 _, by simp only [List.length_append, List.length_cons, List.length_nil]; omega, in1 o2⟩, rfl, ⟨rfl, λ _ _ => rfl⟩, by omega, by omega, _, [v.ck], ⟨isBytes_self _, ints1 _, by have := l22 v.node o2; simp only [List.length_append, List.length_cons, List.length_nil]; omega, in1 o6⟩, rfl, ⟨rfl, λ _ _ => rfl⟩, evL0 v, rowLe (by rw [two _ _ (c5 hc)]; simp), rfl⟩, λ hc => ⟨evL0 v, rowLe (by rw [evL0, c0 hc]; simp [nums]), rfl⟩⟩, ?_⟩
  rintro t rfl
  have hau : IntKind.i64.wrap v.author = v.author := wrap64 (by omega) (by omega)
  have ha := l22 v.author (auth64 hok)
  have hbr := hft.branch
  have hno := hft.note
  have hcb := hft.cbranch
  have hke := hft.keep
  have hco := hft.conf
  have hma := hft.map
  have hed := hft.edit
  have t1 : ∀ a : Bs, txtLen [a] = 4 * a.length + 3 := λ a => by simp [txtLen]
  have t2 : ∀ a b : Bs, txtLen [a, b] = 4 * a.length + 3 + (4 * b.length + 3) := λ a b => by simp [txtLen]
  have hcn : (nums v.conf).length <= 880 := Nat.le_trans (nums_len v.conf o5) (by omega)
  have hidl := idL_len v.new
  rw [hau]
  refine ⟨⟨λ hs => ⟨by omega, _, [v.author], ⟨isBytes_self _, ints1 _, by simp only [List.length_append, List.length_cons, List.length_nil]; omega, in1 (auth64 hok)⟩, rfl, ⟨rfl, λ _ _ => rfl⟩, by omega, _, [v.branch, v.note], ⟨isBytes_self _, texts2 _ _, by rw [t2]; simp only [List.length_append]; omega⟩, rfl, ⟨rfl, λ _ _ => rfl⟩, evL1 v, rowLe (by rw [evL1_eq, hs, nums1]; simp), rfl⟩, λ hs => ⟨evL1 v, rowLe (by rw [evL1_eq, hs]; simp), rfl⟩⟩, ?_⟩
  rintro t rfl
  have hbl : ∀ i, (bitsL (v.keep.take i)).length <= 2048 := λ i => by simp [bitsL]; omega
  have hbt : ∀ i, i < v.keep.length -> bitsL (v.keep.take (i + 1)) = bitsL (v.keep.take i) ++ [bitB (v.keep.getD i false)] := λ i hi => by
   rw [List.take_succ_eq_append_getElem hi, List.getD_eq_getElem?_getD, List.getElem?_eq_getElem hi]
   simp only [bitsL, List.map_append, List.map_cons, List.map_nil, Option.getD_some]
  have u49 : UInt8.ofNat (IntKind.u8.wrap (48 + 1)).toNat = 49 := by decide
  have u48 : UInt8.ofNat (Int.toNat 48) = 48 := by decide
  refine ⟨⟨λ k8 => ⟨_, ⟨isBytes_self _, by simp only [List.length_append, List.length_cons, List.length_nil]; omega⟩, ⟨0, rfl, rowLe (by simp [bitsL]), beq_iff_eq.1 k8, Nat.zero_le _⟩, λ i hi => ⟨λ hlt => ⟨⟨by omega, by omega⟩, λ hb => ⟨_, ⟨isBytes_self _, by have := hbl i; simp only [List.length_append, List.length_cons, List.length_nil]; omega, by decide, by decide⟩, i + 1, by rw [wrap64] <;> omega, rowLe (by rw [hbt i (by omega), hb, u49]; simp [bitB]), ⟨hi.1, by omega⟩, by omega⟩, λ hb => ⟨_, ⟨isBytes_self _, by have := hbl i; simp only [List.length_append, List.length_cons, List.length_nil]; omega, by decide, by decide⟩, i + 1, by rw [wrap64] <;> omega, rowLe (by rw [hbt i (by omega), hb, u48]; simp [bitB]), ⟨hi.1, by omega⟩, by omega⟩⟩, λ hge => ⟨evL1 v ++ evL2 v, rowLe (by rw [show i = v.keep.length by omega, List.take_length, evL2, k8, cond_true]), rfl⟩⟩⟩, λ k8 => ⟨λ k14 => ⟨by omega, _, [v.cbranch], ⟨isBytes_self _, texts1 _, by rw [t1]; simp only [List.length_append]; omega⟩, rfl, ⟨rfl, λ _ _ => rfl⟩, λ i hi => by have := o8 i hi; omega, by simp only [List.length_cons, List.length_nil]; omega, _, ⟨isBytes_self _, by have := txt_len v.cbranch; simp only [txts, List.flatMap_cons, List.flatMap_nil, List.length_append, List.length_cons, List.length_nil]; omega⟩, evL1 v ++ evL2 v, rowLe (by rw [evL2, k8, k14, cond_false, cond_true]; simp [txts]), rfl⟩, λ k14 => ⟨evL1 v ++ evL2 v, rowLe (by rw [evL2, k8, k14, cond_false, cond_false, List.append_nil]), rfl⟩⟩⟩, ?_⟩
  rintro t rfl
  have hml := map_len hft
  have hel := edit_len hft
  have hmt : v.map.flatMap (λ r => txts [r.1, r.2]) = (v.map.take v.map.length).flatMap (λ r => txts [r.1, r.2]) := by rw [List.take_length]
  have hmm := hml v.map.length
  rw [<- hmt] at hmm
  refine ⟨_, v.conf, ⟨isBytes_self _, ⟨rfl, rfl, λ _ _ => rfl⟩, by simp only [List.length_append]; omega, λ n hn => o5 n hn⟩, ⟨⟨0, rfl, rowLe (by simp), Nat.zero_le _⟩, λ i hi => ⟨λ hlt => ⟨⟨by omega, by omega⟩, by omega, _, [(v.map.getD i ([], [])).1, (v.map.getD i ([], [])).2], ⟨isBytes_self _, texts2 _ _, ?_⟩, rfl, ⟨rfl, λ _ _ => rfl⟩, i + 1, by rw [wrap64] <;> omega, rowLe (by rw [flat_take v.map ([], []) _ i (by omega)]; simp), by omega, by omega⟩, λ hge => ⟨_, rowLe (by rw [hmt, show i = v.map.length by omega]), rfl⟩⟩⟩, ?_⟩
  ·obtain ⟨g1, g2⟩ := hft.maps (v.map.getD i ([], [])) (by rw [List.getD_eq_getElem?_getD, List.getElem?_eq_getElem (by omega)]; exact List.getElem_mem _)
   have := hml i
   rw [t2]
   simp only [List.length_append]
   omega
  rintro t rfl
  have u10 : UInt8.ofNat (Int.toNat 10) = 10 := by decide
  refine ⟨⟨0, rfl, rowLe (by simp), Nat.zero_le _⟩, λ i hi => ⟨λ hlt => ?_, λ hge => ⟨_, ⟨isBytes_self _, ?_, by decide, by decide⟩, (), rowLe ?_, h⟩⟩⟩
  ·obtain ⟨g1, g2⟩ := hft.edits (v.edit.getD i ([], false, [])) (by rw [List.getD_eq_getElem?_getD, List.getElem?_eq_getElem (by omega)]; exact List.getElem_mem _)
   have := hel i
   have g3 := txt_len (v.edit.getD i ([], false, [])).1
   refine ⟨⟨by omega, by omega⟩, by omega, _, [(v.edit.getD i ([], false, [])).1], ⟨isBytes_self _, texts1 _, ?_⟩, rfl, ⟨rfl, λ _ _ => rfl⟩, λ hb => ⟨by omega, _, [(v.edit.getD i ([], false, [])).2.2], ⟨isBytes_self _, texts1 _, ?_⟩, rfl, ⟨rfl, λ _ _ => rfl⟩, i + 1, by rw [wrap64] <;> omega, rowLe ?_, by omega, by omega⟩, λ hb => ⟨_, ⟨isBytes_self _, ?_⟩, i + 1, by rw [wrap64] <;> omega, rowLe ?_, by omega, by omega⟩⟩
   ·rw [t1]
    simp only [List.length_append]
    omega
   ·rw [t1, txts1]
    simp only [List.length_append]
    omega
   ·rw [flat_take v.edit ([], false, []) chgL i (by omega), chgL, hb, cond_true]
    simp [txts]
   ·rw [txts1]
    simp only [List.length_append, List.length_cons, List.length_nil]
    omega
   ·rw [flat_take v.edit ([], false, []) chgL i (by omega), chgL, hb, cond_false]
    simp [txts]
  ·have := hel i
   simp only [List.length_append]
   omega
  ·rw [show i = v.edit.length by omega, List.take_length, u10, evL, evL3]
   simp
 ·exact h.elim
end Go.Proofs.Sz

namespace Go.Proofs.Sz
open Go Go.Am Go.SP
theorem ints3 (a b c : Int) : IsInts (.rows 1 3 λ i => rowOf [(0, nm a), (1, nm b), (2, nm c)] (0 + i)) [a, b, c] := ⟨rfl, rfl, λ i hi => by
 have : i = 0 ∨ i = 1 ∨ i = 2 := by simp at hi; omega
 rcases this with rfl | rfl | rfl <;> rfl⟩
theorem XPrint : EntOk Tryz.prog 8 (.lend TPrint) := by
 refine ⟨Am.enters_of Tryz.func8 (by kernel_rfl) (by kernel_rfl), λ args R h => ?_⟩
 unfold TPrint at h
 split at h
 ·rename_i a b c x
  obtain ⟨l, ⟨hx, ha, hb, hc, hev⟩, h⟩ := h
  refine Spec.argsD (args' := [.agg [nm a, nm b, nm c, evsAV l]]) ⟨.cons (.pl _) rfl (.cons (.pl _) rfl (.cons (.pl _) rfl (.cons (.of_leR hx) (evs_cw hx) .nil))), trivial⟩ ?_
  refine mkSo (vPrint a b c l (λ i => i <= l.length /\ checkE l = 0) R) (tb (ac XCheck (ac XWrS (ac XWrB (ac XNums (ac XWEvent (ac XBLen (ac XBStr az)))))))) Tryz.func8 (by kernel_rfl) ?_
  simp only [true_and, and_true, and_self, implies_true, forall_const, gEq_true, gEq_false, nonneg_iff, natle_iff, decide_eq_true_eq, decide_eq_false_iff_not, Int.toNat_natCast, cond_bt, cond_bf, Bool.cond_true, Bool.cond_false, Bool.not_true, Bool.not_false, reduceCtorEq, false_implies, implies_true, Bool.true_eq_false, Bool.false_eq_true, Bool.not_eq_true', Bool.not_eq_false', bs_size, bs_data, bs_toList, bs_extract, bs_append, bs_mk, byteF]
  have hmx := maxLen_eq
  have hlm : lim = 140737488355328 := rfl
  have u10 : UInt8.ofNat (Int.toNat 10) = 10 := by decide
  have hns : ∀ n ∈ [a, b, c], Int64 n := by simp [ha, hb, hc]
  have hnl := nums_len [a, b, c] hns
  simp only [List.length_cons, List.length_nil] at hnl
  refine ⟨l, isEvs_self l, λ q => ?_, λ q => ?_⟩
  ·have e : (checkE l == 0) = false := by simpa using q
   rw [printR, e, cond_false] at h
   exact h
  have q0 : checkE l = 0 := by simpa using q
  have hall : l.length <= 300 /\ ∀ v ∈ l, wrongE v = false := by
   unfold checkE at q0
   cases hc : decide (300 < l.length) || l.any wrongE with
   | true => rw [hc] at q0; cases q0
   | false =>
    rw [Bool.or_eq_false_iff] at hc
    refine ⟨by simpa using hc.1, λ v hv => ?_⟩
    have := hc.2
    rw [List.any_eq_false] at this
    simpa using this v hv
  have hfl : ∀ i, ((l.take i).flatMap evL).length <= 900000 * (l.take i).length := λ i => rows_len _ _ _ λ v hv => by
   have hv' := List.mem_of_mem_take hv
   have hf := fit_of (hall.2 v hv')
   have h1 := evL1_len (hev v hv') hf
   have h2 := evL2_len hf
   have h3 := map_len hf v.map.length
   have h4 := edit_len hf v.edit.length
   have h5 := nums_len v.conf (hev v hv').2.2.2.2.1
   have h6 := hf.conf
   rw [List.take_length] at h3 h4
   simp only [evL, evL3, List.length_append, List.length_cons, List.length_nil]
   omega
  have hpl : ∀ i, (printL ⟨a, b, c, l.take i⟩).length <= 270000100 := λ i => by
   have h1 := hfl i
   have h2 : (l.take i).length <= 300 := by simp; omega
   simp only [printL, worldL, List.length_append, List.length_cons, List.length_nil]
   omega
  have hwl : worldL = [119, 111, 114, 108, 100] := rfl
  refine ⟨by decide, by omega, _, [a, b, c], ⟨isBytes_self ([119, 111, 114, 108, 100] : Bs), ints3 a b c, by simp only [List.length_cons, List.length_nil]; omega, λ n hn => hns n hn⟩, rfl, ⟨rfl, λ _ _ => rfl⟩, _, ⟨isBytes_self _, by simp only [List.length_append, List.length_cons, List.length_nil]; omega, by decide, by decide⟩, ⟨0, rfl, rowLe (by rw [u10, printL, hwl]; simp), Nat.zero_le _, q0⟩, λ i hi => ⟨λ hlt => ?_, λ hge => ?_⟩⟩
  ·have hmem : evAt l i ∈ l := by
    rw [evAt, List.getD_eq_getElem?_getD, List.getElem?_eq_getElem (by omega)]
    exact List.getElem_mem _
   refine ⟨⟨by omega, by omega⟩, _, evAt l i, ⟨isBytes_self _, isEv_self _, hev _ hmem, hall.2 _ hmem, by have := hpl i; omega⟩, i + 1, by rw [wrap64] <;> omega, rowLe ?_, ⟨by omega, q0⟩, by omega⟩
   simp only [printL]
   rw [flat_take l ev0 evL i (by omega)]
   simp [evAt]
  ·rw [show i = l.length by omega, List.take_length]
   rw [printR, q0] at h
   have hp := hpl l.length
   rw [List.take_length] at hp
   refine ⟨λ hb => ?_, λ hb => ⟨_, ⟨isBytes_self _, by simp only [printL, worldL, List.length_append, List.length_cons, List.length_nil]; omega, by omega⟩, ?_⟩⟩
   ·have : decide (262144 < (printL ⟨a, b, c, l⟩).length) = true := by rw [decide_eq_true_eq]; omega
    rw [this] at h
    exact h
   ·have : decide (262144 < (printL ⟨a, b, c, l⟩).length) = false := by rw [decide_eq_false_iff_not]; omega
    rw [this] at h
    exact h
 ·exact h.elim
end Go.Proofs.Sz

namespace Go.Proofs.Sz
open Go Go.Am Go.SP
theorem XJoin : EntOk Tryz.prog 15 (.lend TJoin) := by
 refine ⟨Am.enters_of Tryz.func15 (by kernel_rfl) (by kernel_rfl), λ args R h => ?_⟩
 unfold TJoin at h
 split at h
 ·rename_i x p
  obtain ⟨ls, ⟨hx, h0, h1, h2⟩, h⟩ := h
  refine spec_of_calls λ E0 vs hG hF hl hr => ?_
  match vs, hl with
  | [v, u], _ =>
   obtain rfl := repV_pl (hr 1 u _ rfl rfl)
   unfold IsTexts at hx
   split at hx
   ·rename_i k n f _
    obtain ⟨rfl, rfl, hf⟩ := hx
    obtain ⟨A, cap, ws, a, hc, hm, ha, hl, hcell, hrep, rfl⟩ := Rep.rows_inv (show Rep E0 [v] (.rows 1 ls.length f) from hr 0 v _ rfl rfl)
    obtain ⟨rfl, hFa⟩ := ha h0
    have hws : ∀ i, i < ls.length -> ws i = [.string (bs (ls.getD i []))] := λ i hi => by
     have := hrep i hi
     rw [hf i hi] at this
     exact this.pl_inv'
    have hcells : ∀ j, j < ls.length -> E0.w.cell? (a.add (j * 1 + 0)) = some (.string (bs (ls.getD j []))) := λ j hj => hcell j hj 0 _ (by rw [hws j hj]; rfl)
    have hsp : a.spot = none := by
     have := hcells 0 h0
     simp only [Nat.zero_mul, Nat.add_zero, Addr.add, if_true] at this
     unfold World.cell? at this
     split at this
     ·split at this
      ·cases this
      ·rename_i hn; simpa using hn
     ·cases this
    obtain ⟨bk, o, sp⟩ := a
    dsimp only at hsp
    subst hsp
    have e1 : (ls.map bs).map (·.data.toList) = ls := by rw [List.map_map]; exact (List.map_congr_left λ a _ => bs_data a).trans (List.map_id _)
    have hcl : ∀ (j : Nat) x, (ls.map bs)[j]? = some x -> E0.w.cell? ⟨bk, o + j, none⟩ = some (.string x) := λ j x hj => by
     rw [List.getElem?_map, Option.map_eq_some_iff] at hj
     obtain ⟨y, hy, rfl⟩ := hj
     have hlt := (List.getElem?_eq_some_iff.1 hy).1
     have := hcells j hlt
     rw [List.getD_eq_getElem?_getD, hy, Option.getD_some] at this
     rw [<- this]
     congr 1
     simp only [Addr.add, Nat.mul_one, Nat.add_zero]
     split
     ·rename_i hz; rw [hz]; rfl
     ·rfl
    have key := Tryz.strings_Join bk o cap (ls.map bs) p E0.w hcl (hF _ hFa) (by simp; omega) (by simpa using hc) (by rw [e1]; omega)
    rw [e1, List.length_map] at key
    refine key.mono ?_
    rintro e w' ⟨rfl, hb⟩
    exact ⟨_, _, rfl, h, hb, λ E => Rep.pl _ rfl⟩
   ·exact hx.elim
 ·exact h.elim
instance (e : Ev) : Decidable (EvOk e) := by unfold EvOk Int64; infer_instance
def wls : List Bs := [[119, 111, 114, 108, 100, 32, 49, 32, 49, 32, 51, 48, 48], [99, 111, 109, 109, 105, 116, 32, 54, 32, 55, 32, 34, 109, 34, 32, 34, 34, 32, 34, 97, 34, 32, 34, 49, 92, 110, 34, 32, 34, 98, 34, 32, 45], [99, 104, 97, 110, 103, 101, 32, 49, 32, 49, 32, 50], [99, 114, 97, 115, 104, 32, 54, 32, 61, 49, 48], []]
def wtx : Bs := Lib.join wls [10]
theorem w1 : (parseR wtx).2.2 = 0 := by decide +kernel
theorem w2 : (parseR wtx).2.1 = 0 := by decide +kernel
theorem w3 : (parseR wtx).1.evs.length = 3 := by decide +kernel
theorem w4 : (printR (parseR wtx).1) = (wtx, 0) := by decide +kernel
theorem w5 : ∀ e ∈ (parseR wtx).1.evs, EvOk e := by decide +kernel
theorem w6 : Int64 (parseR wtx).1.servers /\ Int64 (parseR wtx).1.clients /\ Int64 (parseR wtx).1.area := by unfold Int64; decide +kernel
theorem w7 : (evAt (parseR wtx).1.evs 0).edit = [([97], true, [49, 10]), ([98], false, [])] := by decide +kernel
theorem w8 : (evAt (parseR wtx).1.evs 2).keep = [true, false] := by decide +kernel
theorem w9 : (parseR (wtx ++ [115, 111, 10])).2 = (wtx.length, 360) := by decide +kernel
theorem w4' : printR (Sc.mk (parseR wtx).1.servers (parseR wtx).1.clients (parseR wtx).1.area (parseR wtx).1.evs) = (wtx, 0) := w4
theorem w10 : (wtx).length <= 1000000 := by decide +kernel
theorem XWakes : EntOk Tryz.prog 6 (.lend TWakes) := by
 refine ⟨Am.enters_of Tryz.func6 (by kernel_rfl) (by kernel_rfl), λ args R h => ?_⟩
 unfold TWakes at h
 split at h
 ·refine mkSo (vWakes R) (tb (ac XJoin (ac XParse (ac XPrint (ac XEqBool az))))) Tryz.func6 (by kernel_rfl) ?_
  simp only [true_and, and_true, and_self, implies_true, forall_const, gEq_true, gEq_false, nonneg_iff, natle_iff, decide_eq_true_eq, decide_eq_false_iff_not, Int.toNat_natCast, cond_bt, cond_bf, Bool.cond_true, Bool.cond_false, Bool.not_true, Bool.not_false, reduceCtorEq, false_implies, implies_true, Bool.true_eq_false, Bool.false_eq_true, Bool.not_eq_true', Bool.not_eq_false', bs_size, bs_data, bs_toList, bs_extract, bs_append, bs_mk, byteF]
  refine ⟨Nat.le_refl _, wls, ⟨⟨rfl, rfl, λ i hi => ?_⟩, by decide, by decide, by decide⟩, ?_⟩
  ·match i, hi with
   | 0, _ => rfl
   | 1, _ => rfl
   | 2, _ => rfl
   | 3, _ => rfl
   | 4, _ => rfl
  simp only [show Lib.join wls [10] = wtx from rfl, w1, w2, w3, true_and, and_true, and_self, implies_true, forall_const, gEq_true, gEq_false, nonneg_iff, natle_iff, decide_eq_true_eq, decide_eq_false_iff_not, Int.toNat_natCast, cond_bt, cond_bf, Bool.cond_true, Bool.cond_false, Bool.not_true, Bool.not_false, reduceCtorEq, false_implies, implies_true, Bool.true_eq_false, Bool.false_eq_true, Bool.not_eq_true', Bool.not_eq_false', bs_size, bs_data, bs_toList, bs_extract, bs_append, bs_mk, byteF]
  refine ⟨λ h => absurd h (by decide), λ _ => ⟨by decide, by decide, by decide, by decide, (parseR wtx).1.evs, ⟨⟨rfl, w3.symm, (isEvs_self _).2.2⟩, w6.1, w6.2.1, w6.2.2, w5⟩, by decide, ?_⟩⟩
  simp only [w4', show (evAt (parseR wtx).1.evs (Int.toNat 0)).edit = _ from w7, show (evAt (parseR wtx).1.evs (Int.toNat 2)).keep = _ from w8, w9]
  refine ⟨λ _ => by decide, λ _ => by decide, λ _ => by decide, λ _ => ⟨by decide, [true, false], [true, false], ⟨⟨rfl, rfl, λ i hi => ?_⟩, ⟨rfl, rfl, λ i hi => ?_⟩⟩, ?_⟩, λ h => absurd h (by decide)⟩
  ·match i, hi with
   | 0, _ => rfl
   | 1, _ => rfl
  ·match i, hi with
   | 0, _ => rfl
   | 1, _ => rfl
  ·have e1 : (bl ([true, false] == [true, false] && (360 : Int) == 360 && (wtx.length : Int) == (wtx.length : Int))) = bl true := by
    rw [beq_self_eq_true (wtx.length : Int)]; rfl
   rw [e1]
   exact h
 ·exact h.elim
end Go.Proofs.Sz

namespace Go.Proofs.Sz
open Go Go.Am Go.SP
theorem XCloneB : EntOk Tryz.prog 35 (.lend TCloneB) := by
 refine ⟨Am.enters_of Tryz.func35 (by kernel_rfl) (by kernel_rfl), λ args R h => ?_⟩
 unfold TCloneB at h
 split at h
 ·rename_i x
  obtain ⟨l, ⟨hx, hl⟩, h⟩ := h
  refine Spec.args (args' := [.rows 1 l.length (boolF l)]) ⟨hx, trivial⟩ ?_
  refine Spec.weak (Z := Unit) (X := λ _ => .own 0 0 l.length) (HH := λ _ => [.row 1 tyCB l.length (boolF l)]) (mkSo (vCloneB l R) (tb az) Tryz.func35 (by kernel_rfl) ?_)
  simp only [true_and, and_true, and_self, implies_true, forall_const, gEq_true, gEq_false, nonneg_iff, natle_iff, decide_eq_true_eq, decide_eq_false_iff_not, Int.toNat_natCast, cond_bt, cond_bf, Bool.cond_true, Bool.cond_false, Bool.not_true, Bool.not_false, reduceCtorEq, false_implies, implies_true, Bool.true_eq_false, Bool.false_eq_true, Bool.not_eq_true', Bool.not_eq_false', bs_size, bs_data, bs_toList, bs_extract, bs_append, bs_mk, byteF]
  have hmx := maxLen_eq
  exact λ b hb => ⟨λ hbt => by
   have h0 : l.length = 0 := by
    rcases Nat.eq_zero_or_pos l.length with h0 | h0
    ·exact h0
    ·rw [hb h0] at hbt; cases hbt
   exact ⟨(), h0, h0, h⟩, λ _ => ⟨⟨by omega, by omega⟩, (), Nat.le_refl _, h⟩⟩
 ·exact h.elim
theorem XCloneI : EntOk Tryz.prog 36 (.lend TCloneI) := by
 refine ⟨Am.enters_of Tryz.func36 (by kernel_rfl) (by kernel_rfl), λ args R h => ?_⟩
 unfold TCloneI at h
 split at h
 ·rename_i x
  obtain ⟨l, ⟨hx, hl⟩, h⟩ := h
  refine Spec.args (args' := [.rows 1 l.length (intF l)]) ⟨hx, trivial⟩ ?_
  refine Spec.weak (Z := Unit) (X := λ _ => .own 0 0 l.length) (HH := λ _ => [.row 1 tyCI l.length (intF l)]) (mkSo (vCloneI l R) (tb az) Tryz.func36 (by kernel_rfl) ?_)
  simp only [true_and, and_true, and_self, implies_true, forall_const, gEq_true, gEq_false, nonneg_iff, natle_iff, decide_eq_true_eq, decide_eq_false_iff_not, Int.toNat_natCast, cond_bt, cond_bf, Bool.cond_true, Bool.cond_false, Bool.not_true, Bool.not_false, reduceCtorEq, false_implies, implies_true, Bool.true_eq_false, Bool.false_eq_true, Bool.not_eq_true', Bool.not_eq_false', bs_size, bs_data, bs_toList, bs_extract, bs_append, bs_mk, byteF]
  have hmx := maxLen_eq
  exact λ b hb => ⟨λ hbt => by
   have h0 : l.length = 0 := by
    rcases Nat.eq_zero_or_pos l.length with h0 | h0
    ·exact h0
    ·rw [hb h0] at hbt; cases hbt
   exact ⟨(), h0, h0, h⟩, λ _ => ⟨⟨by omega, by omega⟩, (), Nat.le_refl _, h⟩⟩
 ·exact h.elim
theorem XCloneR : EntOk Tryz.prog 37 (.lend TCloneR) := by
 refine ⟨Am.enters_of Tryz.func37 (by kernel_rfl) (by kernel_rfl), λ args R h => ?_⟩
 unfold TCloneR at h
 split at h
 ·rename_i x
  obtain ⟨l, ⟨hx, hl⟩, h⟩ := h
  refine Spec.args (args' := [.rows 2 l.length (rowF l)]) ⟨hx, trivial⟩ ?_
  refine Spec.weak (Z := Unit) (X := λ _ => .own 0 0 l.length) (HH := λ _ => [.row 2 tyCR l.length (rowF l)]) (mkSo (vCloneR l R) (tb az) Tryz.func37 (by kernel_rfl) ?_)
  simp only [true_and, and_true, and_self, implies_true, forall_const, gEq_true, gEq_false, nonneg_iff, natle_iff, decide_eq_true_eq, decide_eq_false_iff_not, Int.toNat_natCast, cond_bt, cond_bf, Bool.cond_true, Bool.cond_false, Bool.not_true, Bool.not_false, reduceCtorEq, false_implies, implies_true, Bool.true_eq_false, Bool.false_eq_true, Bool.not_eq_true', Bool.not_eq_false', bs_size, bs_data, bs_toList, bs_extract, bs_append, bs_mk, byteF]
  have hmx := maxLen_eq
  exact λ b hb => ⟨λ hbt => by
   have h0 : l.length = 0 := by
    rcases Nat.eq_zero_or_pos l.length with h0 | h0
    ·exact h0
    ·rw [hb h0] at hbt; cases hbt
   exact ⟨(), h0, h0, h⟩, λ _ => ⟨⟨by omega, by omega⟩, (), Nat.le_refl _, h⟩⟩
 ·exact h.elim
theorem XCloneC : EntOk Tryz.prog 38 (.lend TCloneC) := by
 refine ⟨Am.enters_of Tryz.func38 (by kernel_rfl) (by kernel_rfl), λ args R h => ?_⟩
 unfold TCloneC at h
 split at h
 ·rename_i x
  obtain ⟨l, ⟨hx, hl⟩, h⟩ := h
  refine Spec.args (args' := [.rows 3 l.length (chgF l)]) ⟨hx, trivial⟩ ?_
  refine Spec.weak (Z := Unit) (X := λ _ => .own 0 0 l.length) (HH := λ _ => [.row 3 tyCC l.length (chgF l)]) (mkSo (vCloneC l R) (tb az) Tryz.func38 (by kernel_rfl) ?_)
  simp only [true_and, and_true, and_self, implies_true, forall_const, gEq_true, gEq_false, nonneg_iff, natle_iff, decide_eq_true_eq, decide_eq_false_iff_not, Int.toNat_natCast, cond_bt, cond_bf, Bool.cond_true, Bool.cond_false, Bool.not_true, Bool.not_false, reduceCtorEq, false_implies, implies_true, Bool.true_eq_false, Bool.false_eq_true, Bool.not_eq_true', Bool.not_eq_false', bs_size, bs_data, bs_toList, bs_extract, bs_append, bs_mk, byteF]
  have hmx := maxLen_eq
  exact λ b hb => ⟨λ hbt => by
   have h0 : l.length = 0 := by
    rcases Nat.eq_zero_or_pos l.length with h0 | h0
    ·exact h0
    ·rw [hb h0] at hbt; cases hbt
   exact ⟨(), h0, h0, h⟩, λ _ => ⟨⟨by omega, by omega⟩, (), Nat.le_refl _, h⟩⟩
 ·exact h.elim
theorem XShort : EntOk Tryz.prog 39 (.lend TShort) := by
 refine ⟨Am.enters_of Tryz.func39 (by kernel_rfl) (by kernel_rfl), λ args R h => ?_⟩
 unfold TShort at h
 split at h
 ·rename_i s
  obtain ⟨l, rfl⟩ : ∃ l, s = bs l := ⟨_, bs_of s⟩
  rw [bs_data] at h
  refine mkSo (vShort l R) (tb az) Tryz.func39 (by kernel_rfl) ?_
  simp only [true_and, and_true, and_self, implies_true, forall_const, gEq_true, gEq_false, nonneg_iff, natle_iff, decide_eq_true_eq, decide_eq_false_iff_not, Int.toNat_natCast, cond_bt, cond_bf, Bool.cond_true, Bool.cond_false, Bool.not_true, Bool.not_false, reduceCtorEq, false_implies, implies_true, Bool.true_eq_false, Bool.false_eq_true, Bool.not_eq_true', Bool.not_eq_false', bs_size, bs_data, bs_toList, bs_extract, bs_append, bs_mk, byteF]
  have e : ∀ c : Int, (c = 1025 /\ 1025 <= l.length ∨ c = (l.length : Int) /\ l.length <= 1025) -> l.take c.toNat = l.take 1025 := λ c hc => by
   rcases hc with ⟨rfl, _⟩ | ⟨rfl, h2⟩
   ·rfl
   ·rw [Int.toNat_natCast, List.take_length, List.take_of_length_le h2]
  have h0 : Int.toNat (0 : Int) = 0 := rfl
  rw [h0, List.drop_zero]
  split
  ·rw [e _ (.inl ⟨rfl, by omega⟩)]
   exact ⟨by omega, h⟩
  ·rw [e _ (.inr ⟨rfl, by omega⟩)]
   exact ⟨by omega, h⟩
 ·exact h.elim
theorem XEqEvs : EntOk Tryz.prog 30 (.lend TEqEvs) := by
 refine ⟨Am.enters_of Tryz.func30 (by kernel_rfl) (by kernel_rfl), λ args R h => ?_⟩
 unfold TEqEvs at h
 split at h
 ·rename_i x y
  obtain ⟨a, b, ⟨hx, hy⟩, h⟩ := h
  refine Spec.argsR (args' := [evsAV a, evsAV b, fnSame]) ⟨hx, hy, rfl, trivial⟩ (Spec.given λ hg => ?_)
  obtain ⟨hg, _⟩ := hg
  have hmx := maxLen_eq
  refine mkSo (vEqEvs a b (λ i => i <= a.length /\ a.length = b.length /\ ∀ j, j < i -> sameE (evAt a j) (evAt b j) = true) R) (tb (ac XSame az)) Tryz.func30 (by kernel_rfl) ?_
  simp only [true_and, and_true, and_self, implies_true, forall_const, gEq_true, gEq_false, nonneg_iff, natle_iff, decide_eq_true_eq, decide_eq_false_iff_not, Int.toNat_natCast, cond_bt, cond_bf, Bool.cond_true, Bool.cond_false, Bool.not_true, Bool.not_false, reduceCtorEq, false_implies, implies_true, Bool.true_eq_false, Bool.false_eq_true, Bool.not_eq_true', Bool.not_eq_false', bs_size, bs_data, bs_toList, bs_extract, bs_append, bs_mk, byteF] at h ⊢
  have hne : a.length ≠ b.length -> sameEvs a b = false := λ hc => by rw [sameEvs, beq_eq_false_iff_ne.2 hc]; rfl
  refine ⟨λ hq => ?_, λ hq => ⟨⟨0, rfl, Nat.zero_le _, ?_, λ j hj => absurd hj (Nat.not_lt_zero j)⟩, λ x hx => ⟨λ hlt => ⟨⟨by omega, by omega⟩, ⟨by omega, by omega⟩, evAt a x, evAt b x, ⟨isEv_self _, isEv_self _⟩, λ hb => ?_, λ hb => ⟨x + 1, by rw [wrap64] <;> omega, ⟨by omega, hx.2.1, λ j hj => ?_⟩, by omega⟩⟩, λ hge => ?_⟩⟩⟩
  ·rw [hne λ e => by rw [e] at hq; simp at hq] at h
   exact h
  ·have : (a.length : Int) = (b.length : Int) := by simpa using hq
   omega
  ·have : sameEvs a b = false := by
    rw [Bool.eq_false_iff]
    intro hc
    rw [sameEvs, Bool.and_eq_true, List.all_eq_true] at hc
    have := hc.2 x (List.mem_range.2 (by omega))
    rw [hb] at this
    cases this
   rw [this] at h
   exact h
  ·rcases Nat.lt_or_ge j x with q | q
   ·exact hx.2.2 j q
   ·rw [show j = x by omega]; exact hb
  ·have : sameEvs a b = true := by
    rw [sameEvs, Bool.and_eq_true, List.all_eq_true, beq_iff_eq]
    exact ⟨hx.2.1, λ j hj => hx.2.2 j (by have := List.mem_range.1 hj; omega)⟩
   rw [this] at h
   exact h
 ·exact h.elim
theorem XSameSc : EntOk Tryz.prog 13 (.lend TSameSc) := by
 refine ⟨Am.enters_of Tryz.func13 (by kernel_rfl) (by kernel_rfl), λ args R h => ?_⟩
 unfold TSameSc at h
 split at h
 ·rename_i a b c x d e f y
  obtain ⟨l, m, ⟨hx, hy⟩, h⟩ := h
  refine Spec.argsD (args' := [.agg [nm a, nm b, nm c, evsAV l], .agg [nm d, nm e, nm f, evsAV m]]) ⟨.cons (.pl _) rfl (.cons (.pl _) rfl (.cons (.pl _) rfl (.cons (.of_leR hx) (evs_cw hx) .nil))), .cons (.pl _) rfl (.cons (.pl _) rfl (.cons (.pl _) rfl (.cons (.of_leR hy) (evs_cw hy) .nil))), trivial⟩ ?_
  refine mkSo (vSameSc a b c d e f l m R) (tb (ac XEqEvs az)) Tryz.func13 (by kernel_rfl) ?_
  simp only [true_and, and_true, and_self, implies_true, forall_const, gEq_true, gEq_false, nonneg_iff, natle_iff, decide_eq_true_eq, decide_eq_false_iff_not, Int.toNat_natCast, cond_bt, cond_bf, Bool.cond_true, Bool.cond_false, Bool.not_true, Bool.not_false, reduceCtorEq, false_implies, implies_true, Bool.true_eq_false, Bool.false_eq_true, Bool.not_eq_true', Bool.not_eq_false', bs_size, bs_data, bs_toList, bs_extract, bs_append, bs_mk, byteF] at h ⊢
  refine ⟨λ hq => ⟨l, m, ⟨isEvs_self l, isEvs_self m⟩, ?_⟩, λ hq => ?_⟩
  ·have hq' : (a == d && b == e && c == f) = true := by simpa [Bool.and_assoc] using hq
   rw [hq', Bool.true_and] at h
   exact h
  ·have hq' : (a == d && b == e && c == f) = false := by simpa [Bool.and_assoc] using hq
   rw [hq', Bool.false_and] at h
   exact h
 ·exact h.elim
end Go.Proofs.Sz

namespace Go.Proofs.Sz
open Go Go.Am Go.SP
theorem vEvent (e : Ev) (inv13 inv18 : LX -> Prop) (R : AV -> List LObj -> Prop) : (vcA false false 0 [1, 2] Tryz.prog (mkTab [(35, .lend TCloneB), (36, .lend TCloneI), (37, .lend TCloneR), (38, .lend TCloneC), (39,
 .lend TShort)]) (optC (Tryz.f17.body.getD .skip)) ([.unroll 8 4 true (λ _ => []), .loop 13 LX inv13 (λ x => ⟨slotsOf 144 0 [(1, .ptr 0 0 0 0), (2, .ptr 1 0 0 0), (89, .own 4 0 x.2.1.1.length), (90, nm
 x.2.1.1.length), (91, nm x.2.2)], heapX e x⟩) (λ x => x.2.1.1.length - x.2.2) (λ _ => []), .loop 18 LX inv18 (λ x => ⟨slotsOf 144 0 [(1, .ptr 0 0 0 0), (2, .ptr 1 0 0 0), (117, .own 5 0 x.2.1.2.length), (118, nm
 x.2.1.2.length), (119, nm x.2.2)], heapX e x⟩) (λ x => x.2.1.2.length - x.2.2) (λ _ => [])]) (finalK Tryz.prog Tryz.f17 (λ y H => ∃ _ : Unit, leSt 0 ⟨[y], H⟩ ⟨[(shortE e).av], []⟩ (R (shortE e).av []))) (startSt
 Tryz.f17 ([e.av]))) = ( True /\ True /\ ((0 : Int) <= 0 /\ ((0 : Int) <= if (2049 : Int) < (↑e.keep.length : Int) then (2049 : Int) else (↑e.keep.length : Int)) /\ (if (2049 : Int) < (↑e.keep.length : Int) then (2049 :
 Int) else (↑e.keep.length : Int)) <= (↑e.keep.length : Int)) /\ ∃ (l : List Bool), (IsBools (AV.rows 1 ((if (2049 : Int) < (↑e.keep.length : Int) then (2049 : Int) else (↑e.keep.length : Int)).toNat - Int.toNat 0) λ (i
 : Nat) => bl (e.keep.getD (Int.toNat 0 + i) false)) l /\ l.length.le (100000 : Nat)) /\ True /\ ((0 : Int) <= 0 /\ ((0 : Int) <= if (41 : Int) < (↑e.conf.length : Int) then (41 : Int) else (↑e.conf.length : Int)) /\ (if
 (41 : Int) < (↑e.conf.length : Int) then (41 : Int) else (↑e.conf.length : Int)) <= (↑e.conf.length : Int)) /\ ∃ (l_1 : List Int), (IsInts0 (AV.rows 1 ((if (41 : Int) < (↑e.conf.length : Int) then (41 : Int) else
 (↑e.conf.length : Int)).toNat - Int.toNat 0) λ (i : Nat) => nm (e.conf.getD (Int.toNat 0 + i) (0 : Int))) l_1 /\ l_1.length.le (100000 : Nat)) /\ True /\ ((0 : Int) <= 0 /\ ((0 : Int) <= if (41 : Int) < (↑e.map.length
 : Int) then (41 : Int) else (↑e.map.length : Int)) /\ (if (41 : Int) < (↑e.map.length : Int) then (41 : Int) else (↑e.map.length : Int)) ≤ (↑e.map.length : Int)) /\ ∃ (l_2 : List (Bs × Bs)), (IsMap (AV.rows 2 ((if (41 :
 Int) < (↑e.map.length : Int) then (41 : Int) else (↑e.map.length : Int)).toNat - Int.toNat 0) λ (i : Nat) => AV.agg [sl (e.map.getD (Int.toNat 0 + i) ([], [])).1, sl (e.map.getD (Int.toNat 0 + i) ([], [])).2]) l_2 /\
 l_2.length.le (100000 : Nat)) /\ True /\ ((0 : Int) <= 0 /\ ((0 : Int) <= if (41 : Int) < (↑e.edit.length : Int) then (41 : Int) else (↑e.edit.length : Int)) /\ (if (41 : Int) < (↑e.edit.length : Int) then (41 : Int)
 else (↑e.edit.length : Int)) <= (↑e.edit.length : Int)) /\ ∃ (l_3 : List (Bs × Bool × Bs)), (IsEdit (AV.rows 3 ((if (41 : Int) < (↑e.edit.length : Int) then (41 : Int) else (↑e.edit.length : Int)).toNat - Int.toNat 0)
 λ (i : Nat) => AV.agg [sl (e.edit.getD (Int.toNat 0 + i) ([], false, [])).1, bl (e.edit.getD (Int.toNat 0 + i) ([], false, [])).2.1, sl (e.edit.getD (Int.toNat 0 + i) ([], false, [])).2.2]) l_3 /\ l_3.length.le (100000
 : Nat)) /\ True /\ ((0 : Int) <= 0 /\ ((0 : Int) <= if (9 : Int) < (↑ e.data.length : Int) then (9 : Int) else (↑ e.data.length : Int)) /\ (if (9 : Int) < (↑ e.data.length : Int) then (9 : Int) else (↑ e.data.length :
 Int)) ≤ (↑ e.data.length : Int)) /\ True /\ ((0 : Int) <= 0 /\ (0 : Int) + 1 <= (↑ (3 : Nat) : Int)) /\ True /\ True /\ ((0 : Int) <= k64Q.wrap ((0 : Int) + 1) /\ k64Q.wrap ((0 : Int) + 1) + 1 <= (↑ (3 : Nat) : Int)) /\
 True /\ True /\ ((0 : Int) <= k64Q.wrap (k64Q.wrap ((0 : Int) + 1) + 1) /\ k64Q.wrap (k64Q.wrap ((0 : Int) + 1) + 1) + 1 <= (↑ (3 : Nat) : Int)) /\ True /\ True /\ (∃ (x : LX), ((True /\ 0 = 0 /\ 0 = 0 /\ 0 = 0) /\ (True
 /\ 0 = 0 /\ 0 = 0 /\ 0 = 0) /\ (True /\ 0 = 0 /\ l_2.length = x.2.1.1.length) /\ (l_2.length : Int) = (↑x.2.1.1.length : Int) /\ (0 : Int) = (↑x.2.2 : Int) /\ True) /\ ((62 = 62 /\ e.kind = e.kind /\ e.node = e.node /\
 e.to = e.to /\ e.n = e.n /\ (True /\ 0 = 0 /\ l.length = x.1.1.length) /\ (True /\ 0 = 0 /\ l_1.length = x.1.2.length) /\ bs (List.take (1025 : Nat) e.branch) = bs (List.take (1025 : Nat) e.branch) /\ (True /\ 0 = 0 /\
 l_2.length = x.2.1.1.length) /\ (True /\ 0 = 0 /\ l_3.length = x.2.1.2.length) /\ e.author = e.author /\ bs (List.take (1025 : Nat) e.note) = bs (List.take (1025 : Nat) e.note) /\ e.ck = e.ck /\ e.client = e.client /\
 e.seq = e.seq /\ bs (List.take (1025 : Nat) e.cbranch) = bs (List.take (1025 : Nat) e.cbranch) /\ (k8Q = k8Q /\ 32 = 32 /\ ∀ i < 32, e.old i = e.old i) /\ (k8Q = k8Q /\ 32 = 32 /\ ∀ i < 32, e.new i = e.new i) /\ (1 = 1
 /\ (if (9 : Int) < (↑ e.data.length : Int) then (9 : Int) else (↑ e.data.length : Int)).toNat - Int.toNat 0 = (List.take (9 : Nat) e.data).length /\ ∀ (i : Nat), i < (if (9 : Int) < (↑ e.data.length : Int) then (9 : Int)
 else (↑ e.data.length : Int)).toNat - Int.toNat 0 -> AV.pl (Value.int k8Q (↑ (e.data.getD (Int.toNat 0 + i) (0 : UInt8)).toNat : Int)) = AV.pl (Value.int k8Q (↑ ((List.take (9 : Nat) e.data).getD i (0 : UInt8)).toNat :
 Int))) /\ True) /\ (62 = 62 /\ (0 : Int) = 0 /\ (0 : Int) = 0 /\ (0 : Int) = 0 /\ (0 : Int) = 0 /\ nQ = nQ /\ nQ = nQ /\ ByteArray.mk #[] = bs [] /\ nQ = nQ /\ nQ = nQ /\ (0 : Int) = 0 /\ ByteArray.mk #[] = bs [] /\ (0 :
 Int) = 0 /\ (0 : Int) = 0 /\ (0 : Int) = 0 /\ ByteArray.mk #[] = bs [] /\ (k8Q = k8Q /\ 32 = 32 /\ ∀ i < 32, (0 : Int) = 0) /\ (k8Q = k8Q /\ 32 = 32 /\ ∀ i < 32, (0 : Int) = 0) /\ nQ = nQ /\ True) /\ (1 = 1 /\ 4 = 4 /\
 x.1.1.length.le l.length /\ ∀ i < x.1.1.length, bl (l.getD i false) = bl (x.1.1.getD i false)) /\ (1 = 1 /\ 3 = 3 /\ x.1.2.length.le l_1.length /\ ∀ i < x.1.2.length, nm (l_1.getD i (0 : Int)) = nm (x.1.2.getD i (0 :
 Int))) /\ (2 = 2 /\ 96 = 96 /\ x.2.1.1.length.le l_2.length /\ ∀ i < x.2.1.1.length, AV.agg [sl (l_2.getD i ([], [])).1, sl (l_2.getD i ([], [])).2] = AV.agg [sl (x.2.1.1.getD i ([], [])).1, sl (x.2.1.1.getD i ([],
 [])).2]) /\ (3 = 3 /\ 64 = 64 /\ x.2.1.2.length.le l_3.length /\ ∀ i < x.2.1.2.length, AV.agg [sl (l_3.getD i ([], false, [])).1, bl (l_3.getD i ([], false, [])).2.1, sl (l_3.getD i ([], false, [])).2.2] = AV.agg [sl
 (x.2.1.2.getD i ([], false, [])).1, bl (x.2.1.2.getD i ([], false, [])).2.1, sl (x.2.1.2.getD i ([], false, [])).2.2]) /\ True) /\ inv13 x) /\ ∀ (x : LX), inv13 x -> (decide ((↑x.2.2 : Int) < (↑x.2.1.1.length : Int)) =
 true -> ((0 : Int) <= (↑x.2.2 : Int) /\ (↑x.2.2 : Int) + 1 <= (↑x.2.1.1.length : Int)) /\ (((0 : Nat) + (↑x.2.2 : Int).toNat).succ.le x.2.1.1.length /\ True) /\ True /\ True /\ ((0 : Int) <= (↑x.2.2 : Int) /\ (↑x.2.2 :
 Int) + 1 <= (↑x.2.1.1.length : Int)) /\ ((0 : Int) <= (↑x.2.2 : Int) /\ (↑x.2.2 : Int) + 1 ≤ (↑x.2.1.1.length : Int)) /\ (((0 : Nat) + (↑x.2.2 : Int).toNat).succ.le x.2.1.1.length /\ True) /\ ((0 : Int) <= (↑x.2.2 : Int)
 /\ (↑x.2.2 : Int) + 1 <= (↑x.2.1.1.length : Int)) /\ ((0 : Int) <= (↑x.2.2 : Int) /\ (↑x.2.2 : Int) + 1 <= (↑x.2.1.1.length : Int)) /\ (((0 : Nat) + (↑x.2.2 : Int).toNat).succ.le x.2.1.1.length /\ True) /\ ∃ (y : LX),
 ((True /\ 0 = 0 /\ 0 = 0 /\ 0 = 0) /\ (True /\ 0 = 0 /\ 0 = 0 /\ 0 = 0) /\ (True /\ 0 = 0 /\ x.2.1.1.length = y.2.1.1.length) /\ (↑x.2.1.1.length : Int) = (↑y.2.1.1.length : Int) /\ k64Q.wrap ((↑x.2.2 : Int) + 1) =
 (↑y.2.2 : Int) /\ True) /\ ((62 = 62 /\ e.kind = e.kind /\ e.node = e.node /\ e.to = e.to /\ e.n = e.n /\ (True /\ 0 = 0 /\ x.1.1.length = y.1.1.length) /\ (True /\ 0 = 0 /\ x.1.2.length = y.1.2.length) /\ bs (List.take
 (1025 : Nat) e.branch) = bs (List.take (1025 : Nat) e.branch) /\ (True /\ 0 = 0 /\ x.2.1.1.length = y.2.1.1.length) /\ (True /\ 0 = 0 /\ x.2.1.2.length = y.2.1.2.length) /\ e.author = e.author /\ bs (List.take (1025 :
 Nat) e.note) = bs (List.take (1025 : Nat) e.note) /\ e.ck = e.ck /\ e.client = e.client /\ e.seq = e.seq /\ bs (List.take (1025 : Nat) e.cbranch) = bs (List.take (1025 : Nat) e.cbranch) /\ (k8Q = k8Q /\ 32 = 32 /\ ∀ i <
 32, e.old i = e.old i) /\ (k8Q = k8Q /\ 32 = 32 /\ ∀ i < 32, e.new i = e.new i) /\ (1 = 1 /\ (List.take (9 : Nat) e.data).length = (List.take (9 : Nat) e.data).length /\ ∀ i < (List.take (9 : Nat) e.data).length, AV.pl
 (Value.int k8Q (↑ ((List.take (9 : Nat) e.data).getD i (0 : UInt8)).toNat : Int)) = AV.pl (Value.int k8Q (↑ ((List.take (9 : Nat) e.data).getD i (0 : UInt8)).toNat : Int))) /\ True) /\ (62 = 62 /\ (0 : Int) = 0 /\ (0 :
 Int) = 0 /\ (0 : Int) = 0 /\ (0 : Int) = 0 /\ nQ = nQ /\ nQ = nQ /\ bs [] = bs [] /\ nQ = nQ /\ nQ = nQ /\ (0 : Int) = 0 /\ bs [] = bs [] /\ (0 : Int) = 0 /\ (0 : Int) = 0 /\ (0 : Int) = 0 /\ bs [] = bs [] /\ (k8Q = k8Q
 /\ 32 = 32 /\ ∀ i < 32, (0 : Int) = 0) /\ (k8Q = k8Q /\ 32 = 32 /\ ∀ i < 32, (0 : Int) = 0) /\ nQ = nQ /\ True) /\ (1 = 1 /\ 4 = 4 /\ y.1.1.length.le x.1.1.length /\ ∀ i < y.1.1.length, bl (x.1.1.getD i false) = bl
 (y.1.1.getD i false)) /\ (1 = 1 /\ 3 = 3 /\ y.1.2.length.le x.1.2.length /\ ∀ i < y.1.2.length, nm (x.1.2.getD i (0 : Int)) = nm (y.1.2.getD i (0 : Int))) /\ (2 = 2 /\ 96 = 96 /\ y.2.1.1.length.le x.2.1.1.length /\ ∀ i <
 y.2.1.1.length, AV.agg [AV.pl (Value.string (if i = 0 + (↑x.2.2 : Int).toNat then if (0 : Nat) + (↑x.2.2 : Int).toNat = 0 + (↑x.2.2 : Int).toNat then bs (List.take (1025 : Nat) (x.2.1.1.getD ((0 : Nat) + (↑x.2.2 :
 Int).toNat) ([], [])).1) else bs (x.2.1.1.getD ((0 : Nat) + (↑x.2.2 : Int).toNat) ([], [])).1 else if i = 0 + (↑x.2.2 : Int).toNat then bs (List.take (1025 : Nat) (x.2.1.1.getD ((0 : Nat) + (↑x.2.2 : Int).toNat) ([],
 [])).1) else bs (x.2.1.1.getD i ([], [])).1)), AV.pl (Value.string (if i = 0 + (↑x.2.2 : Int).toNat then bs (List.take (1025 : Nat) (x.2.1.1.getD ((0 : Nat) + (↑x.2.2 : Int).toNat) ([], [])).2) else if i = 0 + (↑x.2.2 :
 Int).toNat then bs (x.2.1.1.getD ((0 : Nat) + (↑x.2.2 : Int).toNat) ([], [])).2 else bs (x.2.1.1.getD i ([], [])).2))] = AV.agg [sl (y.2.1.1.getD i ([], [])).1, sl (y.2.1.1.getD i ([], [])).2]) /\ (3 = 3 /\ 64 = 64 /\
 y.2.1.2.length.le x.2.1.2.length /\ ∀ i < y.2.1.2.length, AV.agg [sl (x.2.1.2.getD i ([], false, [])).1, bl (x.2.1.2.getD i ([], false, [])).2.1, sl (x.2.1.2.getD i ([], false, [])).2.2] = AV.agg [sl (y.2.1.2.getD i ([],
 false, [])).1, bl (y.2.1.2.getD i ([], false, [])).2.1, sl (y.2.1.2.getD i ([], false, [])).2.2]) /\ True) /\ inv13 y /\ (y.2.1.1.length - y.2.2).succ.le (x.2.1.1.length - x.2.2)) /\ (decide ((↑x.2.2 : Int) <
 (↑x.2.1.1.length : Int)) = false -> (∃ (x_1 : LX), ((True /\ 0 = 0 /\ 0 = 0 /\ 0 = 0) /\ (True /\ 0 = 0 /\ 0 = 0 /\ 0 = 0) /\ (True /\ 0 = 0 /\ x.2.1.2.length = x_1.2.1.2.length) /\ (↑x.2.1.2.length : Int) =
 (↑x_1.2.1.2.length : Int) /\ (0 : Int) = (↑x_1.2.2 : Int) /\ True) /\ ((62 = 62 /\ e.kind = e.kind /\ e.node = e.node /\ e.to = e.to /\ e.n = e.n /\ (True /\ 0 = 0 /\ x.1.1.length = x_1.1.1.length) /\ (True /\ 0 = 0 /\
 x.1.2.length = x_1.1.2.length) /\ bs (List.take (1025 : Nat) e.branch) = bs (List.take (1025 : Nat) e.branch) /\ (True /\ 0 = 0 /\ x.2.1.1.length = x_1.2.1.1.length) /\ (True /\ 0 = 0 /\ x.2.1.2.length =
 x_1.2.1.2.length) /\ e.author = e.author /\ bs (List.take (1025 : Nat) e.note) = bs (List.take (1025 : Nat) e.note) /\ e.ck = e.ck /\ e.client = e.client /\ e.seq = e.seq /\ bs (List.take (1025 : Nat) e.cbranch) = bs
 (List.take (1025 : Nat) e.cbranch) /\ (k8Q = k8Q /\ 32 = 32 /\ ∀ i < 32, e.old i = e.old i) /\ (k8Q = k8Q /\ 32 = 32 /\ ∀ i < 32, e.new i = e.new i) /\ (1 = 1 /\ (List.take (9 : Nat) e.data).length = (List.take (9 : Nat)
 e.data).length /\ ∀ i < (List.take (9 : Nat) e.data).length, AV.pl (Value.int k8Q (↑ ((List.take (9 : Nat) e.data).getD i (0 : UInt8)).toNat : Int)) = AV.pl (Value.int k8Q (↑ ((List.take (9 : Nat) e.data).getD i (0 :
 UInt8)).toNat : Int))) /\ True) /\ (62 = 62 /\ (0 : Int) = 0 /\ (0 : Int) = 0 /\ (0 : Int) = 0 /\ (0 : Int) = 0 /\ nQ = nQ /\ nQ = nQ /\ bs [] = bs [] /\ nQ = nQ /\ nQ = nQ /\ (0 : Int) = 0 /\ bs [] = bs [] /\ (0 : Int)
 = 0 /\ (0 : Int) = 0 /\ (0 : Int) = 0 /\ bs [] = bs [] /\ (k8Q = k8Q /\ 32 = 32 /\ ∀ i < 32, (0 : Int) = 0) /\ (k8Q = k8Q /\ 32 = 32 /\ ∀ i < 32, (0 : Int) = 0) /\ nQ = nQ /\ True) /\ (1 = 1 /\ 4 = 4 /\ x_1.1.1.length.le
 x.1.1.length /\ ∀ i < x_1.1.1.length, bl (x.1.1.getD i false) = bl (x_1.1.1.getD i false)) /\ (1 = 1 /\ 3 = 3 /\ x_1.1.2.length.le x.1.2.length /\ ∀ i < x_1.1.2.length, nm (x.1.2.getD i (0 : Int)) = nm (x_1.1.2.getD i (0
 : Int))) /\ (2 = 2 /\ 96 = 96 /\ x_1.2.1.1.length.le x.2.1.1.length /\ ∀ i < x_1.2.1.1.length, AV.agg [sl (x.2.1.1.getD i ([], [])).1, sl (x.2.1.1.getD i ([], [])).2] = AV.agg [sl (x_1.2.1.1.getD i ([], [])).1, sl
 (x_1.2.1.1.getD i ([], [])).2]) /\ (3 = 3 /\ 64 = 64 /\ x_1.2.1.2.length.le x.2.1.2.length /\ ∀ i < x_1.2.1.2.length, AV.agg [sl (x.2.1.2.getD i ([], false, [])).1, bl (x.2.1.2.getD i ([], false, [])).2.1, sl
 (x.2.1.2.getD i ([], false, [])).2.2] = AV.agg [sl (x_1.2.1.2.getD i ([], false, [])).1, bl (x_1.2.1.2.getD i ([], false, [])).2.1, sl (x_1.2.1.2.getD i ([], false, [])).2.2]) /\ True) /\ inv18 x_1) /\ ∀ (x : LX), inv18
 x -> (decide ((↑x.2.2 : Int) < (↑x.2.1.2.length : Int)) = true -> ((0 : Int) <= (↑x.2.2 : Int) /\ (↑x.2.2 : Int) + 1 <= (↑x.2.1.2.length : Int)) /\ (((0 : Nat) + (↑x.2.2 : Int).toNat).succ.le x.2.1.2.length /\ True) /\
 True /\ True /\ ((0 : Int) <= (↑x.2.2 : Int) /\ (↑x.2.2 : Int) + 1 <= (↑x.2.1.2.length : Int)) /\ ((0 : Int) ≤ (↑x.2.2 : Int) /\ (↑x.2.2 : Int) + 1 <= (↑x.2.1.2.length : Int)) /\ (((0 : Nat) + (↑x.2.2 :
 Int).toNat).succ.le x.2.1.2.length /\ True) /\ ((0 : Int) <= (↑x.2.2 : Int) /\ (↑x.2.2 : Int) + 1 <= (↑x.2.1.2.length : Int)) /\ ((0 : Int) <= (↑x.2.2 : Int) /\ (↑x.2.2 : Int) + 1 <= (↑x.2.1.2.length : Int)) /\ (((0 :
 Nat) + (↑x.2.2 : Int).toNat).succ.le x.2.1.2.length /\ True) /\ ∃ (y : LX), ((True /\ 0 = 0 /\ 0 = 0 /\ 0 = 0) /\ (True /\ 0 = 0 /\ 0 = 0 /\ 0 = 0) /\ (True /\ 0 = 0 /\ x.2.1.2.length = y.2.1.2.length) /\
 (↑x.2.1.2.length : Int) = (↑y.2.1.2.length : Int) /\ k64Q.wrap ((↑x.2.2 : Int) + 1) = (↑y.2.2 : Int) /\ True) /\ ((62 = 62 /\ e.kind = e.kind /\ e.node = e.node /\ e.to = e.to /\ e.n = e.n /\ (True /\ 0 = 0 /\
 x.1.1.length = y.1.1.length) /\ (True /\ 0 = 0 /\ x.1.2.length = y.1.2.length) /\ bs (List.take (1025 : Nat) e.branch) = bs (List.take (1025 : Nat) e.branch) /\ (True /\ 0 = 0 /\ x.2.1.1.length = y.2.1.1.length) /\ (True
 /\ 0 = 0 /\ x.2.1.2.length = y.2.1.2.length) /\ e.author = e.author /\ bs (List.take (1025 : Nat) e.note) = bs (List.take (1025 : Nat) e.note) /\ e.ck = e.ck /\ e.client = e.client /\ e.seq = e.seq /\ bs (List.take (1025
 : Nat) e.cbranch) = bs (List.take (1025 : Nat) e.cbranch) /\ (k8Q = k8Q /\ 32 = 32 /\ ∀ i < 32, e.old i = e.old i) /\ (k8Q = k8Q /\ 32 = 32 /\ ∀ i < 32, e.new i = e.new i) /\ (1 = 1 /\ (List.take (9 : Nat) e.data).length
 = (List.take (9 : Nat) e.data).length /\ ∀ i < (List.take (9 : Nat) e.data).length, AV.pl (Value.int k8Q (↑ ((List.take (9 : Nat) e.data).getD i (0 : UInt8)).toNat : Int)) = AV.pl (Value.int k8Q (↑ ((List.take (9 : Nat)
 e.data).getD i (0 : UInt8)).toNat : Int))) /\ True) /\ (62 = 62 /\ (0 : Int) = 0 /\ (0 : Int) = 0 /\ (0 : Int) = 0 /\ (0 : Int) = 0 /\ nQ = nQ /\ nQ = nQ /\ bs [] = bs [] /\ nQ = nQ /\ nQ = nQ /\ (0 : Int) = 0 /\ bs [] =
 bs [] /\ (0 : Int) = 0 /\ (0 : Int) = 0 /\ (0 : Int) = 0 /\ bs [] = bs [] /\ (k8Q = k8Q /\ 32 = 32 /\ ∀ i < 32, (0 : Int) = 0) /\ (k8Q = k8Q /\ 32 = 32 /\ ∀ i < 32, (0 : Int) = 0) /\ nQ = nQ /\ True) /\ (1 = 1 /\ 4 = 4
 /\ y.1.1.length.le x.1.1.length /\ ∀ i < y.1.1.length, bl (x.1.1.getD i false) = bl (y.1.1.getD i false)) /\ (1 = 1 /\ 3 = 3 /\ y.1.2.length.le x.1.2.length /\ ∀ i < y.1.2.length, nm (x.1.2.getD i (0 : Int)) = nm
 (y.1.2.getD i (0 : Int))) /\ (2 = 2 /\ 96 = 96 /\ y.2.1.1.length.le x.2.1.1.length /\ ∀ i < y.2.1.1.length, AV.agg [sl (x.2.1.1.getD i ([], [])).1, sl (x.2.1.1.getD i ([], [])).2] = AV.agg [sl (y.2.1.1.getD i ([],
 [])).1, sl (y.2.1.1.getD i ([], [])).2]) /\ (3 = 3 /\ 64 = 64 /\ y.2.1.2.length.le x.2.1.2.length /\ ∀ i < y.2.1.2.length, AV.agg [AV.pl (Value.string (if i = 0 + (↑x.2.2 : Int).toNat then if (0 : Nat) + (↑x.2.2 :
 Int).toNat = 0 + (↑x.2.2 : Int).toNat then bs (List.take (1025 : Nat) (x.2.1.2.getD ((0 : Nat) + (↑x.2.2 : Int).toNat) ([], false, [])).1) else bs (x.2.1.2.getD ((0 : Nat) + (↑x.2.2 : Int).toNat) ([], false, [])).1 else
 if i = 0 + (↑x.2.2 : Int).toNat then bs (List.take (1025 : Nat) (x.2.1.2.getD ((0 : Nat) + (↑x.2.2 : Int).toNat) ([], false, [])).1) else bs (x.2.1.2.getD i ([], false, [])).1)), bl (if i = 0 + (↑x.2.2 : Int).toNat then
 if (0 : Nat) + (↑x.2.2 : Int).toNat = 0 + (↑x.2.2 : Int).toNat then (x.2.1.2.getD ((0 : Nat) + (↑x.2.2 : Int).toNat) ([], false, [])).2.1 else (x.2.1.2.getD ((0 : Nat) + (↑x.2.2 : Int).toNat) ([], false, [])).2.1 else if
 i = 0 + (↑x.2.2 : Int).toNat then (x.2.1.2.getD ((0 : Nat) + (↑x.2.2 : Int).toNat) ([], false, [])).2.1 else (x.2.1.2.getD i ([], false, [])).2.1), AV.pl (Value.string (if i = 0 + (↑x.2.2 : Int).toNat then bs (List.take
 (1025 : Nat) (x.2.1.2.getD ((0 : Nat) + (↑x.2.2 : Int).toNat) ([], false, [])).2.2) else if i = 0 + (↑x.2.2 : Int).toNat then bs (x.2.1.2.getD ((0 : Nat) + (↑x.2.2 : Int).toNat) ([], false, [])).2.2 else bs (x.2.1.2.getD
 i ([], false, [])).2.2))] = AV.agg [sl (y.2.1.2.getD i ([], false, [])).1, bl (y.2.1.2.getD i ([], false, [])).2.1, sl (y.2.1.2.getD i ([], false, [])).2.2]) /\ True) /\ inv18 y /\ (y.2.1.2.length - y.2.2).succ.le
 (x.2.1.2.length - x.2.2)) /\ (decide ((↑x.2.2 : Int) < (↑x.2.1.2.length : Int)) = false -> True /\ (True /\ True) /\ (True /\ True /\ True /\ True /\ ((0 : Nat) + x.1.1.length).le x.1.1.length /\ ((0 : Nat) +
 x.1.2.length).le x.1.2.length /\ True /\ ((0 : Nat) + x.2.1.1.length).le x.2.1.1.length /\ ((0 : Nat) + x.2.1.2.length).le x.2.1.2.length /\ True /\ True /\ True /\ True /\ True /\ True /\ True /\ True /\ True /\ True)
 /\ ∃ (x_1 : Unit), ((e.kind = (shortE e).kind /\ e.node = (shortE e).node /\ e.to = (shortE e).to /\ e.n = (shortE e).n /\ (1 = 1 /\ x.1.1.length = (shortE e).keep.length /\ ∀ i < x.1.1.length, bl (x.1.1.getD ((0 : Nat)
 + i) false) = bl ((shortE e).keep.getD i false)) /\ (1 = 1 /\ x.1.2.length = (shortE e).conf.length /\ ∀ i < x.1.2.length, nm (x.1.2.getD ((0 : Nat) + i) (0 : Int)) = nm ((shortE e).conf.getD i (0 : Int))) /\ bs
 (List.take (1025 : Nat) e.branch) = bs (shortE e).branch /\ (2 = 2 /\ x.2.1.1.length = (shortE e).map.length /\ ∀ i < x.2.1.1.length, AV.agg [sl (x.2.1.1.getD ((0 : Nat) + i) ([], [])).1, sl (x.2.1.1.getD ((0 : Nat) + i)
 ([], [])).2] = AV.agg [sl ((shortE e).map.getD i ([], [])).1, sl ((shortE e).map.getD i ([], [])).2]) /\ (3 = 3 /\ x.2.1.2.length = (shortE e).edit.length /\ ∀ i < x.2.1.2.length, AV.agg [sl (x.2.1.2.getD ((0 : Nat) + i)
 ([], false, [])).1, bl (x.2.1.2.getD ((0 : Nat) + i) ([], false, [])).2.1, sl (x.2.1.2.getD ((0 : Nat) + i) ([], false, [])).2.2] = AV.agg [sl ((shortE e).edit.getD i ([], false, [])).1, bl ((shortE e).edit.getD i ([],
 false, [])).2.1, sl ((shortE e).edit.getD i ([], false, [])).2.2]) /\ e.author = (shortE e).author /\ bs (List.take (1025 : Nat) e.note) = bs (shortE e).note /\ e.ck = (shortE e).ck /\ e.client = (shortE e).client /\
 e.seq = (shortE e).seq /\ bs (List.take (1025 : Nat) e.cbranch) = bs (shortE e).cbranch /\ (k8Q = k8Q /\ 32 = 32 /\ ∀ i < 32, e.old i = (shortE e).old i) /\ (k8Q = k8Q /\ 32 = 32 /\ ∀ i < 32, e.new i = (shortE e).new i)
 /\ (1 = 1 /\ (List.take (9 : Nat) e.data).length = List.length (shortE e).data /\ ∀ i < (List.take (9 : Nat) e.data).length, AV.pl (Value.int k8Q (↑ ((List.take (9 : Nat) e.data).getD i (0 : UInt8)).toNat : Int)) = AV.pl
 (Value.int k8Q (↑ ((shortE e).data.getD i (0 : UInt8)).toNat : Int))) /\ True) /\ True) /\ True /\ R ((shortE e).av) []))) := by kernel_rfl
end Go.Proofs.Sz

namespace Go.Proofs.Sz
open Go Go.Am Go.SP
theorem cutLen (n k : Nat) (c : Int) (hc : c = k) : (if c < (n : Int) then c else (n : Int)).toNat - Int.toNat (0 : Int) = min k n := by
 subst hc
 have h0 : Int.toNat (0 : Int) = 0 := rfl
 rw [h0]
 split <;> omega
theorem cut_ok (n : Nat) (c : Int) (hc : 0 <= c) : (0 : Int) <= 0 /\ ((0 : Int) <= if c < (n : Int) then c else (n : Int)) /\ (if c < (n : Int) then c else (n : Int)) <= (n : Int) := by
 split <;> omega
theorem take_getD {α : Type} (l : List α) (k i : Nat) (d : α) (h : i < min k l.length) : l.getD (Int.toNat (0 : Int) + i) d = (l.take k).getD i d := by
 have h0 : Int.toNat (0 : Int) = 0 := rfl
 rw [h0, Nat.zero_add, List.getD_eq_getElem?_getD, List.getD_eq_getElem?_getD, List.getElem?_take_of_lt (by omega)]
theorem upto_len {α : Type} (g : α -> α) (l : List α) (i : Nat) : (upto g l i).length = l.length := by
 simp [upto]
 omega
theorem upto_zero {α : Type} (g : α -> α) (l : List α) : upto g l 0 = l := by simp [upto]
theorem upto_all {α : Type} (g : α -> α) (l : List α) : upto g l l.length = l.map g := by simp [upto]
theorem upto_lt {α : Type} (g : α -> α) (l : List α) (i j : Nat) (d : α) (hj : j < l.length) (h : j < i) : (upto g l i).getD j d = g (l.getD j d) := by
 rw [upto, List.getD_eq_getElem?_getD, List.getElem?_append_left (by simp; omega), List.getElem?_map, List.getElem?_take_of_lt h, List.getD_eq_getElem?_getD, List.getElem?_eq_getElem hj]
 rfl
theorem upto_ge {α : Type} (g : α -> α) (l : List α) (i j : Nat) (d : α) (hi : i <= l.length) (h : i <= j) : (upto g l i).getD j d = l.getD j d := by
 have hl : ((l.take i).map g).length = i := by simp; omega
 rw [upto, List.getD_eq_getElem?_getD, List.getElem?_append_right (by omega), hl, List.getElem?_drop, List.getD_eq_getElem?_getD, show i + (j - i) = j by omega]
theorem XEvent : EntOk Tryz.prog 17 (.lend TShortE) := by
 refine ⟨Am.enters_of Tryz.func17 (by kernel_rfl) (by kernel_rfl), λ args R h => ?_⟩
 unfold TShortE at h
 split at h
 ·rename_i x
  obtain ⟨e, hx, h⟩ := h
  refine Spec.args (args' := [e.av]) ⟨hx, trivial⟩ ?_
  refine Spec.weak (Z := Unit) (X := λ _ => (shortE e).av) (HH := λ _ => []) (mkSo (vEvent e (λ x => x.1 = (e.keep.take 2049, e.conf.take 41) /\ ∃ i, i <= (e.map.take 41).length /\ x.2 = ((upto sh2 (e.map.take 41) i, e.edit.take 41), i)) (λ x => x.1 = (e.keep.take 2049, e.conf.take 41) /\ ∃ i, i <= (e.edit.take 41).length /\ x.2 = (((e.map.take 41).map sh2, upto sh3 (e.edit.take 41) i), i)) R) (tb (ac XCloneB (ac XCloneI (ac XCloneR (ac XCloneC (ac XShort az)))))) Tryz.func17 (by kernel_rfl) ?_)
  simp only [true_and, and_true, and_self, implies_true, forall_const, gEq_true, gEq_false, nonneg_iff, natle_iff, decide_eq_true_eq, decide_eq_false_iff_not, Int.toNat_natCast, cond_bt, cond_bf, Bool.cond_true, Bool.cond_false, Bool.not_true, Bool.not_false, reduceCtorEq, false_implies, implies_true, Bool.true_eq_false, Bool.false_eq_true, Bool.not_eq_true', Bool.not_eq_false', bs_size, bs_data, bs_toList, bs_extract, bs_append, bs_mk, byteF]
  have hlK : (e.keep.take 2049).length <= 2049 := by simp; omega
  have hlC : (e.conf.take 41).length <= 41 := by simp; omega
  have hlM : (e.map.take 41).length <= 41 := by simp; omega
  have hlD : (e.edit.take 41).length <= 41 := by simp; omega
  refine ⟨cut_ok _ _ (by decide), e.keep.take 2049, ⟨⟨rfl, (cutLen _ 2049 _ rfl).trans List.length_take.symm, λ i hi => ?_⟩, by omega⟩, cut_ok _ _ (by decide), e.conf.take 41, ⟨⟨rfl, (cutLen _ 41 _ rfl).trans List.length_take.symm, λ i hi => ?_⟩, by omega⟩, cut_ok _ _ (by decide), e.map.take 41, ⟨⟨rfl, (cutLen _ 41 _ rfl).trans List.length_take.symm, λ i hi => ?_⟩, by omega⟩, cut_ok _ _ (by decide), e.edit.take 41, ⟨⟨rfl, (cutLen _ 41 _ rfl).trans List.length_take.symm, λ i hi => ?_⟩, by omega⟩, cut_ok _ _ (by decide), by decide, by decide, by decide,
   ⟨((e.keep.take 2049, e.conf.take 41), ((e.map.take 41, e.edit.take 41), 0)), ⟨rfl, rfl, rfl⟩, ⟨⟨rfl, rfl, rfl, rfl, (cutLen _ 9 _ rfl).trans List.length_take.symm, λ i hi => ?_⟩, ⟨Nat.le_refl _, λ _ _ => rfl⟩, ⟨Nat.le_refl _, λ _ _ => rfl⟩, ⟨Nat.le_refl _, λ _ _ => rfl⟩, Nat.le_refl _, λ _ _ => rfl⟩, rfl, 0, Nat.zero_le _, by rw [upto_zero]⟩, λ x hx => ?_⟩
  ·rw [cutLen _ 2049 2049 rfl] at hi
   show bl _ = bl _
   rw [take_getD _ 2049 _ _ hi]
  ·rw [cutLen _ 41 41 rfl] at hi
   show nm _ = nm _
   rw [take_getD _ 41 _ _ hi]
  ·rw [cutLen _ 41 41 rfl] at hi
   show AV.agg [sl _, sl _] = AV.agg [sl _, sl _]
   rw [take_getD _ 41 _ _ hi]
  ·rw [cutLen _ 41 41 rfl] at hi
   show AV.agg [sl _, bl _, sl _] = AV.agg [sl _, bl _, sl _]
   rw [take_getD _ 41 _ _ hi]
  ·rw [cutLen _ 9 9 rfl] at hi
   rw [take_getD _ 9 _ _ hi]
  ·obtain ⟨⟨a, b⟩, ⟨⟨m, d⟩, n⟩⟩ := x
   obtain ⟨h1, i, hi, h2⟩ := hx
   dsimp only at h1 h2
   obtain ⟨rfl, rfl⟩ := Prod.mk.inj h1
   obtain ⟨h2, rfl⟩ := Prod.mk.inj h2
   obtain ⟨rfl, rfl⟩ := Prod.mk.inj h2
   have hM := upto_len sh2 (e.map.take 41) n
   have hM1 := upto_len sh2 (e.map.take 41) (n + 1)
   dsimp only
   refine ⟨λ hlt => ⟨⟨by omega, by omega⟩, by omega, ⟨by omega, by omega⟩, ⟨by omega, by omega⟩, by omega, ⟨by omega, by omega⟩, ⟨by omega, by omega⟩, by omega, ((e.keep.take 2049, e.conf.take 41), ((upto sh2 (e.map.take 41) (n + 1), e.edit.take 41), n + 1)), ⟨by dsimp only; omega, by dsimp only; omega, by dsimp only; rw [wrap64] <;> omega⟩, ⟨⟨rfl, rfl, by dsimp only; omega, rfl⟩, ⟨Nat.le_refl _, λ _ _ => rfl⟩, ⟨Nat.le_refl _, λ _ _ => rfl⟩, ⟨by dsimp only; omega, λ j hj => ?_⟩, Nat.le_refl _, λ _ _ => rfl⟩, ⟨rfl, n + 1, by omega, rfl⟩, by dsimp only; omega⟩, λ hge => ?_⟩
   ·dsimp only at hj ⊢
    rw [Nat.zero_add]
    by_cases hji : j = n
    ·subst hji
     simp only [if_true]
     rw [upto_lt sh2 _ (j + 1) j _ (by omega) (by omega), upto_ge sh2 _ j j _ hi (Nat.le_refl _)]
     rfl
    ·simp only [if_neg hji]
     rcases Nat.lt_or_ge j n with q | q
     ·rw [upto_lt sh2 _ (n + 1) j _ (by omega) (by omega), upto_lt sh2 _ n j _ (by omega) q]
     ·rw [upto_ge sh2 _ (n + 1) j _ (by omega) (by omega), upto_ge sh2 _ n j _ hi q]
   have hn : n = (e.map.take 41).length := by omega
   rw [hn, upto_all]
   refine ⟨⟨((e.keep.take 2049, e.conf.take 41), (((e.map.take 41).map sh2, e.edit.take 41), 0)), ⟨rfl, rfl, rfl⟩, ⟨⟨rfl, rfl, rfl, rfl⟩, ⟨Nat.le_refl _, λ _ _ => rfl⟩, ⟨Nat.le_refl _, λ _ _ => rfl⟩, ⟨Nat.le_refl _, λ _ _ => rfl⟩, Nat.le_refl _, λ _ _ => rfl⟩, rfl, 0, Nat.zero_le _, by rw [upto_zero]⟩, λ x hx => ?_⟩
   obtain ⟨⟨a, b⟩, ⟨⟨m, d⟩, n⟩⟩ := x
   obtain ⟨h1, i, hi, h2⟩ := hx
   dsimp only at h1 h2
   obtain ⟨rfl, rfl⟩ := Prod.mk.inj h1
   obtain ⟨h2, rfl⟩ := Prod.mk.inj h2
   obtain ⟨rfl, rfl⟩ := Prod.mk.inj h2
   have hM := upto_len sh3 (e.edit.take 41) n
   have hM1 := upto_len sh3 (e.edit.take 41) (n + 1)
   dsimp only
   refine ⟨λ hlt => ⟨⟨by omega, by omega⟩, by omega, ⟨by omega, by omega⟩, ⟨by omega, by omega⟩, by omega, ⟨by omega, by omega⟩, ⟨by omega, by omega⟩, by omega, ((e.keep.take 2049, e.conf.take 41), (((e.map.take 41).map sh2, upto sh3 (e.edit.take 41) (n + 1)), n + 1)), ⟨by dsimp only; omega, by dsimp only; omega, by dsimp only; rw [wrap64] <;> omega⟩, ⟨⟨rfl, rfl, rfl, by dsimp only; omega⟩, ⟨Nat.le_refl _, λ _ _ => rfl⟩, ⟨Nat.le_refl _, λ _ _ => rfl⟩, ⟨Nat.le_refl _, λ _ _ => rfl⟩, by dsimp only; omega, λ j hj => ?_⟩, ⟨rfl, n + 1, by omega, rfl⟩, by dsimp only; omega⟩, λ hge => ?_⟩
   ·dsimp only at hj ⊢
    rw [Nat.zero_add]
    by_cases hji : j = n
    ·subst hji
     simp only [if_true]
     rw [upto_lt sh3 _ (j + 1) j _ (by omega) (by omega), upto_ge sh3 _ j j _ hi (Nat.le_refl _)]
     rfl
    ·simp only [if_neg hji]
     rcases Nat.lt_or_ge j n with q | q
     ·rw [upto_lt sh3 _ (n + 1) j _ (by omega) (by omega), upto_lt sh3 _ n j _ (by omega) q]
     ·rw [upto_ge sh3 _ (n + 1) j _ (by omega) (by omega), upto_ge sh3 _ n j _ hi q]
   have hn : n = (e.edit.take 41).length := by omega
   rw [hn, upto_all]
   refine ⟨by omega, (), ?_, h⟩
   simp only [Nat.zero_add]
   exact ⟨rfl, rfl, rfl, rfl, ⟨rfl, λ _ _ => rfl⟩, ⟨rfl, λ _ _ => rfl⟩, rfl, ⟨rfl, λ _ _ => rfl⟩, ⟨rfl, λ _ _ => rfl⟩, rfl, rfl, rfl, rfl, rfl, rfl, λ _ _ => rfl, λ _ _ => rfl, rfl, λ _ _ => rfl⟩
 ·exact h.elim
end Go.Proofs.Sz

namespace Go.Proofs.Sz
open Go Go.Am Go.SP
theorem vFew (a b c : Int) (l : List Ev) (inv : Nat -> Prop) (R : AV -> List LObj -> Prop) : (vcA false false 0 [2] Tryz.prog (mkTab [(17, .lend TShortE)]) (optC (Tryz.f7.body.getD .skip)) ([.loop 3 Nat inv (λ i =>
 ⟨slotsOf 30 0 [(2, .ptr 0 0 0 0), (3, .ptr 1 0 0 0), (15, evsAV (l.take 301)), (16, nm (l.take 301).length), (17, nm i)], [.box tySc [nm 0, nm 0, nm 0, nilS], scBox 2 ⟨a, b, c, (fewL l).take i⟩, rowE ((fewL l).take i)]⟩)
 (λ i => (l.take 301).length - i) (λ _ => [])]) (finalK Tryz.prog Tryz.f7 (λ y H => ∃ _ : Unit, leSt 0 ⟨[y], H⟩ ⟨[scAV ⟨a, b, c, fewL l⟩], []⟩ (R (scAV ⟨a, b, c, fewL l⟩) []))) (startSt Tryz.f7 ([.agg [nm a, nm b,
 nm c, evsAV l]]))) = ( True /\ True /\ True /\ True /\ ((0 : Int) <= 0 /\ ((0 : Int) <= if (301 : Int) < (l.length : Int) then (301 : Int) else (l.length : Int)) /\ (if (301 : Int) < (l.length : Int) then (301 : Int)
 else (l.length : Int)) <= (l.length : Int)) /\ (∃ (x : Nat), ((True /\ 0 = 0 /\ 0 = 0 /\ 0 = 0) /\ (True /\ 0 = 0 /\ 0 = 0 /\ 0 = 0) /\ (80 = 80 /\ (if (301 : Int) < (l.length : Int) then (301 : Int) else (↑l.length :
 Int)).toNat - Int.toNat 0 = (List.take (301 : Nat) l).length /\ ∀ (i : Nat), i < (if (301 : Int) < (l.length : Int) then (301 : Int) else (l.length : Int)).toNat - Int.toNat 0 -> (evAt l (Int.toNat 0 + i)).av = (evAt
 (List.take (301 : Nat) l) i).av) /\ (↑ ((if (301 : Int) < (l.length : Int) then (301 : Int) else (l.length : Int)).toNat - Int.toNat 0) : Int) = (↑ (List.take (301 : Nat) l).length : Int) /\ (0 : Int) = (x : Int) /\
 True) /\ ((28 = 28 /\ (0 : Int) = 0 /\ (0 : Int) = 0 /\ (0 : Int) = 0 /\ nQ = nQ /\ True) /\ (28 = 28 /\ a = (Sc.mk a b c (List.take x (fewL l))).servers /\ b = (Sc.mk a b c (List.take x (fewL l))).clients /\ c = (Sc.mk
 a b c (List.take x (fewL l))).area /\ (True /\ True /\ 0 = 0 /\ (Sc.mk a b c (List.take x (fewL l))).evs.length = 0) /\ True) /\ (List.take x (fewL l)).length = 0 /\ True) /\ inv x) /\ ∀ (x : Nat), inv x -> (decide ((↑x
 : Int) < (↑ (List.take (301 : Nat) l).length : Int)) = true -> ((0 : Int) <= (x : Int) /\ (x : Int) + 1 <= (↑ (List.take (301 : Nat) l).length : Int)) /\ True /\ True /\ ∃ (e : Ev), IsEv ((evAt (List.take (301 : Nat)
 l) (x : Int).toNat).av) e /\ True /\ (((0 : Nat) + 1).le (1 : Nat) /\ (Sc.mk a b c (List.take x (fewL l))).evs.length = (List.take x (fewL l)).length /\ ((List.take x (fewL l)).length + 1).le maxLen /\ (((List.take x
 (fewL l)).length + 1) * 296).le (140737488355328 : Nat)) /\ True /\ ∃ (y : Nat), ((True /\ 0 = 0 /\ 0 = 0 /\ 0 = 0) /\ (True /\ 0 = 0 /\ 0 = 0 /\ 0 = 0) /\ (80 = 80 /\ (List.take (301 : Nat) l).length = (List.take (301 :
 Nat) l).length /\ ∀ i < (List.take (301 : Nat) l).length, (evAt (List.take (301 : Nat) l) i).av = (evAt (List.take (301 : Nat) l) i).av) /\ (↑ (List.take (301 : Nat) l).length : Int) = (↑ (List.take (301 : Nat) l).length
 : Int) /\ k64Q.wrap ((x : Int) + 1) = (y : Int) /\ True) /\ ((28 = 28 /\ (0 : Int) = 0 /\ (0 : Int) = 0 /\ (0 : Int) = 0 /\ nQ = nQ /\ True) /\ (28 = 28 /\ (Sc.mk a b c (List.take x (fewL l))).servers = (Sc.mk a b c
 (List.take y (fewL l))).servers /\ (Sc.mk a b c (List.take x (fewL l))).clients = (Sc.mk a b c (List.take y (fewL l))).clients /\ (Sc.mk a b c (List.take x (fewL l))).area = (Sc.mk a b c (List.take y (fewL l))).area /\
 (True /\ 0 = 0 /\ (List.take x (fewL l)).length + 1 = (Sc.mk a b c (List.take y (fewL l))).evs.length) /\ True) /\ (80 = 80 /\ 62 = 62 /\ (List.take y (fewL l)).length.le ((List.take x (fewL l)).length + 1) /\ ∀ i <
 (List.take y (fewL l)).length, (if i < (List.take x (fewL l)).length then (evAt (List.take x (fewL l)) i).av else rowOf [((0 : Nat), (shortE e).av)] ((0 : Nat) + (i - (List.take x (fewL l)).length))) = (evAt (List.take y
 (fewL l)) i).av) /\ True) /\ inv y /\ ((List.take (301 : Nat) l).length - y).succ.le ((List.take (301 : Nat) l).length - x)) /\ (decide ((x : Int) < (↑ (List.take (301 : Nat) l).length : Int)) = false -> True /\ (True
 /\ True) /\ (True /\ True /\ True /\ ((0 : Nat) + (Sc.mk a b c (List.take x (fewL l))).evs.length).le (List.take x (fewL l)).length /\ True) /\ ∃ (x_1 : Unit), (((Sc.mk a b c (List.take x (fewL l))).servers = (Sc.mk a b
 c (fewL l)).servers /\ (Sc.mk a b c (List.take x (fewL l))).clients = (Sc.mk a b c (fewL l)).clients /\ (Sc.mk a b c (List.take x (fewL l))).area = (Sc.mk a b c (fewL l)).area /\ (80 = 80 /\ (Sc.mk a b c (List.take x
 (fewL l))).evs.length = (Sc.mk a b c (fewL l)).evs.length /\ ∀ (i : Nat), i < (Sc.mk a b c (List.take x (fewL l))).evs.length -> (evAt (List.take x (fewL l)) ((0 : Nat) + i)).av = (evAt (Sc.mk a b c (fewL l)).evs i).av)
 /\ True) /\ True) /\ True /\ R (AV.agg [nm (Sc.mk a b c (fewL l)).servers, nm (Sc.mk a b c (fewL l)).clients, nm (Sc.mk a b c (fewL l)).area, AV.rows 80 (Sc.mk a b c (fewL l)).evs.length (evF (Sc.mk a b c (fewL
 l)).evs)]) [])) := by kernel_rfl
end Go.Proofs.Sz

namespace Go.Proofs.Sz
open Go Go.Am Go.SP
theorem sameE_comm (a b : Ev) : sameE a b = sameE b a := by
 rw [Bool.eq_iff_iff, same_iff, same_iff]
 exact ⟨SameP.symm, SameP.symm⟩
theorem sameE_self (a : Ev) : sameE a a = true := same_iff.2 ⟨⟨rfl, rfl, rfl, rfl, λ _ _ => rfl, λ _ _ => rfl, rfl⟩, ⟨rfl, rfl, rfl, rfl, rfl, rfl, rfl⟩, rfl, rfl, rfl, rfl⟩
theorem sameEvs_comm (a b : List Ev) : sameEvs a b = sameEvs b a := by
 rw [Bool.eq_iff_iff]
 simp only [sameEvs, Bool.and_eq_true, beq_iff_eq, List.all_eq_true, List.mem_range]
 exact ⟨λ h => ⟨h.1.symm, λ i hi => by rw [sameE_comm]; exact h.2 i (by omega)⟩, λ h => ⟨h.1.symm, λ i hi => by rw [sameE_comm]; exact h.2 i (by omega)⟩⟩
theorem sameEvs_self (a : List Ev) : sameEvs a a = true := by
 simp only [sameEvs, Bool.and_eq_true, beq_iff_eq, List.all_eq_true, List.mem_range]
 exact ⟨trivial, λ i _ => sameE_self _⟩
end Go.Proofs.Sz

namespace Go.Proofs.Sz
open Go Go.Am Go.SP
theorem evAt_take (l : List Ev) (k i : Nat) (h : i < min k l.length) : evAt l (Int.toNat (0 : Int) + i) = evAt (l.take k) i := take_getD l k i ev0 h
theorem XFew : EntOk Tryz.prog 7 (.lend TFew) := by
 refine ⟨Am.enters_of Tryz.func7 (by kernel_rfl) (by kernel_rfl), λ args R h => ?_⟩
 unfold TFew at h
 split at h
 ·rename_i a b c x
  obtain ⟨l, hx, h⟩ := h
  refine Spec.argsD (args' := [.agg [nm a, nm b, nm c, evsAV l]]) ⟨.cons (.pl _) rfl (.cons (.pl _) rfl (.cons (.pl _) rfl (.cons (.of_leR hx) (evs_cw hx) .nil))), trivial⟩ ?_
  refine Spec.weak (Z := Unit) (X := λ _ => scAV ⟨a, b, c, fewL l⟩) (HH := λ _ => []) (mkSo (vFew a b c l (λ i => i <= (l.take 301).length) R) (tb (ac XEvent az)) Tryz.func7 (by kernel_rfl) ?_)
  have hmx := maxLen_eq
  have hl1 : (l.take 301).length <= 301 := by simp; omega
  have hfl : (fewL l).length = (l.take 301).length := by simp [fewL]
  simp only [true_and, and_true, and_self, implies_true, forall_const, gEq_true, gEq_false, nonneg_iff, natle_iff, decide_eq_true_eq, decide_eq_false_iff_not, Int.toNat_natCast, cond_bt, cond_bf, Bool.cond_true, Bool.cond_false, Bool.not_true, Bool.not_false, reduceCtorEq, false_implies, implies_true, Bool.true_eq_false, Bool.false_eq_true, Bool.not_eq_true', Bool.not_eq_false', bs_size, bs_data, bs_toList, bs_extract, bs_append, bs_mk, byteF]
  refine ⟨cut_ok _ _ (by decide), ⟨0, ⟨⟨(cutLen _ 301 301 rfl).trans List.length_take.symm, λ i hi => congrArg Ev.av (evAt_take l 301 i (by rwa [cutLen _ 301 301 rfl] at hi))⟩, by rw [cutLen _ 301 301 rfl, List.length_take], rfl⟩, by simp, Nat.zero_le _⟩, λ x hx => ?_⟩
  have htx : ((fewL l).take x).length = x := by rw [List.length_take, hfl]; omega
  refine ⟨λ hlt => ?_, λ hge => ?_⟩
  ·have hstep : (fewL l).take (x + 1) = (fewL l).take x ++ [shortE (evAt (l.take 301) x)] := by
    rw [List.take_succ_eq_append_getElem (by omega)]
    congr 2
    simp only [fewL, List.getElem_map, evAt]
    rw [List.getD_eq_getElem?_getD, List.getElem?_eq_getElem (by omega)]
    rfl
   refine ⟨⟨by omega, by omega⟩, evAt (l.take 301) x, isEv_self _, ⟨by omega, by omega, by omega⟩, x + 1, by rw [wrap64] <;> omega, ⟨?_, ?_, λ i hi => ?_⟩, by omega, by omega⟩
   ·rw [hstep, List.length_append]; rfl
   ·rw [hstep, List.length_append]; exact Nat.le_refl _
   ·rw [hstep] at hi ⊢
    exact app_at Ev.av ((fewL l).take x) (shortE (evAt (l.take 301) x)) ev0 i hi
  ·have hxl : (fewL l).take x = fewL l := List.take_of_length_le (by omega)
   rw [hxl]
   refine ⟨by omega, (), ⟨rfl, λ i _ => congrArg Ev.av (by rw [Nat.zero_add])⟩, h⟩
 ·exact h.elim
end Go.Proofs.Sz

namespace Go.Proofs.Sz
open Go Go.Am Go.SP
theorem ne_len {α : Type} [BEq α] [LawfulBEq α] {a b : List α} (h : ((a.length : Int) != (b.length : Int)) = true) : (a == b) = false := beq_eq_false_iff_ne.2 λ e => by rw [e] at h; simp at h
theorem eq_len {α : Type} {a b : List α} (h : ((a.length : Int) != (b.length : Int)) = false) : a.length = b.length := by
 simp at h
 omega
theorem XSame5 : EntOk Tryz.prog 58 (.lend TSameMap) := by
 refine ⟨Am.enters_of Tryz.func58 (by kernel_rfl) (by kernel_rfl), λ args R h => ?_⟩
 unfold TSameMap at h
 split at h
 ·rename_i x y
  obtain ⟨a, b, ⟨hx, hy⟩, h⟩ := h
  refine Spec.args (args' := [.agg [mapAV a], .agg [mapAV b]]) ⟨⟨hx, trivial⟩, ⟨hy, trivial⟩, trivial⟩ (Spec.givenD λ hg => ?_)
  obtain ⟨⟨ga, _⟩, ⟨gb, _⟩, _⟩ := hg
  refine mkSo (vSame5 a b (λ i => i <= a.length /\ a.length = b.length /\ a.take i = b.take i) R) (tb az) Tryz.func58 (by kernel_rfl) ?_
  have hmx := maxLen_eq
  simp only [true_and, and_true, and_self, implies_true, forall_const, gEq_true, gEq_false, nonneg_iff, natle_iff, decide_eq_true_eq, decide_eq_false_iff_not, Int.toNat_natCast, cond_bt, cond_bf, Bool.cond_true, Bool.cond_false, Bool.not_true, Bool.not_false, reduceCtorEq, false_implies, implies_true, Bool.true_eq_false, Bool.false_eq_true, Bool.not_eq_true', Bool.not_eq_false', bs_size, bs_data, bs_toList, bs_extract, bs_append, bs_mk, byteF] at h ⊢
  refine ⟨λ hne => ?_, λ hne => ?_⟩
  ·rw [ne_len hne] at h
   exact h
  ·have hl := eq_len hne
   refine ⟨⟨0, rfl, Nat.zero_le _, hl, by simp⟩, λ i hi => ⟨λ hlt => ⟨⟨by omega, by omega⟩, ⟨by omega, by omega⟩, ⟨by omega, by omega⟩, ⟨by omega, by omega⟩, λ hb => ?_, λ hb => ?_⟩, λ hge => ?_⟩⟩
   ·have : (a == b) = false := beq_eq_false_iff_ne.2 λ e => by
     have e2 := getD_len a b ([], []) i e
     rw [e2] at hb; simp at hb
    rw [this] at h
    exact h
   ·have e : a.getD i ([], []) = b.getD i ([], []) := by
     simp at hb; exact Prod.ext hb.1 hb.2
    exact ⟨i + 1, by rw [wrap64] <;> omega, ⟨by omega, hl, take_eq_step a b ([], []) i (by omega) (by omega) hi.2.2 e⟩, by omega⟩
   ·have h8 : i = a.length := by omega
    obtain ⟨_, _, h9⟩ := hi
    rw [h8, List.take_length, hl, List.take_length] at h9
    rw [beq_iff_eq.2 h9] at h
    exact h
 ·exact h.elim
theorem XSameEdit5 : EntOk Tryz.prog 59 (.lend TSameEdit) := by
 refine ⟨Am.enters_of Tryz.func59 (by kernel_rfl) (by kernel_rfl), λ args R h => ?_⟩
 unfold TSameEdit at h
 split at h
 ·rename_i x y
  obtain ⟨a, b, ⟨hx, hy⟩, h⟩ := h
  refine Spec.args (args' := [.agg [editAV a], .agg [editAV b]]) ⟨⟨hx, trivial⟩, ⟨hy, trivial⟩, trivial⟩ (Spec.givenD λ hg => ?_)
  obtain ⟨⟨ga, _⟩, ⟨gb, _⟩, _⟩ := hg
  refine mkSo (vSameEdit5 a b (λ i => i <= a.length /\ a.length = b.length /\ a.take i = b.take i) R) (tb az) Tryz.func59 (by kernel_rfl) ?_
  have hmx := maxLen_eq
  simp only [true_and, and_true, and_self, implies_true, forall_const, gEq_true, gEq_false, nonneg_iff, natle_iff, decide_eq_true_eq, decide_eq_false_iff_not, Int.toNat_natCast, cond_bt, cond_bf, Bool.cond_true, Bool.cond_false, Bool.not_true, Bool.not_false, reduceCtorEq, false_implies, implies_true, Bool.true_eq_false, Bool.false_eq_true, Bool.not_eq_true', Bool.not_eq_false', bs_size, bs_data, bs_toList, bs_extract, bs_append, bs_mk, byteF] at h ⊢
  refine ⟨λ hne => ?_, λ hne => ?_⟩
  ·rw [ne_len hne] at h
   exact h
  ·have hl := eq_len hne
   refine ⟨⟨0, rfl, Nat.zero_le _, hl, by simp⟩, λ i hi => ⟨λ hlt => ⟨⟨by omega, by omega⟩, ⟨by omega, by omega⟩, ⟨by omega, by omega⟩, ⟨by omega, by omega⟩, λ hb => ?_, λ hb => ?_⟩, λ hge => ?_⟩⟩
   ·have : (a == b) = false := beq_eq_false_iff_ne.2 λ e => by
     have e2 := getD_len a b ([], false, []) i e
     rw [e2] at hb; simp at hb
    rw [this] at h
    exact h
   ·have e : a.getD i ([], false, []) = b.getD i ([], false, []) := by
     simp at hb; exact Prod.ext hb.1 (Prod.ext hb.2.1 hb.2.2)
    exact ⟨i + 1, by rw [wrap64] <;> omega, ⟨by omega, hl, take_eq_step a b ([], false, []) i (by omega) (by omega) hi.2.2 e⟩, by omega⟩
   ·have h8 : i = a.length := by omega
    obtain ⟨_, _, h9⟩ := hi
    rw [h8, List.take_length, hl, List.take_length] at h9
    rw [beq_iff_eq.2 h9] at h
    exact h
 ·exact h.elim
def flatR (a b : Ev) : Bool := a.ck == b.ck && a.client == b.client && a.seq == b.seq && a.cbranch == b.cbranch && ((List.range 32).all λ i => a.old i == b.old i) && ((List.range 32).all λ i => a.new i == b.new i) && a.kind == b.kind && a.node == b.node && a.to == b.to && a.n == b.n && a.branch == b.branch && (a.author == b.author && a.note == b.note)
theorem sameE_R (a b : Ev) : sameE a b = ((a.data == b.data) && (a.keep == b.keep) && (a.conf == b.conf) && flatR a b && ((a.map == b.map) && (a.edit == b.edit))) := by
 simp only [sameE, idEq, flatR]
 ac_rfl
theorem XSameEvR : EntOk Tryz.prog 29 (.lend TSameEv) := by
 refine ⟨Am.enters_of Tryz.func29 (by kernel_rfl) (by kernel_rfl), λ args R h => ?_⟩
 unfold TSameEv at h
 split at h
 ·rename_i x y
  obtain ⟨a, b, ⟨hx, hy⟩, h⟩ := h
  refine Spec.args (args' := [a.av, b.av]) ⟨hx, hy, trivial⟩ (Spec.givenD λ hg => ?_)
  refine mkSo (vSameEvR a b (λ i => i <= a.keep.length /\ (a.keep.length = b.keep.length /\ a.conf.length = b.conf.length /\ (a.data == b.data) = true) /\ a.keep.take i = b.keep.take i) (λ i => i <= a.conf.length /\ ((a.keep == b.keep) = true /\ a.conf.length = b.conf.length /\ (a.data == b.data) = true) /\ a.conf.take i = b.conf.take i) R) (tb (ac XSame5 (ac XSameEdit5 az))) Tryz.func29 (by kernel_rfl) ?_
  have hmx := maxLen_eq
  have hs := sameE_R a b
  simp only [true_and, and_true, and_self, implies_true, forall_const, gEq_true, gEq_false, nonneg_iff, natle_iff, decide_eq_true_eq, decide_eq_false_iff_not, Int.toNat_natCast, cond_bt, cond_bf, Bool.cond_true, Bool.cond_false, Bool.not_true, Bool.not_false, reduceCtorEq, false_implies, implies_true, Bool.true_eq_false, Bool.false_eq_true, Bool.not_eq_true', Bool.not_eq_false', bs_size, bs_data, bs_toList, bs_extract, bs_append, bs_mk, byteF, Bool.true_and, Bool.and_true, Bool.false_and, true_implies]
  obtain ⟨⟨g1, g2, _⟩, ⟨g3, g4, _⟩, _⟩ := hg
  have fal : sameE a b = false -> R (bl false) [] := λ e => by rw [e] at h; exact h
  refine ⟨λ hl => ?_, λ hl => fal ?_⟩
  ·have hk : a.keep.length = b.keep.length := by simp at hl; omega
   have hc : a.conf.length = b.conf.length := by simp at hl; omega
   refine ⟨bs a.data, bs_size _, λ i _ => by rw [bs_data], bs b.data, bs_size _, λ i _ => by rw [bs_data], λ hd => fal ?_, λ hd => ?_⟩
   ·rw [bs_toList, bs_toList] at hd
    rw [hs, hd]
    rfl
   rw [bs_toList, bs_toList] at hd
   refine ⟨⟨0, rfl, Nat.zero_le _, ⟨hk, hc, hd⟩, by simp⟩, λ i hi => ⟨λ hlt => ⟨⟨by omega, by omega⟩, ⟨by omega, by omega⟩, ⟨by omega, by omega⟩, ⟨by omega, by omega⟩, λ hb => fal ?_, λ hb => ⟨i + 1, by rw [wrap64] <;> omega, ⟨by omega, hi.2.1, take_eq_step a.keep b.keep false i (by omega) (by omega) hi.2.2 (by simpa using hb)⟩, by omega⟩⟩, λ hge => ?_⟩⟩
   ·have : (a.keep == b.keep) = false := beq_eq_false_iff_ne.2 λ e => by rw [e] at hb; simp at hb
    rw [hs, this]
    simp
   have hke : (a.keep == b.keep) = true := by
    have h8 : i = a.keep.length := by omega
    have h9 := hi.2.2
    rw [h8, List.take_length, hk, List.take_length] at h9
    exact beq_iff_eq.2 h9
   refine ⟨⟨0, rfl, Nat.zero_le _, ⟨hke, hc, hd⟩, by simp⟩, λ j hj => ⟨λ hlt => ⟨⟨by omega, by omega⟩, ⟨by omega, by omega⟩, ⟨by omega, by omega⟩, ⟨by omega, by omega⟩, λ hb => fal ?_, λ hb => ⟨j + 1, by rw [wrap64] <;> omega, ⟨by omega, hj.2.1, take_eq_step a.conf b.conf 0 j (by omega) (by omega) hj.2.2 (by simpa using hb)⟩, by omega⟩⟩, λ hge2 => ?_⟩⟩
   ·have : (a.conf == b.conf) = false := beq_eq_false_iff_ne.2 λ e => by rw [e] at hb; simp at hb
    rw [hs, this]
    simp
   have hce : (a.conf == b.conf) = true := by
    have h8 : j = a.conf.length := by omega
    have h9 := hj.2.2
    rw [h8, List.take_length, hc, List.take_length] at h9
    exact beq_iff_eq.2 h9
   rw [hd, hke, hce] at hs
   refine ⟨λ (hf : flatR a b = true) => ⟨a.map, b.map, ⟨isMap_self _, isMap_self _⟩, λ hm => ⟨a.edit, b.edit, ⟨isEdit_self _, isEdit_self _⟩, ?_⟩, λ hm => fal ?_⟩, λ (hf : flatR a b = false) => fal ?_⟩
   ·rw [hf, hm] at hs
    rw [hs] at h
    simpa using h
   ·rw [hs, hf, hm]
    rfl
   ·rw [hs, hf]
    rfl
  ·rw [Bool.or_eq_true] at hl
   rcases hl with hl | hl
   ·rw [hs, ne_len hl]
    simp
   ·rw [hs, ne_len hl]
    simp
 ·exact h.elim
theorem XSameScR : EntOk Tryz.prog 12 (.lend TSameSc) := by
 refine ⟨Am.enters_of Tryz.func12 (by kernel_rfl) (by kernel_rfl), λ args R h => ?_⟩
 unfold TSameSc at h
 split at h
 ·rename_i a b c x d e f y
  obtain ⟨l, m, ⟨hx, hy⟩, h⟩ := h
  refine Spec.argsD (args' := [.agg [nm a, nm b, nm c, evsAV l], .agg [nm d, nm e, nm f, evsAV m]]) ⟨.cons (.pl _) rfl (.cons (.pl _) rfl (.cons (.pl _) rfl (.cons (.of_leR hx) (evs_cw hx) .nil))), .cons (.pl _) rfl (.cons (.pl _) rfl (.cons (.pl _) rfl (.cons (.of_leR hy) (evs_cw hy) .nil))), trivial⟩ (Spec.givenD λ hg => ?_)
  obtain ⟨⟨ga, _⟩, ⟨gb, _⟩, _⟩ := hg
  have hmx := maxLen_eq
  refine mkSo (vSameScR a b c d e f l m (λ i => i <= l.length /\ l.length = m.length /\ (a == d && b == e && c == f) = true /\ ∀ j, j < i -> sameE (evAt l j) (evAt m j) = true) R) (tb (ac XSameEvR az)) Tryz.func12 (by kernel_rfl) ?_
  simp only [true_and, and_true, and_self, implies_true, forall_const, gEq_true, gEq_false, nonneg_iff, natle_iff, decide_eq_true_eq, decide_eq_false_iff_not, Int.toNat_natCast, cond_bt, cond_bf, Bool.cond_true, Bool.cond_false, Bool.not_true, Bool.not_false, reduceCtorEq, false_implies, implies_true, Bool.true_eq_false, Bool.false_eq_true, Bool.not_eq_true', Bool.not_eq_false', bs_size, bs_data, bs_toList, bs_extract, bs_append, bs_mk, byteF, Bool.and_true] at h ⊢
  have hne : l.length ≠ m.length -> sameEvs l m = false := λ hc => by rw [sameEvs, beq_eq_false_iff_ne.2 hc]; rfl
  have hA : (a == d && (b == e && c == f)) = (a == d && b == e && c == f) := by rw [Bool.and_assoc]
  rw [hA]
  refine ⟨λ hq => ?_, λ hq => ?_⟩
  ·have : (a == d && b == e && c == f && sameEvs l m) = false := by
    cases hb : (a == d && b == e && c == f) with
    | false => rfl
    | true =>
     rw [hb] at hq
     rw [hne λ ee => by rw [ee] at hq; simp at hq]
     rfl
   rw [this] at h
   exact h
  ·have hb : (a == d && b == e && c == f) = true := by
    cases hb : (a == d && b == e && c == f) with
    | true => rfl
    | false => rw [hb] at hq; cases hq
   rw [hb] at hq h
   have hl : l.length = m.length := eq_len hq
   refine ⟨⟨0, rfl, Nat.zero_le _, hl, hb, λ j hj => absurd hj (Nat.not_lt_zero j)⟩, λ i hi => ⟨λ hlt => ⟨⟨by omega, by omega⟩, ⟨by omega, by omega⟩, ⟨by omega, by omega⟩, ⟨by omega, by omega⟩, evAt l i, evAt m i, ⟨isEv_self _, isEv_self _⟩, λ hs => ?_, λ hs => ⟨i + 1, by rw [wrap64] <;> omega, ⟨by omega, hl, hb, λ j hj => ?_⟩, by omega⟩⟩, λ hge => ?_⟩⟩
   ·have : sameEvs l m = false := by
     rw [Bool.eq_false_iff]
     intro hc
     rw [sameEvs, Bool.and_eq_true, List.all_eq_true] at hc
     have := hc.2 i (List.mem_range.2 (by omega))
     rw [hs] at this
     cases this
    rw [this] at h
    exact h
   ·rcases Nat.lt_or_ge j i with q | q
    ·exact hi.2.2.2 j q
    ·rw [show j = i by omega]; exact hs
   ·have : sameEvs l m = true := by
     rw [sameEvs, Bool.and_eq_true, List.all_eq_true, beq_iff_eq]
     exact ⟨hl, λ j hj => hi.2.2.2 j (by have := List.mem_range.1 hj; omega)⟩
    rw [this] at h
    exact h
 ·exact h.elim
end Go.Proofs.Sz

namespace Go.Proofs.Sz
open Go Go.Am Go.SP
theorem XSameLaw : EntOk Tryz.prog 4 (.lend TSameLaw) := by
 refine ⟨Am.enters_of Tryz.func4 (by kernel_rfl) (by kernel_rfl), λ args R h => ?_⟩
 unfold TSameLaw at h
 split at h
 ·rename_i a b c x d e f y
  obtain ⟨l, m, ⟨hx, hy⟩, h⟩ := h
  refine Spec.argsD (args' := [.agg [nm a, nm b, nm c, evsAV l], .agg [nm d, nm e, nm f, evsAV m]]) ⟨.cons (.pl _) rfl (.cons (.pl _) rfl (.cons (.pl _) rfl (.cons (.of_leR hx) (evs_cw hx) .nil))), .cons (.pl _) rfl (.cons (.pl _) rfl (.cons (.pl _) rfl (.cons (.of_leR hy) (evs_cw hy) .nil))), trivial⟩ ?_
  refine mkSo (vSameLaw a b c d e f l m R) (tb (ac XWakes (ac XFew (ac XSameScR (ac XSameSc az))))) Tryz.func4 (by kernel_rfl) ?_
  simp only [true_and, and_true, and_self, implies_true, forall_const, gEq_true, gEq_false, nonneg_iff, natle_iff, decide_eq_true_eq, decide_eq_false_iff_not, Int.toNat_natCast, cond_bt, cond_bf, Bool.cond_true, Bool.cond_false, Bool.not_true, Bool.not_false, reduceCtorEq, false_implies, implies_true, Bool.true_eq_false, Bool.false_eq_true, Bool.not_eq_true', Bool.not_eq_false', bs_size, bs_data, bs_toList, bs_extract, bs_append, bs_mk, byteF]
  refine ⟨l, isEvs_self l, m, isEvs_self m, fewL l, fewL m, ⟨isEvs_self _, isEvs_self _⟩, fewL l, fewL m, ⟨isEvs_self _, isEvs_self _⟩, λ _ => ⟨fewL m, fewL l, ⟨isEvs_self _, isEvs_self _⟩, λ _ => ⟨l, isEvs_self l, fewL l, fewL l, ⟨isEvs_self _, isEvs_self _⟩, ?_⟩, λ hf => ?_⟩, λ hf => by simp at hf⟩
  ·have : (a == a && b == b && c == c && sameEvs (fewL l) (fewL l)) = true := by simp [sameEvs_self]
   rw [this]
   exact h
  ·rw [sameEvs_comm (fewL m) (fewL l), show (d == a) = (a == d) from BEq.comm, show (e == b) = (b == e) from BEq.comm, show (f == c) = (c == f) from BEq.comm] at hf
   simp at hf
 ·exact h.elim
end Go.Proofs.Sz
