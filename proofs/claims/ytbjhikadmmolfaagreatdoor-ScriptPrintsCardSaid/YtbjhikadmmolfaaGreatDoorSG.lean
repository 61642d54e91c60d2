/- A seat of the scripts: contracts of which events may be. -/
import Derived.Test.YtbjhikadmmolfaaGreatDoorMF
set_option linter.unusedSectionVars false
set_option linter.unusedVariables false
set_option linter.unusedSimpArgs false
set_option maxRecDepth 100000
set_option maxHeartbeats 4000000
namespace Go.Proofs.Sz
open Go Go.Am Go.SP
theorem isBools_self (l : List Bool) : IsBools (.rows 1 l.length (boolF l)) l := ⟨rfl, rfl, λ _ _ => rfl⟩
theorem isInts0_self (l : List Int) : IsInts0 (.rows 1 l.length (intF l)) l := ⟨rfl, rfl, λ _ _ => rfl⟩
theorem isMap_self (l : List (Bs × Bs)) : IsMap (.rows 2 l.length (rowF l)) l := ⟨rfl, rfl, λ _ _ => rfl⟩
theorem isEdit_self (l : List (Bs × Bool × Bs)) : IsEdit (.rows 3 l.length (chgF l)) l := ⟨rfl, rfl, λ _ _ => rfl⟩
theorem isRow8_self (l : Bs) : IsRow8 (.rows 1 l.length (byteF (bs l))) l := ⟨rfl, rfl, λ _ _ => rfl⟩
theorem sameE_eq (a b : Ev) : sameE a b = (((a.ck == b.ck && a.client == b.client && a.seq == b.seq && a.cbranch == b.cbranch && (List.range 32).all λ i => a.old i == b.old i) && (List.range 32).all λ i => a.new i == b.new i) && ((a.data == b.data && (a.kind == b.kind && a.node == b.node && a.to == b.to && a.n == b.n && a.branch == b.branch && (a.author == b.author && a.note == b.note))) && ((a.keep == b.keep) && ((a.conf == b.conf) && ((a.map == b.map) && (a.edit == b.edit)))))) := by
 simp only [sameE, idEq, Bool.and_assoc]
theorem XSame : EntOk Tryz.prog 31 (.lend TSameEv) := by
 refine ⟨Am.enters_of Tryz.func31 (by kernel_rfl) (by kernel_rfl), λ args R h => ?_⟩
 unfold TSameEv at h
 split at h
 ·rename_i x y
  obtain ⟨a, b, ⟨hx, hy⟩, h⟩ := h
  refine Spec.args (args' := [a.av, b.av]) ⟨hx, hy, trivial⟩ ?_
  refine mkSo (vSame a b R) (tb (ac XEqBytes (ac XEqBool (ac XEqInt (ac XSameMap (ac XSameEdit az)))))) Tryz.func31 (by kernel_rfl) ?_
  simp only [true_and, and_true, and_self, implies_true, forall_const, gEq_true, gEq_false, nonneg_iff, natle_iff, decide_eq_true_eq, decide_eq_false_iff_not, Int.toNat_natCast, cond_bt, cond_bf, Bool.cond_true, Bool.cond_false, Bool.not_true, Bool.not_false, reduceCtorEq, false_implies, implies_true, Bool.true_eq_false, Bool.false_eq_true, Bool.not_eq_true', Bool.not_eq_false', bs_size, bs_data, bs_toList, bs_extract, bs_append, bs_mk, byteF, Bool.true_and, Bool.and_true, Bool.false_and, true_implies]
  have hs := sameE_eq a b
  refine ⟨λ q1 => ⟨a.data, b.data, ⟨isRow8_self _, isRow8_self _⟩, λ q2 => ⟨a.keep, b.keep, ⟨isBools_self _, isBools_self _⟩, λ q3 => ⟨a.conf, b.conf, ⟨isInts0_self _, isInts0_self _⟩, λ q4 => ⟨a.map, b.map, ⟨isMap_self _, isMap_self _⟩, λ q5 => ⟨a.edit, b.edit, ⟨isEdit_self _, isEdit_self _⟩, ?_⟩, λ q5 => ?_⟩, λ q4 => ?_⟩, λ q3 => ?_⟩, λ q2 => ?_⟩, λ q1 => ?_⟩
  ·rw [q1, q2, q3, q4, q5] at hs
   rw [hs] at h
   exact h
  ·rw [q1, q2, q3, q4, q5] at hs
   rw [hs] at h
   exact h
  ·rw [q1, q2, q3, q4] at hs
   rw [hs] at h
   exact h
  ·rw [q1, q2, q3] at hs
   rw [hs] at h
   exact h
  ·rw [q1, q2] at hs
   rw [hs] at h
   exact h
  ·rw [q1] at hs
   rw [hs] at h
   exact h
 ·exact h.elim
theorem XSpoken : EntOk Tryz.prog 48 (.lend TSpoken) := by
 refine ⟨Am.enters_of Tryz.func48 (by kernel_rfl) (by kernel_rfl), λ args R h => ?_⟩
 unfold TSpoken at h
 split at h
 ·rename_i x
  obtain ⟨e, ⟨hx, h1, h2⟩, h⟩ := h
  have hk : e.kind = 1 ∨ e.kind = 2 ∨ e.kind = 3 ∨ e.kind = 4 ∨ e.kind = 5 ∨ e.kind = 6 ∨ e.kind = 7 ∨ e.kind = 8 ∨ e.kind = 9 ∨ e.kind = 10 ∨ e.kind = 11 ∨ e.kind = 12 ∨ e.kind = 13 ∨ e.kind = 14 ∨ e.kind = 15 := by omega
  have hx' : ∀ k, e.kind = k -> leA (idN 0) x (.agg (cellsK k e)) := λ k hk => by rw [<- hk]; exact hx
  rcases hk with hk | hk | hk | hk | hk | hk | hk | hk | hk | hk | hk | hk | hk | hk | hk
  ·refine Spec.args (args' := [.agg (cellsK 1 e)]) ⟨hx' _ hk, trivial⟩ (Spec.weak (Z := Unit) (X := λ _ => (spokenE e).av) (HH := λ _ => []) (mkSo (vSpoken1 e (spokenE e) R) (tb (ac XFieldsL (ac XStamped az))) Tryz.func48 (by kernel_rfl) ?_))
   simp only [true_and, and_true, and_self, implies_true, forall_const, gEq_true, gEq_false, nonneg_iff, natle_iff, decide_eq_true_eq, decide_eq_false_iff_not, Int.toNat_natCast, cond_bt, cond_bf, Bool.cond_true, Bool.cond_false, Bool.not_true, Bool.not_false, reduceCtorEq, false_implies, implies_true, Bool.true_eq_false, Bool.false_eq_true, Bool.not_eq_true', Bool.not_eq_false', w01, w12]
   (repeat' first | apply And.intro | apply Exists.intro ()) <;> first | exact h | omega | (simp [spokenE, Ev.setF, fieldsV, kNN, kN, kNT, k1, stampedK, hk, ev0, z0, bs_nil]; done)
  ·refine Spec.args (args' := [.agg (cellsK 2 e)]) ⟨hx' _ hk, trivial⟩ (Spec.weak (Z := Unit) (X := λ _ => (spokenE e).av) (HH := λ _ => []) (mkSo (vSpoken2 e (spokenE e) R) (tb (ac XFieldsL (ac XStamped az))) Tryz.func48 (by kernel_rfl) ?_))
   simp only [true_and, and_true, and_self, implies_true, forall_const, gEq_true, gEq_false, nonneg_iff, natle_iff, decide_eq_true_eq, decide_eq_false_iff_not, Int.toNat_natCast, cond_bt, cond_bf, Bool.cond_true, Bool.cond_false, Bool.not_true, Bool.not_false, reduceCtorEq, false_implies, implies_true, Bool.true_eq_false, Bool.false_eq_true, Bool.not_eq_true', Bool.not_eq_false', w01, w12]
   (repeat' first | apply And.intro | apply Exists.intro ()) <;> first | exact h | omega | (simp [spokenE, Ev.setF, fieldsV, kNN, kN, kNT, k1, stampedK, hk, ev0, z0, bs_nil]; done)
  ·refine Spec.args (args' := [.agg (cellsK 3 e)]) ⟨hx' _ hk, trivial⟩ (Spec.weak (Z := Unit) (X := λ _ => (spokenE e).av) (HH := λ _ => []) (mkSo (vSpoken3 e (spokenE e) R) (tb (ac XFieldsL (ac XStamped az))) Tryz.func48 (by kernel_rfl) ?_))
   simp only [true_and, and_true, and_self, implies_true, forall_const, gEq_true, gEq_false, nonneg_iff, natle_iff, decide_eq_true_eq, decide_eq_false_iff_not, Int.toNat_natCast, cond_bt, cond_bf, Bool.cond_true, Bool.cond_false, Bool.not_true, Bool.not_false, reduceCtorEq, false_implies, implies_true, Bool.true_eq_false, Bool.false_eq_true, Bool.not_eq_true', Bool.not_eq_false', w01, w12]
   (repeat' first | apply And.intro | apply Exists.intro ()) <;> first | exact h | omega | (simp [spokenE, Ev.setF, fieldsV, kNN, kN, kNT, k1, stampedK, hk, ev0, z0, bs_nil]; done)
  ·refine Spec.args (args' := [.agg (cellsK 4 e)]) ⟨hx' _ hk, trivial⟩ (Spec.weak (Z := Unit) (X := λ _ => (spokenE e).av) (HH := λ _ => []) (mkSo (vSpoken4 e (spokenE e) R) (tb (ac XFieldsL (ac XStamped az))) Tryz.func48 (by kernel_rfl) ?_))
   simp only [true_and, and_true, and_self, implies_true, forall_const, gEq_true, gEq_false, nonneg_iff, natle_iff, decide_eq_true_eq, decide_eq_false_iff_not, Int.toNat_natCast, cond_bt, cond_bf, Bool.cond_true, Bool.cond_false, Bool.not_true, Bool.not_false, reduceCtorEq, false_implies, implies_true, Bool.true_eq_false, Bool.false_eq_true, Bool.not_eq_true', Bool.not_eq_false', w01, w12]
   (repeat' first | apply And.intro | apply Exists.intro ()) <;> first | exact h | omega | (simp [spokenE, Ev.setF, fieldsV, kNN, kN, kNT, k1, stampedK, hk, ev0, z0, bs_nil]; done)
  ·refine Spec.args (args' := [.agg (cellsK 5 e)]) ⟨hx' _ hk, trivial⟩ (Spec.weak (Z := Unit) (X := λ _ => (spokenE e).av) (HH := λ _ => []) (mkSo (vSpoken5 e (spokenE e) R) (tb (ac XFieldsL (ac XStamped az))) Tryz.func48 (by kernel_rfl) ?_))
   simp only [true_and, and_true, and_self, implies_true, forall_const, gEq_true, gEq_false, nonneg_iff, natle_iff, decide_eq_true_eq, decide_eq_false_iff_not, Int.toNat_natCast, cond_bt, cond_bf, Bool.cond_true, Bool.cond_false, Bool.not_true, Bool.not_false, reduceCtorEq, false_implies, implies_true, Bool.true_eq_false, Bool.false_eq_true, Bool.not_eq_true', Bool.not_eq_false', w01, w12]
   (repeat' first | apply And.intro | apply Exists.intro ()) <;> first | exact h | omega | (simp [spokenE, Ev.setF, fieldsV, kNN, kN, kNT, k1, stampedK, hk, ev0, z0, bs_nil]; done)
  ·refine Spec.args (args' := [.agg (cellsK 6 e)]) ⟨hx' _ hk, trivial⟩ (Spec.weak (Z := Unit) (X := λ _ => (spokenE e).av) (HH := λ _ => []) (mkSo (vSpoken6 e (spokenE e) R) (tb (ac XFieldsL (ac XStamped az))) Tryz.func48 (by kernel_rfl) ?_))
   simp only [true_and, and_true, and_self, implies_true, forall_const, gEq_true, gEq_false, nonneg_iff, natle_iff, decide_eq_true_eq, decide_eq_false_iff_not, Int.toNat_natCast, cond_bt, cond_bf, Bool.cond_true, Bool.cond_false, Bool.not_true, Bool.not_false, reduceCtorEq, false_implies, implies_true, Bool.true_eq_false, Bool.false_eq_true, Bool.not_eq_true', Bool.not_eq_false', w01, w12]
   (repeat' first | apply And.intro | apply Exists.intro ()) <;> first | exact h | omega | (simp [spokenE, Ev.setF, fieldsV, kNN, kN, kNT, k1, stampedK, hk, ev0, z0, bs_nil]; done)
  ·refine Spec.args (args' := [.agg (cellsK 7 e)]) ⟨hx' _ hk, trivial⟩ (Spec.weak (Z := Unit) (X := λ _ => (spokenE e).av) (HH := λ _ => []) (mkSo (vSpoken7 e (spokenE e) R) (tb (ac XFieldsL (ac XStamped az))) Tryz.func48 (by kernel_rfl) ?_))
   simp only [true_and, and_true, and_self, implies_true, forall_const, gEq_true, gEq_false, nonneg_iff, natle_iff, decide_eq_true_eq, decide_eq_false_iff_not, Int.toNat_natCast, cond_bt, cond_bf, Bool.cond_true, Bool.cond_false, Bool.not_true, Bool.not_false, reduceCtorEq, false_implies, implies_true, Bool.true_eq_false, Bool.false_eq_true, Bool.not_eq_true', Bool.not_eq_false', w01, w12]
   (repeat' first | apply And.intro | apply Exists.intro ()) <;> first | exact h | omega | (simp [spokenE, Ev.setF, fieldsV, kNN, kN, kNT, k1, stampedK, hk, ev0, z0, bs_nil]; done)
  ·refine Spec.args (args' := [.agg (cellsK 8 e)]) ⟨hx' _ hk, trivial⟩ (Spec.weak (Z := Unit) (X := λ _ => (spokenE e).av) (HH := λ _ => []) (mkSo (vSpoken8 e (spokenE e) R) (tb (ac XFieldsL (ac XStamped az))) Tryz.func48 (by kernel_rfl) ?_))
   simp only [true_and, and_true, and_self, implies_true, forall_const, gEq_true, gEq_false, nonneg_iff, natle_iff, decide_eq_true_eq, decide_eq_false_iff_not, Int.toNat_natCast, cond_bt, cond_bf, Bool.cond_true, Bool.cond_false, Bool.not_true, Bool.not_false, reduceCtorEq, false_implies, implies_true, Bool.true_eq_false, Bool.false_eq_true, Bool.not_eq_true', Bool.not_eq_false', w01, w12]
   (repeat' first | apply And.intro | apply Exists.intro ()) <;> first | exact h | omega | (simp [spokenE, Ev.setF, fieldsV, kNN, kN, kNT, k1, stampedK, hk, ev0, z0, bs_nil]; done)
  ·refine Spec.args (args' := [.agg (cellsK 9 e)]) ⟨hx' _ hk, trivial⟩ (Spec.weak (Z := Unit) (X := λ _ => (spokenE e).av) (HH := λ _ => []) (mkSo (vSpoken9 e (spokenE e) R) (tb (ac XFieldsL (ac XStamped az))) Tryz.func48 (by kernel_rfl) ?_))
   simp only [true_and, and_true, and_self, implies_true, forall_const, gEq_true, gEq_false, nonneg_iff, natle_iff, decide_eq_true_eq, decide_eq_false_iff_not, Int.toNat_natCast, cond_bt, cond_bf, Bool.cond_true, Bool.cond_false, Bool.not_true, Bool.not_false, reduceCtorEq, false_implies, implies_true, Bool.true_eq_false, Bool.false_eq_true, Bool.not_eq_true', Bool.not_eq_false', w01, w12]
   (repeat' first | apply And.intro | apply Exists.intro ()) <;> first | exact h | omega | (simp [spokenE, Ev.setF, fieldsV, kNN, kN, kNT, k1, stampedK, hk, ev0, z0, bs_nil]; done)
  ·refine Spec.args (args' := [.agg (cellsK 10 e)]) ⟨hx' _ hk, trivial⟩ (Spec.weak (Z := Unit) (X := λ _ => (spokenE e).av) (HH := λ _ => []) (mkSo (vSpoken10 e (spokenE e) R) (tb (ac XFieldsL (ac XStamped az))) Tryz.func48 (by kernel_rfl) ?_))
   simp only [true_and, and_true, and_self, implies_true, forall_const, gEq_true, gEq_false, nonneg_iff, natle_iff, decide_eq_true_eq, decide_eq_false_iff_not, Int.toNat_natCast, cond_bt, cond_bf, Bool.cond_true, Bool.cond_false, Bool.not_true, Bool.not_false, reduceCtorEq, false_implies, implies_true, Bool.true_eq_false, Bool.false_eq_true, Bool.not_eq_true', Bool.not_eq_false', w01, w12]
   (repeat' first | apply And.intro | apply Exists.intro ()) <;> first | exact h | omega | (simp [spokenE, Ev.setF, fieldsV, kNN, kN, kNT, k1, stampedK, hk, ev0, z0, bs_nil]; done)
  ·refine Spec.args (args' := [.agg (cellsK 11 e)]) ⟨hx' _ hk, trivial⟩ (Spec.weak (Z := Unit) (X := λ _ => (spokenE e).av) (HH := λ _ => []) (mkSo (vSpoken11 e (spokenE e) R) (tb (ac XFieldsL (ac XStamped az))) Tryz.func48 (by kernel_rfl) ?_))
   simp only [true_and, and_true, and_self, implies_true, forall_const, gEq_true, gEq_false, nonneg_iff, natle_iff, decide_eq_true_eq, decide_eq_false_iff_not, Int.toNat_natCast, cond_bt, cond_bf, Bool.cond_true, Bool.cond_false, Bool.not_true, Bool.not_false, reduceCtorEq, false_implies, implies_true, Bool.true_eq_false, Bool.false_eq_true, Bool.not_eq_true', Bool.not_eq_false', w01, w12]
   (repeat' first | apply And.intro | apply Exists.intro ()) <;> first | exact h | omega | (simp [spokenE, Ev.setF, fieldsV, kNN, kN, kNT, k1, stampedK, hk, ev0, z0, bs_nil]; done)
  ·refine Spec.args (args' := [.agg (cellsK 12 e)]) ⟨hx' _ hk, trivial⟩ (Spec.weak (Z := Unit) (X := λ _ => (spokenE e).av) (HH := λ _ => []) (mkSo (vSpoken12 e (spokenE e) R) (tb (ac XFieldsL (ac XStamped az))) Tryz.func48 (by kernel_rfl) ?_))
   simp only [true_and, and_true, and_self, implies_true, forall_const, gEq_true, gEq_false, nonneg_iff, natle_iff, decide_eq_true_eq, decide_eq_false_iff_not, Int.toNat_natCast, cond_bt, cond_bf, Bool.cond_true, Bool.cond_false, Bool.not_true, Bool.not_false, reduceCtorEq, false_implies, implies_true, Bool.true_eq_false, Bool.false_eq_true, Bool.not_eq_true', Bool.not_eq_false', w01, w12]
   (repeat' first | apply And.intro | apply Exists.intro ()) <;> first | exact h | omega | (simp [spokenE, Ev.setF, fieldsV, kNN, kN, kNT, k1, stampedK, hk, ev0, z0, bs_nil]; done)
  ·refine Spec.args (args' := [.agg (cellsK 13 e)]) ⟨hx' _ hk, trivial⟩ (Spec.weak (Z := Unit) (X := λ _ => (spokenE e).av) (HH := λ _ => []) (mkSo (vSpoken13 e (spokenE e) R) (tb (ac XFieldsL (ac XStamped az))) Tryz.func48 (by kernel_rfl) ?_))
   simp only [true_and, and_true, and_self, implies_true, forall_const, gEq_true, gEq_false, nonneg_iff, natle_iff, decide_eq_true_eq, decide_eq_false_iff_not, Int.toNat_natCast, cond_bt, cond_bf, Bool.cond_true, Bool.cond_false, Bool.not_true, Bool.not_false, reduceCtorEq, false_implies, implies_true, Bool.true_eq_false, Bool.false_eq_true, Bool.not_eq_true', Bool.not_eq_false', w01, w12]
   (repeat' first | apply And.intro | apply Exists.intro ()) <;> first | exact h | omega | (simp [spokenE, Ev.setF, fieldsV, kNN, kN, kNT, k1, stampedK, hk, ev0, z0, bs_nil]; done)
  ·refine Spec.args (args' := [.agg (cellsK 14 e)]) ⟨hx' _ hk, trivial⟩ (Spec.weak (Z := Unit) (X := λ _ => (spokenE e).av) (HH := λ _ => []) (mkSo (vSpoken14 e (spokenE e) R) (tb (ac XFieldsL (ac XStamped az))) Tryz.func48 (by kernel_rfl) ?_))
   simp only [true_and, and_true, and_self, implies_true, forall_const, gEq_true, gEq_false, nonneg_iff, natle_iff, decide_eq_true_eq, decide_eq_false_iff_not, Int.toNat_natCast, cond_bt, cond_bf, Bool.cond_true, Bool.cond_false, Bool.not_true, Bool.not_false, reduceCtorEq, false_implies, implies_true, Bool.true_eq_false, Bool.false_eq_true, Bool.not_eq_true', Bool.not_eq_false', w01, w12]
   (repeat' first | apply And.intro | apply Exists.intro ()) <;> first | exact h | omega | (simp [spokenE, Ev.setF, fieldsV, kNN, kN, kNT, k1, stampedK, hk, ev0, z0, bs_nil]; done)
  ·refine Spec.args (args' := [.agg (cellsK 15 e)]) ⟨hx' _ hk, trivial⟩ (Spec.weak (Z := Unit) (X := λ _ => (spokenE e).av) (HH := λ _ => []) (mkSo (vSpoken15 e (spokenE e) R) (tb (ac XFieldsL (ac XStamped az))) Tryz.func48 (by kernel_rfl) ?_))
   simp only [true_and, and_true, and_self, implies_true, forall_const, gEq_true, gEq_false, nonneg_iff, natle_iff, decide_eq_true_eq, decide_eq_false_iff_not, Int.toNat_natCast, cond_bt, cond_bf, Bool.cond_true, Bool.cond_false, Bool.not_true, Bool.not_false, reduceCtorEq, false_implies, implies_true, Bool.true_eq_false, Bool.false_eq_true, Bool.not_eq_true', Bool.not_eq_false', w01, w12]
   (repeat' first | apply And.intro | apply Exists.intro ()) <;> first | exact h | omega | (simp [spokenE, Ev.setF, fieldsV, kNN, kN, kNT, k1, stampedK, hk, ev0, z0, bs_nil]; done)
 ·exact h.elim
theorem max3 (a b c : Nat) : decide ((if (c : Int) > (if (b : Int) > (a : Int) then (b : Int) else (a : Int)) then (c : Int) else if (b : Int) > (a : Int) then (b : Int) else (a : Int)) > 40) = (decide (40 < a) || decide (40 < b) || decide (40 < c)) := by
 rw [Bool.eq_iff_iff]
 simp only [Bool.or_eq_true, decide_eq_true_eq]
 split <;> split at * <;> omega
theorem gt2048 (a : Nat) : decide ((a : Int) > 2048) = decide (2048 < a) := by
 rw [decide_eq_decide]; omega
theorem any_take {α : Type} (l : List α) (d : α) (p : α -> Bool) (i : Nat) (h : i < l.length) : (l.take (i + 1)).any p = ((l.take i).any p || p (l.getD i d)) := by
 rw [List.take_succ_eq_append_getElem h, List.any_append, List.getD_eq_getElem?_getD, List.getElem?_eq_getElem h]
 simp
theorem any_at {α : Type} (l : List α) (d : α) (p : α -> Bool) (i : Nat) (h : i < l.length) (hp : p (l.getD i d) = true) : l.any p = true := by
 rw [List.any_eq_true]
 rw [List.getD_eq_getElem?_getD, List.getElem?_eq_getElem h] at hp
 exact ⟨_, List.getElem_mem h, hp⟩
theorem kind_ok {k : Int} (h : (decide (k < 1) || decide (k > 15)) = false) : 1 <= k /\ k <= 15 := by
 simp at h
 omega
def mapLong (r : Bs × Bs) : Bool := longB r.1 || longB r.2
def editLong (r : Bs × Bool × Bs) : Bool := longB r.1 || longB r.2.2 || (!r.2.1 && !(r.2.2 == []))
theorem wrongE_eq (x : Ev) : wrongE x = ((decide (x.kind < 1) || decide (x.kind > 15)) || (!sameE x (spokenE x) || ((decide (2048 < x.keep.length) || (decide (40 < x.conf.length) || decide (40 < x.map.length) || decide (40 < x.edit.length))) || (longB x.branch || (longB x.note || longB x.cbranch) || (x.map.any mapLong || x.edit.any editLong))))) := by
 unfold wrongE
 rw [show (λ r : Bs × Bool × Bs => longB r.1 || longB r.2.2 || (!r.2.1 && !(r.2.2 == []))) = editLong from rfl, show (λ r : Bs × Bs => longB r.1 || longB r.2) = mapLong from rfl]
 simp only [Bool.or_assoc, gt_iff_lt]
set_option maxHeartbeats 1000000 in
theorem XWrong : EntOk Tryz.prog 25 (.lend TWrong) := by
 refine ⟨Am.enters_of Tryz.func25 (by kernel_rfl) (by kernel_rfl), λ args R h => ?_⟩
 unfold TWrong at h
 split at h
 ·rename_i x
  obtain ⟨e, hx, h⟩ := h
  refine Spec.args (args' := [e.av]) ⟨hx, trivial⟩ (Spec.givenD λ hg => ?_)
  obtain ⟨⟨_, _, hgm, hge, _⟩, _⟩ := hg
  refine mkSo (vWrong e (λ i => i <= e.map.length /\ (e.map.take i).any mapLong = false) (λ i => i <= e.edit.length /\ (e.edit.take i).any editLong = false) R) (tb (ac XSpoken (ac XSame (ac XLong az)))) Tryz.func25 (by kernel_rfl) ?_
  have hmx := maxLen_eq
  have hw : ∀ b, wrongE e = b -> R (bl b) [] := λ b hb => hb ▸ h
  simp only [true_and, and_true, and_self, implies_true, forall_const, gEq_true, gEq_false, nonneg_iff, natle_iff, decide_eq_true_eq, decide_eq_false_iff_not, Int.toNat_natCast, cond_bt, cond_bf, Bool.cond_true, Bool.cond_false, Bool.not_true, Bool.not_false, reduceCtorEq, false_implies, implies_true, Bool.true_eq_false, Bool.false_eq_true, Bool.not_eq_true', Bool.not_eq_false', bs_size, bs_data, bs_toList, bs_extract, bs_append, bs_mk, byteF, Bool.true_and, Bool.and_true, Bool.false_and, true_implies, max3, gt2048]
  rw [wrongE_eq] at hw
  refine ⟨λ q1 => ⟨e, ⟨isEv_self e, kind_ok q1⟩, e, spokenE e, ⟨isEv_self e, isEv_self _⟩, λ q2 => hw _ (by rw [q1, q2]; rfl), λ q2 => ⟨λ q3 => ⟨by omega, [e.branch, e.note, e.cbranch], ⟨⟨rfl, rfl, λ i hi => ?_⟩, by simp⟩, λ q4 => hw _ ?_, λ q4 => ⟨⟨0, rfl, Nat.zero_le _, rfl⟩, λ i hi => ⟨λ hlt => ⟨⟨by omega, by omega⟩, by omega, [(e.map.getD i ([], [])).1, (e.map.getD i ([], [])).2], ⟨⟨rfl, rfl, λ j hj => ?_⟩, by simp⟩, λ q5 => hw _ ?_, λ q5 => ⟨i + 1, by rw [wrap64] <;> omega, ⟨by omega, ?_⟩, by omega⟩⟩, λ hge => ⟨⟨0, rfl, Nat.zero_le _, rfl⟩, λ j hj => ⟨λ hlt => ⟨⟨by omega, by omega⟩, by omega, [(e.edit.getD j ([], false, [])).1, (e.edit.getD j ([], false, [])).2.2], ⟨⟨rfl, rfl, λ k hk => ?_⟩, by simp⟩, λ q6 => hw _ ?_, λ q6 => ⟨j + 1, by rw [wrap64] <;> omega, ⟨by omega, ?_⟩, by omega⟩⟩, λ hge2 => hw _ ?_⟩⟩⟩⟩⟩, λ q3 => hw _ (by rw [q1, q2, q3]; rfl)⟩⟩, λ q1 => hw _ (by rw [q1]; rfl)⟩
  ·have : i = 0 ∨ i = 1 ∨ i = 2 := by simp at hi; omega
   rcases this with rfl | rfl | rfl <;> rfl
  ·simp only [List.any_cons, List.any_nil, Bool.or_false] at q4
   rw [q1, q2, q3, q4]
   rfl
  ·have : j = 0 ∨ j = 1 := by simp at hj; omega
   rcases this with rfl | rfl <;> rfl
  ·have hm : e.map.any mapLong = true := any_at e.map ([], []) mapLong i (by omega) (by simpa [mapLong] using q5)
   rw [hm, Bool.true_or]
   simp
  ·rw [any_take e.map ([], []) mapLong i (by omega), hi.2]
   simpa [mapLong] using q5
  ·have : k = 0 ∨ k = 1 := by simp at hk; omega
   rcases this with rfl | rfl <;> rfl
  ·have hm : e.edit.any editLong = true := any_at e.edit ([], false, []) editLong j (by omega) (by simpa [editLong] using q6)
   rw [hm, Bool.or_true]
   simp
  ·rw [any_take e.edit ([], false, []) editLong j (by omega), hj.2]
   simpa [editLong] using q6
  ·obtain ⟨hj1, hj2⟩ := hj
   have hjl : j = e.edit.length := by omega
   have hil : i = e.map.length := by omega
   obtain ⟨_, hi2⟩ := hi
   rw [hjl, List.take_length] at hj2
   rw [hil, List.take_length] at hi2
   simp only [List.any_cons, List.any_nil, Bool.or_false] at q4
   rw [q1, q2, q3, q4, hi2, hj2]
   rfl
 ·exact h.elim
theorem findW_none_take {l : List Ev} (x : Nat) (hx : x < l.length) (h : (l.take x).findIdx? wrongE = none) (hp : wrongE (evAt l x) = false) : (l.take (x + 1)).findIdx? wrongE = none := by
 rw [List.findIdx?_eq_none_iff] at h ⊢
 intro y hy
 rw [List.take_succ_eq_append_getElem hx, List.mem_append, List.mem_singleton] at hy
 rcases hy with hy | rfl
 ·exact h y hy
 ·rw [evAt, List.getD_eq_getElem?_getD, List.getElem?_eq_getElem hx] at hp
  exact hp
theorem findW_some_take {l : List Ev} (x : Nat) (hx : x < l.length) (h : (l.take x).findIdx? wrongE = none) (hp : wrongE (evAt l x) = true) : l.findIdx? wrongE = some x := by
 rw [List.findIdx?_eq_none_iff] at h
 rw [List.findIdx?_eq_some_iff_getElem]
 refine ⟨hx, ?_, λ j hj => ?_⟩
 ·rw [evAt, List.getD_eq_getElem?_getD, List.getElem?_eq_getElem hx] at hp
  exact hp
 ·have := h l[j] (by rw [List.mem_take_iff_getElem]; exact ⟨j, by omega, rfl⟩)
  simp [this]
theorem XIdxW : EntOk Tryz.prog 47 (.lend TIdxW) := by
 refine ⟨Am.enters_of Tryz.func47 (by kernel_rfl) (by kernel_rfl), λ args R h => ?_⟩
 unfold TIdxW at h
 split at h
 ·rename_i x
  obtain ⟨l, hx, h⟩ := h
  refine Spec.argsR (args' := [evsAV l, fnWrong]) ⟨hx, rfl, trivial⟩ (Spec.given λ hg => ?_)
  obtain ⟨hg, _⟩ := hg
  have hmx := maxLen_eq
  refine mkSo (vIdxW l (λ i => i <= l.length /\ (l.take i).findIdx? wrongE = none) R) (tb (ac XWrong az)) Tryz.func47 (by kernel_rfl) ?_
  simp only [true_and, and_true, and_self, implies_true, forall_const, gEq_true, gEq_false, nonneg_iff, natle_iff, decide_eq_true_eq, decide_eq_false_iff_not, Int.toNat_natCast, cond_bt, cond_bf, Bool.cond_true, Bool.cond_false, Bool.not_true, Bool.not_false, reduceCtorEq, false_implies, implies_true, Bool.true_eq_false, Bool.false_eq_true, Bool.not_eq_true', Bool.not_eq_false', bs_size, bs_data, bs_toList, bs_extract, bs_append, bs_mk, byteF] at h ⊢
  refine ⟨⟨0, rfl, Nat.zero_le _, by simp⟩, λ i hi => ⟨λ hlt => ⟨⟨by omega, by omega⟩, evAt l i, isEv_self _, λ hb => ?_, λ hb => ?_⟩, λ hge => ?_⟩⟩
  ·have e : l.findIdx? wrongE = some i := findW_some_take i (by omega) hi.2 hb
   rw [idxW, e] at h
   exact h
  ·exact ⟨i + 1, by rw [wrap64] <;> omega, ⟨by omega, findW_none_take i (by omega) hi.2 hb⟩, by omega⟩
  ·have : i = l.length := by omega
   subst this
   rw [List.take_length] at hi
   rw [idxW, hi.2] at h
   exact h
 ·exact h.elim
theorem idxW_any (l : List Ev) : decide (idxW l ≥ 0) = l.any wrongE := by
 unfold idxW
 cases h : l.findIdx? wrongE with
 | none =>
  rw [List.findIdx?_eq_none_iff] at h
  rw [Bool.eq_iff_iff]
  simp
  exact h
 | some i =>
  obtain ⟨hi, h1, _⟩ := List.findIdx?_eq_some_iff_getElem.1 h
  rw [Bool.eq_iff_iff]
  simp only [ge_iff_le, decide_eq_true_eq, List.any_eq_true]
  exact ⟨λ _ => ⟨_, List.getElem_mem hi, h1⟩, λ _ => by omega⟩
theorem XContW : EntOk Tryz.prog 24 (.lend TContW) := by
 refine ⟨Am.enters_of Tryz.func24 (by kernel_rfl) (by kernel_rfl), λ args R h => ?_⟩
 unfold TContW at h
 split at h
 ·rename_i x
  obtain ⟨l, hx, h⟩ := h
  refine Spec.argsR (args' := [evsAV l, fnWrong]) ⟨hx, rfl, trivial⟩ ?_
  refine mkSo (vContW l R) (tb (ac XIdxW az)) Tryz.func24 (by kernel_rfl) ?_
  simp only [true_and, and_true, and_self, implies_true, forall_const, gEq_true, gEq_false, nonneg_iff, natle_iff, decide_eq_true_eq, decide_eq_false_iff_not, Int.toNat_natCast, cond_bt, cond_bf, Bool.cond_true, Bool.cond_false, Bool.not_true, Bool.not_false, reduceCtorEq, false_implies, implies_true, Bool.true_eq_false, Bool.false_eq_true, Bool.not_eq_true', Bool.not_eq_false'] at h ⊢
  exact ⟨l, isEvs_self l, by rw [idxW_any]; exact h⟩
 ·exact h.elim
theorem evs_cw {x : AV} {l : List Ev} (h : IsEvs x l) : cw x = cw (evsAV l) := by
 cases x <;> simp only [IsEvs, leR, evsAV] at h
 rfl
theorem XCheck : EntOk Tryz.prog 9 (.lend TCheck) := by
 refine ⟨Am.enters_of Tryz.func9 (by kernel_rfl) (by kernel_rfl), λ args R h => ?_⟩
 unfold TCheck at h
 split at h
 ·rename_i a b c x
  obtain ⟨l, hx, h⟩ := h
  refine Spec.argsD (args' := [.agg [nm a, nm b, nm c, evsAV l]]) ⟨.cons (.pl _) rfl (.cons (.pl _) rfl (.cons (.pl _) rfl (.cons (.of_leR hx) (evs_cw hx) .nil))), trivial⟩ ?_
  refine mkSo (vCheck a b c l R) (tb (ac XContW az)) Tryz.func9 (by kernel_rfl) ?_
  simp only [true_and, and_true, and_self, implies_true, forall_const, gEq_true, gEq_false, nonneg_iff, natle_iff, decide_eq_true_eq, decide_eq_false_iff_not, Int.toNat_natCast, cond_bt, cond_bf, Bool.cond_true, Bool.cond_false, Bool.not_true, Bool.not_false, reduceCtorEq, false_implies, implies_true, Bool.true_eq_false, Bool.false_eq_true, Bool.not_eq_true', Bool.not_eq_false'] at h ⊢
  refine ⟨λ q1 => ⟨l, isEvs_self l, λ q2 => ?_, λ q2 => ?_⟩, λ q1 => ?_⟩
  ·simpa [checkE, q2] using h
  ·have e : ¬ 300 < l.length := by omega
   simpa [checkE, e, q2] using h
  ·have e : 300 < l.length := by omega
   simpa [checkE, e] using h
 ·exact h.elim
end Go.Proofs.Sz

namespace Go.Proofs.Sz
open Go Go.Am Go.SP
theorem kind_of (w : Bs) : (if 0 > idxT w wordsL then 0 else idxT w wordsL) = kindOf w := by
 unfold idxT kindOf
 cases wordsL.findIdx? (· == w) with
 | none => rfl
 | some i => simp only [Option.getD_some]; rw [if_neg (by omega)]
theorem evR1_0 {w : Bs} {r : Rd} (h : clsK (kindOf w) = 0) : evR1 w r = (({ ev0 with kind := kindOf w } : Ev), r) := by
 obtain ⟨h1, h2, h3, h4, h5⟩ := cls_0 h
 simp only [evR1, fieldsN, Ev.setF, h1, h2, h3, h4, h5, cond_false, numbersR]
theorem numbers_le (n : Nat) (r : Rd) : (numbersR n r).2.rest.length <= r.rest.length := by
 induction n generalizing r with
 | zero => exact Nat.le_refl _
 | succ n ih => exact Nat.le_trans (ih _) (number_le r)
def Zr (e : Ev) : Prop := e.keep = [] /\ e.conf = [] /\ e.map = [] /\ e.edit = [] /\ e.data = []
theorem zr_setF {e : Ev} (h : Zr e) (l : List Int) : Zr (e.setF l) := by
 unfold Ev.setF
 cases kNN e.kind <;> cases kN e.kind <;> cases kNT e.kind <;> cases k1 e.kind <;> cases e.kind == 14 <;> exact h
theorem evR1_zr (w : Bs) (r : Rd) : Zr (evR1 w r).1 := zr_setF ⟨rfl, rfl, rfl, rfl, rfl⟩ _
theorem evR2_zr {e : Ev} (h : Zr e) (r : Rd) : Zr (evR2 e r).1 := by
 unfold evR2
 cases stampedK e.kind <;> exact h
theorem evR2_le (e : Ev) (r : Rd) : (evR2 e r).2.rest.length <= r.rest.length := by
 unfold evR2
 cases stampedK e.kind with
 | false => exact Nat.le_refl _
 | true =>
  have h1 := number_le r
  have h2 := text_le (orBad (numberR r).2 (decide ((numberR r).1 < 0) || decide (4294967295 < (numberR r).1)))
  have h3 := text_le (textR (orBad (numberR r).2 (decide ((numberR r).1 < 0) || decide (4294967295 < (numberR r).1)))).2
  simp only [orBad] at h2 h3 ⊢
  simp only [cond_true]
  omega
theorem orBad2 (r : Rd) (a b : Bool) : (⟨r.rest, r.bad || a || b⟩ : Rd) = orBad r (a || b) := by simp [orBad, Bool.or_assoc]
def iterR {α : Type} (st : Rd -> α × Rd) : Nat -> Rd -> List α × Rd
 | 0, r => ([], r)
 | f + 1, r => bif moreR r then ((st r).1 :: (iterR st f (st r).2).1, (iterR st f (st r).2).2) else ([], r)
theorem iter_fuel {α : Type} (st : Rd -> α × Rd) (hlt : ∀ r, moreR r = true -> (st r).2.rest.length < r.rest.length) : ∀ (f g : Nat) (r : Rd), r.rest.length < f -> r.rest.length < g -> iterR st f r = iterR st g r := by
 intro f
 induction f with
 | zero => intro g r h; omega
 | succ f ih =>
  intro g r hf hg
  cases g with
  | zero => omega
  | succ g =>
   simp only [iterR]
   cases hm : moreR r with
   | false => rfl
   | true =>
    have := hlt r hm
    rw [ih g _ (by omega) (by omega)]
theorem iter_step {α : Type} (st : Rd -> α × Rd) (hlt : ∀ r, moreR r = true -> (st r).2.rest.length < r.rest.length) (r : Rd) (hm : moreR r = true) :
  iterR st (r.rest.length + 1) r = ((st r).1 :: (iterR st ((st r).2.rest.length + 1) (st r).2).1, (iterR st ((st r).2.rest.length + 1) (st r).2).2) := by
 have := hlt r hm
 rw [iterR, hm, cond_true, iter_fuel st hlt r.rest.length ((st r).2.rest.length + 1) _ (by omega) (by omega)]
theorem iter_end {α : Type} (st : Rd -> α × Rd) (n : Nat) (r : Rd) (hm : moreR r = false) : iterR st (n + 1) r = ([], r) := by
 rw [iterR, hm, cond_false]
theorem conf_iter (n : Nat) (r : Rd) : confR n r = iterR numberR n r := by
 induction n generalizing r with
 | zero => rfl
 | succ n ih => rw [confR, iterR, ih]
def rowR (r : Rd) : (Bs × Bs) × Rd := (((textR r).1, (textR (textR r).2).1), (textR (textR r).2).2)
theorem map_iter (n : Nat) (r : Rd) : mapR n r = iterR rowR n r := by
 induction n generalizing r with
 | zero => rfl
 | succ n ih => rw [mapR, iterR, ih]; rfl
theorem edit_iter (n : Nat) (r : Rd) : editR n r = iterR changeR n r := by
 induction n generalizing r with
 | zero => rfl
 | succ n ih => rw [editR, iterR, ih]
theorem more_ne {r : Rd} (h : moreR r = true) : 0 < r.rest.length := by
 rw [moreR, Bool.and_eq_true] at h
 exact List.length_pos_iff.2 (by simpa using h.2)
theorem blank_lt (r : Rd) (h : 0 < r.rest.length) : (blankR r).2.rest.length < r.rest.length := by
 have h1 := cutL_le 32 r.rest
 have : (blankR r).2.rest = (cutL 32 r.rest).2.1 := rfl
 rw [this]
 cases hf : (cutL 32 r.rest).2.2 with
 | true => have := cutL_le2 32 r.rest hf; omega
 | false => rw [(cutL_none hf).2.1]; exact h
theorem number_lt (r : Rd) (h : moreR r = true) : (numberR r).2.rest.length < r.rest.length := blank_lt r (more_ne h)
theorem text_lt (r : Rd) (h : 0 < r.rest.length) : (textR r).2.rest.length < r.rest.length := by
 unfold textR
 split
 ·have h1 := cutPre_le [34] r.rest
  rename_i b e hb
  have h2 := cutPre_le [32] ((cutPre [34] r.rest).drop (e + 1))
  simp only [textEnd]
  simp at h2
  omega
 ·exact h
theorem row_lt (r : Rd) (h : moreR r = true) : (rowR r).2.rest.length < r.rest.length :=
 Nat.lt_of_le_of_lt (text_le _) (text_lt r (more_ne h))
theorem change_lt (r : Rd) (h : moreR r = true) : (changeR r).2.rest.length < r.rest.length := by
 have h1 := text_lt r (more_ne h)
 unfold changeR
 cases ([45] : Bs).isPrefixOf (textR r).2.rest && (cutPre [45] (textR r).2.rest == [] || (cutPre [45] (textR r).2.rest).getD 0 0 == 32) with
 | true => have := blank_le (textR r).2; simp only [cond_true]; omega
 | false => have := text_le (textR r).2; simp only [cond_false]; omega
theorem app_at {α : Type} (F : α -> AV) (l : List α) (v d : α) (i : Nat) (hi : i < (l ++ [v]).length) : (if i < l.length then F (l.getD i d) else rowOf [(0, F v)] (0 + (i - l.length))) = F ((l ++ [v]).getD i d) := by
 simp only [List.getD_eq_getElem?_getD, List.getElem?_append]
 split
 ·rfl
 ·have : i - l.length = 0 := by simp at hi; omega
  rw [this]
  rfl
theorem bit_eq (c : UInt8) (k : Nat) (hk : k < 256) : ((((c.toNat : Nat) : Int) == (k : Nat)) : Bool) = (c == UInt8.ofNat k) := by
 rw [Bool.eq_iff_iff, beq_iff_eq, beq_iff_eq]
 constructor
 ·intro e
  have : c.toNat = k := by omega
  rw [<- this]; simp
 ·intro e; rw [e, u8n hk]
theorem all_take (l : Bs) (p : UInt8 -> Bool) (i : Nat) (h : i < l.length) : (l.take (i + 1)).all p = ((l.take i).all p && p (l.getD i 0)) := by
 rw [take_at l i h, List.all_append]
 simp
theorem XREvent : EntOk Tryz.prog 67 (.hand tkR TEvent) := by
 refine ⟨Am.enters_of Tryz.func67 (by kernel_rfl) (by kernel_rfl), λ H0 args R h => ?_⟩
 unfold TEvent at h
 split at h
 ·rename_i t s b w
  obtain ⟨l, rfl⟩ : ∃ l, s = bs l := ⟨_, bs_of s⟩
  obtain ⟨w, rfl⟩ : ∃ l, w = bs l := ⟨_, bs_of w⟩
  obtain ⟨⟨rfl, h1⟩, h⟩ := h
  simp only [bs_size, bs_data] at h1 h
  refine SpecH.weak (Z := Unit) (X := λ _ => (eventR w ⟨l, b⟩).1.av) (HH := λ _ => [rdO (eventR w ⟨l, b⟩).2]) (mkGo (vREvent l w b (λ r => cutPre [61] (blankR r).1)
   (λ x => x = (({ ev0 with kind := kindOf w } : Ev), ⟨l, b⟩))
   (λ x => x = evR1 w ⟨l, b⟩)
   (λ x => x = evR2 (evR1 w ⟨l, b⟩).1 (evR1 w ⟨l, b⟩).2)
   (λ x i => x.1.kind = 8 /\ i.1 <= (cutPre [61] (blankR x.2).1).length /\ i.2 = (([61] : Bs).isPrefixOf (blankR x.2).1 && ((cutPre [61] (blankR x.2).1).take i.1).all isBit))
   (λ x y => x.1.kind = 10 /\ y.2.rest.length <= rlim /\ y.1.length + y.2.rest.length <= rlim /\ confR (x.2.rest.length + 1) x.2 = (y.1 ++ (confR (y.2.rest.length + 1) y.2).1, (confR (y.2.rest.length + 1) y.2).2))
   (λ x y => x.1.kind = 11 /\ y.2.rest.length <= rlim /\ y.1.length + y.2.rest.length <= rlim /\ mapR (x.2.rest.length + 1) x.2 = (y.1 ++ (mapR (y.2.rest.length + 1) y.2).1, (mapR (y.2.rest.length + 1) y.2).2))
   (λ x y => (x.1.kind = 12 ∨ x.1.kind = 13) /\ y.2.rest.length <= rlim /\ y.1.length + y.2.rest.length <= rlim /\ editR (x.2.rest.length + 1) x.2 = (y.1 ++ (editR (y.2.rest.length + 1) y.2).1, (editR (y.2.rest.length + 1) y.2).2))
   (λ x y => y = evR3 x.1 x.2) R)
   (tb (ac XWords (ac XIdxT (ac XFields (ac XNumbers (ac XStamped (ac XNumber (ac XText (ac XBlank (ac XCutPre (ac XMore (ac XChange (ac XIdP (ac XWrong az)))))))))))))) Tryz.func67 (by kernel_rfl) ?_)
  simp only [true_and, and_true, and_self, implies_true, forall_const, gEq_true, gEq_false, nonneg_iff, natle_iff, decide_eq_true_eq, decide_eq_false_iff_not, Int.toNat_natCast, cond_bt, cond_bf, Bool.cond_true, Bool.cond_false, Bool.not_true, Bool.not_false, reduceCtorEq, false_implies, implies_true, Bool.true_eq_false, Bool.false_eq_true, Bool.not_eq_true', Bool.not_eq_false', bs_size, bs_data, bs_toList, bs_extract, bs_append, bs_mk, byteF, w01, w12]
  refine ⟨⟨by omega, wordsL, ⟨⟨rfl, rfl, λ i _ => by dsimp only; rw [Nat.zero_add]⟩, by decide⟩, (({ ev0 with kind := kindOf w } : Ev), ⟨l, b⟩), ⟨⟨rfl, rfl⟩, kind_of w, rfl, rfl, rfl, rfl, rfl, rfl, rfl, rfl, rfl, rfl, λ _ _ => rfl, λ _ _ => rfl⟩, rfl⟩, ?_⟩
  rintro x rfl
  refine ⟨⟨λ hc => ⟨{ ev0 with kind := kindOf w }, ⟨h1, rfl, .inl ⟨hc, rfl, rfl⟩⟩, evR1 w ⟨l, b⟩, ⟨⟨rfl, rfl⟩, rfl, rfl, rfl, rfl, rfl, rfl, rfl, rfl, rfl, rfl, rfl, λ _ _ => rfl, λ _ _ => rfl⟩, rfl⟩, λ hc => ⟨{ ev0 with kind := kindOf w }, ⟨h1, rfl, .inr (.inl ⟨hc, rfl, rfl⟩)⟩, evR1 w ⟨l, b⟩, ⟨⟨rfl, rfl⟩, rfl, rfl, rfl, rfl, rfl, rfl, rfl, rfl, rfl, rfl, rfl, λ _ _ => rfl, λ _ _ => rfl⟩, rfl⟩, λ hc => ⟨{ ev0 with kind := kindOf w }, ⟨h1, rfl, .inr (.inr (.inl ⟨hc, rfl, rfl⟩))⟩, evR1 w ⟨l, b⟩, ⟨⟨rfl, rfl⟩, rfl, rfl, rfl, rfl, rfl, rfl, rfl, rfl, rfl, rfl, rfl, λ _ _ => rfl, λ _ _ => rfl⟩, rfl⟩, λ hc => ⟨{ ev0 with kind := kindOf w }, ⟨h1, rfl, .inr (.inr (.inr (.inl ⟨hc, rfl, rfl⟩)))⟩, evR1 w ⟨l, b⟩, ⟨⟨rfl, rfl⟩, rfl, rfl, rfl, rfl, rfl, rfl, rfl, rfl, rfl, rfl, rfl, λ _ _ => rfl, λ _ _ => rfl⟩, rfl⟩, λ hc => ⟨{ ev0 with kind := kindOf w }, ⟨h1, rfl, .inr (.inr (.inr (.inr ⟨hc, rfl, rfl⟩)))⟩, evR1 w ⟨l, b⟩, ⟨⟨rfl, rfl⟩, rfl, rfl, rfl, rfl, rfl, rfl, rfl, rfl, rfl, rfl, rfl, λ _ _ => rfl, λ _ _ => rfl⟩, rfl⟩, λ hc => ⟨evR1 w ⟨l, b⟩, ?_, rfl⟩⟩, ?_⟩
  ·rw [evR1_0 hc]
   exact ⟨⟨rfl, rfl⟩, rfl, rfl, rfl, rfl, rfl, rfl, rfl, rfl, rfl, rfl, rfl, λ _ _ => rfl, λ _ _ => rfl⟩
  rintro x rfl
  have hz1 := evR1_zr w ⟨l, b⟩
  have hl1 : (evR1 w ⟨l, b⟩).2.rest.length <= rlim := Nat.le_trans (numbers_le _ _) h1
  unfold eventR at h ⊢
  generalize evR1 w ⟨l, b⟩ = y at h hz1 hl1 ⊢
  have hg : ∀ n : Int, decide (n > 4294967295) = decide (4294967295 < n) := λ _ => rfl
  simp only [orBad2, hg]
  have hl2 := number_le y.2
  have hl3 := text_le (orBad (numberR y.2).2 (decide ((numberR y.2).1 < 0) || decide (4294967295 < (numberR y.2).1)))
  have hl4 : (orBad (numberR y.2).2 (decide ((numberR y.2).1 < 0) || decide (4294967295 < (numberR y.2).1))).rest = (numberR y.2).2.rest := rfl
  rw [hl4] at hl3
  refine ⟨⟨λ hs => ⟨hl1, by omega, by omega, evR2 y.1 y.2, ?_, rfl⟩, λ hs => ⟨evR2 y.1 y.2, ?_, rfl⟩⟩, ?_⟩
  ·rw [evR2, hs, cond_true]
   exact ⟨⟨rfl, rfl⟩, rfl, rfl, rfl, rfl, rfl, rfl, rfl, rfl, rfl, rfl, rfl, λ _ _ => rfl, λ _ _ => rfl⟩
  ·rw [evR2, hs, cond_false]
   exact ⟨⟨rfl, rfl⟩, rfl, rfl, rfl, rfl, rfl, rfl, rfl, rfl, rfl, rfl, rfl, λ _ _ => rfl, λ _ _ => rfl⟩
  rintro x rfl
  have hz2 := evR2_zr hz1 y.2
  have hl5 : (evR2 y.1 y.2).2.rest.length <= rlim := Nat.le_trans (evR2_le _ _) hl1
  generalize evR2 y.1 y.2 = z at h hz2 hl5 ⊢
  have hmx := maxLen_eq
  have hrl : rlim = 1000000 := rfl
  have hsl : (cutPre [61] (blankR z.2).1).length <= z.2.rest.length := Nat.le_trans (cutPre_le _ _) (Nat.le_trans (Nat.le_add_right _ _) (blank_le z.2))
  obtain ⟨z1, z2, z3, z4, z5⟩ := hz2
  have nk := congrArg List.length z1
  have nc := congrArg List.length z2
  have nm' := congrArg List.length z3
  have ne := congrArg List.length z4
  have b48 : ∀ c : UInt8, (((c.toNat : Nat) : Int) == 48) = (c == 48) := λ c => bit_eq c 48 (by omega)
  have b49 : ∀ c : UInt8, (((c.toNat : Nat) : Int) == 49) = (c == 49) := λ c => bit_eq c 49 (by omega)
  simp only [b48, b49]
  refine ⟨⟨λ k8 => ⟨hl5, by omega, ⟨(0, ([61] : Bs).isPrefixOf (blankR z.2).1), ⟨rfl, rfl⟩, ⟨rfl, rfl, Nat.le_refl _⟩, beq_iff_eq.1 k8, Nat.zero_le _, by simp⟩, λ i hi => ⟨λ hlt => ⟨⟨by omega, by omega⟩, by omega, ⟨by omega, by omega, by omega⟩, (i.1 + 1, i.2 && isBit ((cutPre [61] (blankR z.2).1).getD i.1 0)), ⟨by rw [Nat.zero_add]; rfl, by rw [wrap64] <;> omega⟩, ⟨rfl, ⟨Nat.le_refl _, λ q hq => ?_⟩, Nat.le_refl _⟩, ⟨beq_iff_eq.1 k8, by dsimp only; omega, ?_⟩, by dsimp only; omega⟩, λ hge => ⟨evR3 z.1 z.2, ?_, rfl⟩⟩⟩, λ k8 => ⟨λ k10 => ⟨⟨([], z.2), ⟨⟨rfl, rfl⟩, rfl⟩, beq_iff_eq.1 k10, hl5, by simpa using hl5, rfl⟩, λ y hy => ⟨λ hm => ?_, λ hm => ⟨evR3 z.1 z.2, ?_, rfl⟩⟩⟩, λ k10 => ⟨λ k11 => ⟨⟨([], z.2), ⟨⟨rfl, rfl⟩, rfl⟩, beq_iff_eq.1 k11, hl5, by simpa using hl5, rfl⟩, λ y hy => ⟨λ hm => ?_, λ hm => ⟨evR3 z.1 z.2, ?_, rfl⟩⟩⟩, λ k11 => ⟨λ k12 => ⟨⟨([], z.2), ⟨⟨rfl, rfl⟩, rfl⟩, .inl (beq_iff_eq.1 k12), hl5, by simpa using hl5, rfl⟩, λ y hy => ⟨λ hm => ?_, λ hm => ⟨evR3 z.1 z.2, ?_, rfl⟩⟩⟩, λ k12 => ⟨λ k13 => ⟨⟨([], z.2), ⟨⟨rfl, rfl⟩, rfl⟩, .inr (beq_iff_eq.1 k13), hl5, by simpa using hl5, rfl⟩, λ y hy => ⟨λ hm => ?_, λ hm => ⟨evR3 z.1 z.2, ?_, rfl⟩⟩⟩, λ k13 => ⟨λ k14 => ⟨hl5, Nat.le_trans (text_le _) hl5, by have := blank_le (textR z.2).2; have := text_le z.2; omega, evR3 z.1 z.2, ?_, rfl⟩, λ k14 => ⟨evR3 z.1 z.2, ?_, rfl⟩⟩⟩⟩⟩⟩⟩, ?_⟩
  ·have hq' : q < i.1 + 1 := hq
   have e9 : ∀ j, j < (cutPre [61] (blankR z.2).1).length -> ((cutPre [61] (blankR z.2).1).map (· == 49)).getD j false = ((cutPre [61] (blankR z.2).1).getD j 0 == 49) := λ j hj => by
    simp [List.getD_eq_getElem?_getD, hj]
   simp only [Nat.zero_add]
   split
   ·rfl
   ·have hqi : q = i.1 := by omega
    rw [hqi, e9 i.1 (by omega), Nat.sub_self]
    rfl
  ·rw [hi.2.2, all_take _ isBit i.1 (by omega), Bool.and_assoc]
  ·have hil : i.1 = (cutPre [61] (blankR z.2).1).length := by omega
   have hib := hi.2.2
   rw [hil, List.take_length] at hib
   have e3 : evR3 z.1 z.2 = (({ z.1 with keep := (keepR z.2).1 } : Ev), (keepR z.2).2) := by
    rw [evR3, k8, cond_true]
   rw [e3, hil, hib]
   exact ⟨⟨rfl, rfl⟩, ⟨rfl, rfl, rfl, rfl, by simp [keepR], nc, rfl, nm', ne, rfl, rfl, rfl, rfl, rfl, rfl, λ _ _ => rfl, λ _ _ => rfl⟩, ⟨by simp [keepR], λ _ _ => rfl⟩, nc, nm', ne⟩
  ·have hlt := number_lt y.2 hm
   have hst := iter_step numberR number_lt y.2 hm
   simp only [conf_iter] at hy ⊢
   refine ⟨hy.2.1, ⟨by omega, by omega, by omega⟩, (y.1 ++ [(numberR y.2).1], (numberR y.2).2), ⟨⟨rfl, rfl⟩, by simp, by simp, λ q hq => app_at (λ v => nm v) y.1 _ 0 q hq⟩, ⟨hy.1, by dsimp only; omega, by simp; omega, ?_⟩, by dsimp only; omega⟩
   rw [hy.2.2.2, hst]
   simp [List.append_assoc]
  ·have hst := iter_end numberR y.2.rest.length y.2 hm
   have e3 : evR3 z.1 z.2 = (({ z.1 with conf := y.1 } : Ev), y.2) := by
    have h9 := hy.2.2.2
    simp only [evR3, k8, k10, cond_false, cond_true, conf_iter] at h9 ⊢
    rw [h9, hst]
    simp
   rw [e3]
   exact ⟨⟨rfl, rfl⟩, ⟨rfl, rfl, rfl, rfl, nk, rfl, rfl, nm', ne, rfl, rfl, rfl, rfl, rfl, rfl, λ _ _ => rfl, λ _ _ => rfl⟩, nk, ⟨Nat.le_refl _, λ _ _ => rfl⟩, nm', ne⟩
  ·have hlt := row_lt y.2 hm
   have hst := iter_step rowR row_lt y.2 hm
   simp only [map_iter] at hy ⊢
   refine ⟨hy.2.1, Nat.le_trans (text_le _) hy.2.1, ⟨by omega, by omega, by omega⟩, (y.1 ++ [(rowR y.2).1], (rowR y.2).2), ⟨⟨rfl, rfl⟩, by simp, by simp, λ q hq => app_at (λ v : Bs × Bs => .agg [sl v.1, sl v.2]) y.1 _ ([], []) q hq⟩, ⟨hy.1, by dsimp only; omega, by simp; omega, ?_⟩, by dsimp only; omega⟩
   rw [hy.2.2.2, hst]
   simp [List.append_assoc]
  ·have hst := iter_end rowR y.2.rest.length y.2 hm
   have e3 : evR3 z.1 z.2 = (({ z.1 with map := y.1 } : Ev), y.2) := by
    have h9 := hy.2.2.2
    simp only [evR3, k8, k10, k11, cond_false, cond_true, map_iter] at h9 ⊢
    rw [h9, hst]
    simp
   rw [e3]
   exact ⟨⟨rfl, rfl⟩, ⟨rfl, rfl, rfl, rfl, nk, nc, rfl, rfl, ne, rfl, rfl, rfl, rfl, rfl, rfl, λ _ _ => rfl, λ _ _ => rfl⟩, nk, nc, ⟨Nat.le_refl _, λ _ _ => rfl⟩, ne⟩
  ·have hlt := change_lt y.2 hm
   have hst := iter_step changeR change_lt y.2 hm
   simp only [edit_iter] at hy ⊢
   refine ⟨hy.2.1, ⟨by omega, by omega, by omega⟩, (y.1 ++ [(changeR y.2).1], (changeR y.2).2), ⟨⟨rfl, rfl⟩, by simp, by simp, λ q hq => app_at (λ v : Bs × Bool × Bs => .agg [sl v.1, bl v.2.1, sl v.2.2]) y.1 _ ([], false, []) q hq⟩, ⟨hy.1, by dsimp only; omega, by simp; omega, ?_⟩, by dsimp only; omega⟩
   rw [hy.2.2.2, hst]
   simp [List.append_assoc]
  ·have hst := iter_end changeR y.2.rest.length y.2 hm
   have e3 : evR3 z.1 z.2 = (({ z.1 with edit := y.1 } : Ev), y.2) := by
    have h9 := hy.2.2.2
    simp only [evR3, k8, k10, k11, k12, Bool.true_or, cond_false, cond_true, edit_iter] at h9 ⊢
    rw [h9, hst]
    simp
   rw [e3]
   exact ⟨⟨rfl, rfl⟩, ⟨rfl, rfl, rfl, rfl, nk, nc, rfl, nm', rfl, rfl, rfl, rfl, rfl, rfl, rfl, λ _ _ => rfl, λ _ _ => rfl⟩, nk, nc, nm', ⟨Nat.le_refl _, λ _ _ => rfl⟩⟩
  ·have hlt := change_lt y.2 hm
   have hst := iter_step changeR change_lt y.2 hm
   simp only [edit_iter] at hy ⊢
   refine ⟨hy.2.1, ⟨by omega, by omega, by omega⟩, (y.1 ++ [(changeR y.2).1], (changeR y.2).2), ⟨⟨rfl, rfl⟩, by simp, by simp, λ q hq => app_at (λ v : Bs × Bool × Bs => .agg [sl v.1, bl v.2.1, sl v.2.2]) y.1 _ ([], false, []) q hq⟩, ⟨hy.1, by dsimp only; omega, by simp; omega, ?_⟩, by dsimp only; omega⟩
   rw [hy.2.2.2, hst]
   simp [List.append_assoc]
  ·have hst := iter_end changeR y.2.rest.length y.2 hm
   have e3 : evR3 z.1 z.2 = (({ z.1 with edit := y.1 } : Ev), y.2) := by
    have h9 := hy.2.2.2
    simp only [evR3, k8, k10, k11, k12, k13, Bool.false_or, cond_false, cond_true, edit_iter] at h9 ⊢
    rw [h9, hst]
    simp
   rw [e3]
   exact ⟨⟨rfl, rfl⟩, ⟨rfl, rfl, rfl, rfl, nk, nc, rfl, nm', rfl, rfl, rfl, rfl, rfl, rfl, rfl, λ _ _ => rfl, λ _ _ => rfl⟩, nk, nc, nm', ⟨Nat.le_refl _, λ _ _ => rfl⟩⟩
  ·have e3 : evR3 z.1 z.2 = (({ z.1 with cbranch := (doR z.2).1, new := (doR z.2).2.1 } : Ev), (doR z.2).2.2) := by
    simp only [evR3, k8, k10, k11, k12, k13, k14, Bool.false_or, cond_false, cond_true]
   have e4 : ∀ s : Bs, (idE s != 0) = !(idR s).2 := λ s => by
    unfold idE
    cases (idR s).2 <;> rfl
   rw [e3, e4]
   exact ⟨⟨rfl, rfl⟩, ⟨rfl, rfl, rfl, rfl, nk, nc, rfl, nm', ne, rfl, rfl, rfl, rfl, rfl, rfl, λ _ _ => rfl, λ _ _ => rfl⟩, nk, nc, nm', ne⟩
  ·have e3 : evR3 z.1 z.2 = (z.1, z.2) := by
    simp only [evR3, k8, k10, k11, k12, k13, k14, Bool.false_or, cond_false]
   rw [e3]
   exact ⟨⟨rfl, rfl⟩, ⟨rfl, rfl, rfl, rfl, nk, nc, rfl, nm', ne, rfl, rfl, rfl, rfl, rfl, rfl, λ _ _ => rfl, λ _ _ => rfl⟩, nk, nc, nm', ne⟩
  ·rintro x rfl
   have hd : (evR3 z.1 z.2).1.data = [] := by
    unfold evR3
    cases z.1.kind == 8 <;> cases z.1.kind == 10 <;> cases z.1.kind == 11 <;> cases z.1.kind == 12 || z.1.kind == 13 <;> cases z.1.kind == 14 <;> exact z5
   generalize evR3 z.1 z.2 = y at h hd ⊢
   have hev : IsEv (AV.agg [nm y.1.kind, nm y.1.node, nm y.1.to, nm y.1.n, AV.rows 1 y.1.keep.length λ i => bl (y.1.keep.getD (0 + i) false), AV.rows 1 y.1.conf.length λ i => nm (y.1.conf.getD (0 + i) 0), sl y.1.branch, AV.rows 2 y.1.map.length λ i => AV.agg [sl (y.1.map.getD (0 + i) ([], [])).fst, sl (y.1.map.getD (0 + i) ([], [])).snd], AV.rows 3 y.1.edit.length λ i => AV.agg [sl (y.1.edit.getD (0 + i) ([], false, [])).fst, bl (y.1.edit.getD (0 + i) ([], false, [])).snd.fst, sl (y.1.edit.getD (0 + i) ([], false, [])).snd.snd], AV.pl (Value.int IntKind.u32 y.1.author), sl y.1.note, nm y.1.ck, nm y.1.client, AV.pl (Value.int IntKind.u32 y.1.seq), sl y.1.cbranch, AV.iarr IntKind.u8 32 y.1.old, AV.iarr IntKind.u8 32 y.1.new, nilS]) y.1 :=
    ⟨rfl, rfl, rfl, rfl, ⟨rfl, rfl, λ i _ => by dsimp only; rw [Nat.zero_add]; rfl⟩, ⟨rfl, rfl, λ i _ => by dsimp only; rw [Nat.zero_add]; rfl⟩, rfl, ⟨rfl, rfl, λ i _ => by dsimp only; rw [Nat.zero_add]; rfl⟩, ⟨rfl, rfl, λ i _ => by dsimp only; rw [Nat.zero_add]; rfl⟩, rfl, rfl, rfl, rfl, rfl, rfl, ⟨rfl, rfl, λ _ _ => rfl⟩, ⟨rfl, rfl, λ _ _ => rfl⟩, ⟨trivial, by rw [hd]; rfl⟩, trivial⟩
   have hb4 : 0 + y.1.keep.length <= y.1.keep.length /\ 0 + y.1.conf.length <= y.1.conf.length /\ 0 + y.1.map.length <= y.1.map.length /\ 0 + y.1.edit.length <= y.1.edit.length := ⟨by omega, by omega, by omega, by omega⟩
   refine ⟨λ hb => ⟨hb4, y.1, hev, hb4, (), ?_, ?_, h⟩, λ hb => ⟨hb4, (), ?_, ?_, h⟩⟩
   ·exact ⟨rfl, rfl, rfl, rfl, ⟨rfl, λ i _ => by rw [Nat.zero_add]⟩, ⟨rfl, λ i _ => by rw [Nat.zero_add]⟩, rfl, ⟨rfl, λ i _ => by rw [Nat.zero_add]⟩, ⟨rfl, λ i _ => by rw [Nat.zero_add]⟩, rfl, rfl, rfl, rfl, rfl, rfl, λ _ _ => rfl, λ _ _ => rfl, by rw [hd]; rfl⟩
   ·exact ⟨rfl, by simp only [orBad, hb, Bool.false_or]⟩
   ·exact ⟨rfl, rfl, rfl, rfl, ⟨rfl, λ i _ => by rw [Nat.zero_add]⟩, ⟨rfl, λ i _ => by rw [Nat.zero_add]⟩, rfl, ⟨rfl, λ i _ => by rw [Nat.zero_add]⟩, ⟨rfl, λ i _ => by rw [Nat.zero_add]⟩, rfl, rfl, rfl, rfl, rfl, rfl, λ _ _ => rfl, λ _ _ => rfl, by rw [hd]; rfl⟩
   ·exact ⟨rfl, by simp only [orBad, hb, Bool.true_or]⟩
 ·exact h.elim
end Go.Proofs.Sz

namespace Go.Proofs.Sz
open Go Go.Am Go.SP
set_option maxRecDepth 20000
theorem appN {α : Type} (F : α -> AV) (l vs : List α) (d : α) (row : Nat -> AV) (hr : ∀ j, j < vs.length -> row j = F (vs.getD j d)) (i : Nat) (hi : i < (l ++ vs).length) : (if i < l.length then F (l.getD i d) else row (0 + (i - l.length))) = F ((l ++ vs).getD i d) := by
 rw [List.length_append] at hi
 simp only [List.getD_eq_getElem?_getD, List.getElem?_append]
 split
 ·rfl
 ·rw [Nat.zero_add, hr _ (by omega), List.getD_eq_getElem?_getD]
theorem XWord : EntOk Tryz.prog 52 (.lend TWord) := by
 refine ⟨Am.enters_of Tryz.func52 (by kernel_rfl) (by kernel_rfl), λ args R h => ?_⟩
 unfold TWord at h
 split at h
 ·rename_i k
  refine mkSo (vWord k R) (tb az) Tryz.func52 (by kernel_rfl) ?_
  simp only [true_and, and_true, and_self, implies_true, forall_const, gEq_true, gEq_false, nonneg_iff, natle_iff, decide_eq_true_eq, decide_eq_false_iff_not, Int.toNat_natCast, cond_bt, cond_bf, Bool.cond_true, Bool.cond_false, Bool.not_true, Bool.not_false, reduceCtorEq, false_implies, implies_true, Bool.true_eq_false, Bool.false_eq_true, Bool.not_eq_true', Bool.not_eq_false', bs_size, bs_data, bs_toList, bs_extract, bs_append, bs_mk, byteF]
  unfold wordK at h
  refine ⟨λ (hq : (decide (k < 1) || decide (15 < k)) = true) => ?_, λ (hq : (decide (k < 1) || decide (15 < k)) = false) => ?_⟩
  ·rw [hq] at h
   exact h
  ·rw [hq] at h
   have hk : k = 1 ∨ k = 2 ∨ k = 3 ∨ k = 4 ∨ k = 5 ∨ k = 6 ∨ k = 7 ∨ k = 8 ∨ k = 9 ∨ k = 10 ∨ k = 11 ∨ k = 12 ∨ k = 13 ∨ k = 14 ∨ k = 15 := by simp at hq; omega
   rcases hk with rfl | rfl | rfl | rfl | rfl | rfl | rfl | rfl | rfl | rfl | rfl | rfl | rfl | rfl | rfl <;> exact ⟨by decide, h⟩
 ·exact h.elim
theorem numsA2 {x y : Int} {L : List Int} (h : L = [x, y]) : 2 = L.length /\ L.length <= 2 /\ ∀ i, i < L.length -> rowOf [(0, nm x), (1, nm y)] i = nm (L.getD i 0) := by
 subst h
 refine ⟨rfl, Nat.le_refl _, λ i hi => ?_⟩
 have : i = 0 ∨ i = 1 := by simp at hi; omega
 rcases this with rfl | rfl <;> rfl
theorem numsA1 {x : Int} {L : List Int} (h : L = [x]) : 1 = L.length /\ L.length <= 1 /\ ∀ i, i < L.length -> rowOf [(0, nm x)] i = nm (L.getD i 0) := by
 subst h
 refine ⟨rfl, Nat.le_refl _, λ i hi => ?_⟩
 have : i = 0 := by simp at hi; omega
 subst this
 rfl
theorem XNumsR : EntOk Tryz.prog 54 (.lend TNumsR) := by
 refine ⟨Am.enters_of Tryz.func54 (by kernel_rfl) (by kernel_rfl), λ args R h => ?_⟩
 unfold TNumsR at h
 split at h
 ·rename_i x
  obtain ⟨e, ⟨hx, ⟨hk1, hk2⟩, hok⟩, h⟩ := h
  refine Spec.args (args' := [e.av]) ⟨hx, trivial⟩ ?_
  refine Spec.weak (Z := Unit) (X := λ _ => .own 0 0 (numsE e).length) (HH := λ _ => [.row 1 tyI64 (numsE e).length (intF (numsE e))]) (mkSo (vNumsR e R) (tb az) Tryz.func54 (by kernel_rfl) ?_)
  have ha := hok.2.2.2.2.2.2.1
  have hau : IntKind.i64.wrap e.author = e.author := by rw [wrap64] <;> omega
  simp only [true_and, and_true, and_self, implies_true, forall_const, gEq_true, gEq_false, nonneg_iff, natle_iff, decide_eq_true_eq, decide_eq_false_iff_not, Int.toNat_natCast, cond_bt, cond_bf, Bool.cond_true, Bool.cond_false, Bool.not_true, Bool.not_false, reduceCtorEq, false_implies, implies_true, Bool.true_eq_false, Bool.false_eq_true, Bool.not_eq_true', Bool.not_eq_false', bs_size, bs_data, bs_toList, bs_extract, bs_append, bs_mk, byteF, hau, beq_iff_eq, beq_eq_false_iff_ne, ne_eq]
  have g2 : ∀ {a b : Int}, numsE e = [a, b] -> ∃ _ : Unit, 2 = (numsE e).length /\ ((numsE e).length <= 2 /\ ∀ i, i < (numsE e).length -> rowOf [(0, nm a), (1, nm b)] i = nm ((numsE e).getD i 0)) /\ R (.own 0 0 (numsE e).length) [.row 1 tyI64 (numsE e).length (intF (numsE e))] := λ hh => by
   obtain ⟨q1, q2, q3⟩ := numsA2 hh
   exact ⟨(), q1, ⟨q2, q3⟩, h⟩
  have g1 : ∀ {a : Int}, numsE e = [a] -> ∃ _ : Unit, 1 = (numsE e).length /\ ((numsE e).length <= 1 /\ ∀ i, i < (numsE e).length -> rowOf [(0, nm a)] i = nm ((numsE e).getD i 0)) /\ R (.own 0 0 (numsE e).length) [.row 1 tyI64 (numsE e).length (intF (numsE e))] := λ hh => by
   obtain ⟨q1, q2, q3⟩ := numsA1 hh
   exact ⟨(), q1, ⟨q2, q3⟩, h⟩
  have nE : ∀ L : List Int, (fieldsV e ++ (bif stampedK e.kind then [e.author] else [])) = L -> numsE e = L := λ _ hh => hh
  refine ⟨λ q => g2 (nE _ (by rw [fieldsV, q]; rfl)), λ n1 => ⟨λ q => g2 (nE _ (by rw [fieldsV, q]; rfl)), λ n7 => ⟨λ q => g2 (nE _ (by rw [fieldsV, q]; rfl)), λ n9 => ⟨λ q => g1 (nE _ (by rw [fieldsV, q]; rfl)), λ n2 => ⟨λ q => g1 (nE _ (by rw [fieldsV, q]; rfl)), λ n3 => ⟨λ q => g1 (nE _ (by rw [fieldsV, q]; rfl)), λ n4 => ⟨λ q => g2 (nE _ (by rw [fieldsV, q]; rfl)), λ n5 => ⟨λ q => g2 (nE _ (by rw [fieldsV, q]; rfl)), λ n6 => ⟨λ q => g2 (nE _ (by rw [fieldsV, q]; rfl)), λ n15 => ⟨λ q => g1 (nE _ (by rw [fieldsV, q]; rfl)), λ n8 => ⟨λ q => g1 (nE _ (by rw [fieldsV, q]; rfl)), λ n10 => ⟨λ q => g2 (nE _ (by rw [fieldsV, q]; rfl)), λ n11 => ⟨λ q => g2 (nE _ (by rw [fieldsV, q]; rfl)), λ n12 => ⟨λ q => g2 (nE _ (by rw [fieldsV, q]; rfl)), λ n13 => ⟨λ q => g2 (nE _ (by rw [fieldsV, q]; rfl)), λ n14 => absurd hk1 (by omega)⟩⟩⟩⟩⟩⟩⟩⟩⟩⟩⟩⟩⟩⟩⟩
 ·exact h.elim
theorem bits_snoc (l : List Bool) (x : Nat) (h : x < l.length) : bitsL (l.take (x + 1)) = bitsL (l.take x) ++ [bitB (l.getD x false)] := by
 rw [List.take_succ_eq_append_getElem h, bitsL, bitsL, List.map_append, List.getD_eq_getElem?_getD, List.getElem?_eq_getElem h]
 rfl
theorem XBits : EntOk Tryz.prog 55 (.lend TBits) := by
 refine ⟨Am.enters_of Tryz.func55 (by kernel_rfl) (by kernel_rfl), λ args R h => ?_⟩
 unfold TBits at h
 split at h
 ·rename_i x
  obtain ⟨l, ⟨hx, hl⟩, h⟩ := h
  refine Spec.args (args' := [boolsAV l]) ⟨hx, trivial⟩ ?_
  refine mkSo (vBits l (λ i => i <= l.length) R) (tb az) Tryz.func55 (by kernel_rfl) ?_
  have hmx := maxLen_eq
  simp only [true_and, and_true, and_self, implies_true, forall_const, gEq_true, gEq_false, nonneg_iff, natle_iff, decide_eq_true_eq, decide_eq_false_iff_not, Int.toNat_natCast, cond_bt, cond_bf, Bool.cond_true, Bool.cond_false, Bool.not_true, Bool.not_false, reduceCtorEq, false_implies, implies_true, Bool.true_eq_false, Bool.false_eq_true, Bool.not_eq_true', Bool.not_eq_false', bs_size, bs_data, bs_toList, bs_extract, bs_append, bs_mk, byteF]
  have hlen : ∀ x, x <= l.length -> (61 :: bitsL (l.take x)).length = x + 1 := λ x hx => by simp [bitsL]; omega
  have hstep : ∀ x, x < l.length -> ∀ v, bitB (l.getD x false) = v -> (0 + 1 <= 1 /\ (61 :: bitsL (l.take x)).length + 1 <= maxLen /\ ((61 :: bitsL (l.take x)).length + 1) * 1 <= 140737488355328) /\ ∃ y, ((61 :: bitsL (l.take x)).length + 1 = (61 :: bitsL (l.take y)).length /\ IntKind.i64.wrap ((x : Int) + 1) = (y : Int)) /\ ((61 :: bitsL (l.take y)).length <= (61 :: bitsL (l.take x)).length + 1 /\ ∀ i, i < (61 :: bitsL (l.take y)).length -> (if i < (61 :: bitsL (l.take x)).length then u8 ((61 :: bitsL (l.take x)).getD i 0) else rowOf [(0, u8 v)] (0 + (i - (61 :: bitsL (l.take x)).length))) = u8 ((61 :: bitsL (l.take y)).getD i 0)) /\ y <= l.length /\ (l.length - y).succ <= l.length - x := λ x hx v hv => by
   have h1 := hlen x (by omega)
   have h2 := hlen (x + 1) (by omega)
   have hsn : (61 :: bitsL (l.take (x + 1))) = (61 :: bitsL (l.take x)) ++ [v] := by rw [bits_snoc l x hx, hv]; rfl
   refine ⟨⟨by omega, by omega, by omega⟩, x + 1, ⟨by omega, by rw [wrap64] <;> omega⟩, ⟨by omega, λ i hi => ?_⟩, by omega, by omega⟩
   rw [hsn] at hi ⊢
   exact app_at (λ c : UInt8 => u8 c) (61 :: bitsL (l.take x)) v 0 i hi
  refine ⟨⟨0, ⟨by simp [bitsL], rfl⟩, ⟨by simp [bitsL], λ i hi => ?_⟩, Nat.zero_le _⟩, λ x hx => ⟨λ hlt => ⟨⟨by omega, by omega⟩, λ hb => hstep x (by omega) 49 (by rw [hb]; rfl), λ hb => hstep x (by omega) 48 (by rw [hb]; rfl)⟩, λ hge => ?_⟩⟩
  ·have : i = 0 := by simp [bitsL] at hi; omega
   subst this
   rfl
  ·have hxl : x = l.length := by omega
   subst hxl
   rw [List.take_length]
   exact ⟨by omega, bs (61 :: bitsL l), bs_size _, λ i _ => by rw [bs_data, Nat.zero_add], h⟩
 ·exact h.elim
theorem XQuote : EntOk Tryz.prog 56 (.lend TQuote) := by
 refine ⟨Am.enters_of Tryz.func56 (by kernel_rfl) (by kernel_rfl), λ args R h => ?_⟩
 unfold TQuote at h
 split at h
 ·rename_i s
  obtain ⟨l, rfl⟩ : ∃ l, s = bs l := ⟨_, bs_of s⟩
  obtain ⟨hl, h⟩ := h
  rw [bs_size] at hl
  rw [bs_data] at h
  refine mkSo (vQuote l (λ i => i <= l.length) R) (tb az) Tryz.func56 (by kernel_rfl) ?_
  have hmx := maxLen_eq
  simp only [true_and, and_true, and_self, implies_true, forall_const, gEq_true, gEq_false, nonneg_iff, natle_iff, decide_eq_true_eq, decide_eq_false_iff_not, Int.toNat_natCast, cond_bt, cond_bf, Bool.cond_true, Bool.cond_false, Bool.not_true, Bool.not_false, reduceCtorEq, false_implies, implies_true, Bool.true_eq_false, Bool.false_eq_true, Bool.not_eq_true', Bool.not_eq_false', bs_size, bs_data, bs_toList, bs_extract, bs_append, bs_mk, byteF]
  have hq0 := quote_len
  have hlq : ∀ x, x <= l.length -> (34 :: quoteL (l.take x)).length <= 400001 := λ x hx => by
   have := hq0 (l.take x)
   rw [List.length_take] at this
   simp only [List.length_cons]
   omega
  have fin : ∀ x, x < l.length -> ∀ (vs : Bs) (row : Nat -> AV), qte (l.getD x 0) = vs -> (∀ j, j < vs.length -> row j = u8 (vs.getD j 0)) -> ∃ y, ((34 :: quoteL (l.take x)).length + vs.length = (34 :: quoteL (l.take y)).length /\ IntKind.i64.wrap ((x : Int) + 1) = (y : Int)) /\ ((34 :: quoteL (l.take y)).length <= (34 :: quoteL (l.take x)).length + vs.length /\ ∀ i, i < (34 :: quoteL (l.take y)).length -> (if i < (34 :: quoteL (l.take x)).length then u8 ((34 :: quoteL (l.take x)).getD i 0) else row (0 + (i - (34 :: quoteL (l.take x)).length))) = u8 ((34 :: quoteL (l.take y)).getD i 0)) /\ y <= l.length /\ (l.length - y).succ <= l.length - x := λ x hx vs row hv hr => by
   have hsn : (34 :: quoteL (l.take (x + 1))) = (34 :: quoteL (l.take x)) ++ vs := by rw [quote_take l x hx, hv]; rfl
   refine ⟨x + 1, ⟨by rw [hsn, List.length_append], by rw [wrap64] <;> omega⟩, ⟨by rw [hsn, List.length_append]; exact Nat.le_refl _, λ i hi => ?_⟩, by omega, by omega⟩
   rw [hsn] at hi ⊢
   exact appN (λ c : UInt8 => u8 c) (34 :: quoteL (l.take x)) vs 0 row hr i hi
  have dig : ∀ c : Fin 256, ([48, 49, 50, 51, 52, 53, 54, 55, 56, 57, 97, 98, 99, 100, 101, 102] : Bs).getD (IntKind.u8.wrap (((c.val : Nat) : Int).tdiv (Int.ofNat (15 + 1)))).toNat 0 = hexD (c.val / 16) /\ ([48, 49, 50, 51, 52, 53, 54, 55, 56, 57, 97, 98, 99, 100, 101, 102] : Bs).getD (((c.val : Nat) : Int).tmod (Int.ofNat (15 + 1))).toNat 0 = hexD (c.val % 16) /\ 0 <= IntKind.u8.wrap (((c.val : Nat) : Int).tdiv (Int.ofNat (15 + 1))) /\ IntKind.u8.wrap (((c.val : Nat) : Int).tdiv (Int.ofNat (15 + 1))) + 1 <= 16 /\ 0 <= (((c.val : Nat) : Int).tmod (Int.ofNat (15 + 1))) /\ (((c.val : Nat) : Int).tmod (Int.ofNat (15 + 1))) + 1 <= 16 := by decide +kernel
  refine ⟨⟨0, ⟨by simp [quoteL], rfl⟩, ⟨by simp [quoteL], λ i hi => ?_⟩, Nat.zero_le _⟩, λ x hx => ⟨λ hlt => ⟨⟨by omega, by omega⟩, ?_⟩, λ hge => ?_⟩⟩
  ·have : i = 0 := by simp [quoteL] at hi; omega
   subst this
   rfl
  ·have hB := hlq x hx
   have hx' : x < l.length := by omega
   have fx := fin x hx'
   obtain ⟨c, hc⟩ : ∃ c, l.getD x 0 = c := ⟨_, rfl⟩
   simp only [hc] at fx ⊢
   have hcl := c.toNat_lt
   have hd := dig ⟨c.toNat, hcl⟩
   have c34 : (((c.toNat : Nat) : Int) == 34) = (c == 34) := bit_eq c 34 (by omega)
   have c92 : (((c.toNat : Nat) : Int) == 92) = (c == 92) := bit_eq c 92 (by omega)
   have c10 : (((c.toNat : Nat) : Int) == 10) = (c == 10) := bit_eq c 10 (by omega)
   have c13 : (((c.toNat : Nat) : Int) == 13) = (c == 13) := bit_eq c 13 (by omega)
   have two : ∀ (a b : UInt8) (j : Nat), j < ([a, b] : Bs).length -> rowOf [(0, u8 a), (1, u8 b)] j = u8 (([a, b] : Bs).getD j 0) := λ a b j hj => by
    have : j = 0 ∨ j = 1 := by simp at hj; omega
    rcases this with rfl | rfl <;> rfl
   refine ⟨λ q => ⟨⟨by omega, by omega, by omega⟩, fx [92, c] _ (qte1 (.inl ?_)) (λ j hj => ?_)⟩, λ n34 => ⟨λ q => ⟨⟨by omega, by omega, by omega⟩, fx [92, c] _ (qte1 (.inr ?_)) (λ j hj => ?_)⟩, λ n92 => ⟨λ q => ⟨⟨by simp only [List.length_cons, List.length_nil] at hB ⊢; omega, by simp only [List.length_cons, List.length_nil] at hB ⊢; omega⟩, ?_⟩, λ n10 => ⟨λ q => ⟨⟨by simp only [List.length_cons, List.length_nil] at hB ⊢; omega, by simp only [List.length_cons, List.length_nil] at hB ⊢; omega⟩, ?_⟩, λ n13 => ⟨λ q => ?_, λ q => ⟨⟨by omega, by omega, by omega⟩, fx [c] _ ?_ (λ j hj => ?_)⟩⟩⟩⟩⟩⟩
   ·rw [c34] at q
    exact beq_iff_eq.1 q
   ·exact two 92 c j hj
   ·rw [c92] at q
    exact beq_iff_eq.1 q
   ·exact two 92 c j hj
   ·rw [c10] at q
    obtain rfl := beq_iff_eq.1 q
    have := fx [92, 110] (λ j => u8 (([92, 110] : Bs).getD j 0)) rfl (λ _ _ => rfl)
    simpa only [Nat.zero_add] using this
   ·rw [c13] at q
    obtain rfl := beq_iff_eq.1 q
    have := fx [92, 114] (λ j => u8 (([92, 114] : Bs).getD j 0)) rfl (λ _ _ => rfl)
    simpa only [Nat.zero_add] using this
   ·rw [c34] at n34
    rw [c92] at n92
    rw [c10] at n10
    rw [c13] at n13
    rw [beq_eq_false_iff_ne] at n34 n92 n10 n13
    obtain ⟨d1, d2, d3, d4, d5, d6⟩ := hd
    refine ⟨⟨d3, d4⟩, ⟨d3, d4⟩, ⟨d5, d6⟩, ⟨d5, d6⟩, ⟨by omega, by omega, by omega⟩, fx [92, 120, hexD (c.toNat / 16), hexD (c.toNat % 16)] _ (qte4 (λ o => o.elim n34 n92) n10 n13 ?_) (λ j hj => ?_)⟩
    ·simp at q
     omega
    ·have : j = 0 ∨ j = 1 ∨ j = 2 ∨ j = 3 := by simp at hj; omega
     rcases this with rfl | rfl | rfl | rfl
     ·rfl
     ·rfl
     ·exact congrArg (λ v : UInt8 => u8 v) d1
     ·exact congrArg (λ v : UInt8 => u8 v) d2
   ·rw [c34] at n34
    rw [c92] at n92
    rw [c10] at n10
    rw [c13] at n13
    have q2 : (decide (c < 32) || decide (c > 126)) = false := by
     rw [<- q]
     congr 1
     ·rw [decide_eq_decide, UInt8.lt_iff_toNat_lt]
      show c.toNat < 32 ↔ _
      omega
     ·rw [decide_eq_decide, gt_iff_lt, UInt8.lt_iff_toNat_lt]
      show 126 < c.toNat ↔ _
      omega
    simp only [qte, n34, n92, n10, n13, q2, Bool.or_false, cond_false]
   ·have : j = 0 := by simp at hj; omega
    subst this
    rfl
  ·have hxl : x = l.length := by omega
   have hB := hlq x hx
   subst hxl
   rw [List.take_length] at hB ⊢
   refine ⟨⟨by omega, by omega, by omega⟩, by omega, bs (quo l), by rw [bs_size]; simp [quo], λ i hi => ?_, h⟩
   rw [bs_data, Nat.zero_add]
   have e1 : quo l = (34 :: quoteL l) ++ [34] := rfl
   rw [e1]
   exact app_at (λ c : UInt8 => u8 c) (34 :: quoteL l) 34 0 i (by simpa using hi)
 ·exact h.elim
end Go.Proofs.Sz

namespace Go.Proofs.Sz
open Go Go.Am Go.SP
set_option maxRecDepth 20000
theorem kinds {k : Int} (h1 : 1 <= k) (h2 : k <= 15) : k = 1 ∨ k = 2 ∨ k = 3 ∨ k = 4 ∨ k = 5 ∨ k = 6 ∨ k = 7 ∨ k = 8 ∨ k = 9 ∨ k = 10 ∨ k = 11 ∨ k = 12 ∨ k = 13 ∨ k = 14 ∨ k = 15 := by omega
theorem XWith : EntOk Tryz.prog 73 (.lend TWith) := by
 refine ⟨Am.enters_of Tryz.func73 (by kernel_rfl) (by kernel_rfl), λ args R h => ?_⟩
 unfold TWith at h
 split at h
 ·rename_i k x
  obtain ⟨e, ⟨hke, hx, ⟨hk1, hk2⟩, hok⟩, h⟩ := h
  subst hke
  refine Spec.args (args' := [nm e.kind, ints0AV (numsE e)]) ⟨rfl, hx, trivial⟩ ?_
  refine Spec.weak (Z := Unit) (X := λ _ => .tup [.agg (withC e), bl true]) (HH := λ _ => []) (mkSo (vWith e (numsE e) R) (tb az) Tryz.func73 (by kernel_rfl) ?_)
  have ha := hok.2.2.2.2.2.2.1
  have hau : IntKind.u32.wrap e.author = e.author := by rw [wrapu32] <;> omega
  have ha3 : e.author <= 4294967295 := by omega
  simp only [true_and, and_true, and_self, implies_true, forall_const, gEq_true, gEq_false, nonneg_iff, natle_iff, decide_eq_true_eq, decide_eq_false_iff_not, Int.toNat_natCast, cond_bt, cond_bf, Bool.cond_true, Bool.cond_false, Bool.not_true, Bool.not_false, reduceCtorEq, false_implies, implies_true, Bool.true_eq_false, Bool.false_eq_true, Bool.not_eq_true', Bool.not_eq_false', bs_size, bs_data, bs_toList, bs_extract, bs_append, bs_mk, byteF, true_imp_iff]
  unfold withC at h
  generalize R = Q at h ⊢
  obtain hk | hk | hk | hk | hk | hk | hk | hk | hk | hk | hk | hk | hk | hk | hk := kinds hk1 hk2
  all_goals simp [withE, numsE, fieldsV, Ev.setF, kNN, kN, kNT, k1, stampedK, hk, hau, ha.1, ha3, ev0, z0] at h ⊢
  all_goals exact h
 ·exact h.elim
theorem spokenAt {e : Ev} : (withE e).kind = (spokenE e).kind /\ (withE e).node = (spokenE e).node /\ (withE e).to = (spokenE e).to /\ (withE e).n = (spokenE e).n /\ (withE e).author = (spokenE e).author /\ (withE e).ck = (spokenE e).ck /\ (withE e).client = (spokenE e).client /\ (withE e).seq = (spokenE e).seq /\ (withE e).old = (spokenE e).old /\ (spokenE e).data = [] := by
 have hs : ∀ (x : Ev) (l : List Int), ((x.setF l).client = x.client /\ (x.setF l).seq = x.seq /\ (x.setF l).old = x.old /\ (x.setF l).data = x.data) := by
  intro x l
  unfold Ev.setF
  cases kNN x.kind <;> cases kN x.kind <;> cases kNT x.kind <;> cases k1 x.kind <;> cases x.kind == 14 <;> exact ⟨rfl, rfl, rfl, rfl⟩
 exact ⟨rfl, rfl, rfl, rfl, rfl, rfl, rfl, rfl, rfl, (hs _ _).2.2.2⟩
theorem withNew (e : Ev) : (withE e).new = z0 := by
 unfold withE
 show (Ev.setF _ _).new = z0
 unfold Ev.setF
 cases kNN ({ ev0 with kind := e.kind } : Ev).kind <;> cases kN ({ ev0 with kind := e.kind } : Ev).kind <;> cases kNT ({ ev0 with kind := e.kind } : Ev).kind <;> cases k1 ({ ev0 with kind := e.kind } : Ev).kind <;> cases ({ ev0 with kind := e.kind } : Ev).kind == 14 <;> rfl
theorem XSaid : EntOk Tryz.prog 53 (.lend TSaid) := by
 refine ⟨Am.enters_of Tryz.func53 (by kernel_rfl) (by kernel_rfl), λ args R h => ?_⟩
 unfold TSaid at h
 split at h
 ·rename_i x
  obtain ⟨e, ⟨hx, hk, hok⟩, h⟩ := h
  refine Spec.args (args' := [e.av]) ⟨hx, trivial⟩ ?_
  refine Spec.weak (Z := Unit) (X := λ _ => (spokenE e).av) (HH := λ _ => []) (mkSo (vSaid e R) (tb (ac XNumsR (ac XWith az))) Tryz.func53 (by kernel_rfl) ?_)
  simp only [true_and, and_true, and_self, implies_true, forall_const, gEq_true, gEq_false, nonneg_iff, natle_iff, decide_eq_true_eq, decide_eq_false_iff_not, Int.toNat_natCast, cond_bt, cond_bf, Bool.cond_true, Bool.cond_false, Bool.not_true, Bool.not_false, reduceCtorEq, false_implies, implies_true, Bool.true_eq_false, Bool.false_eq_true, Bool.not_eq_true', Bool.not_eq_false', bs_size, bs_data, bs_toList, bs_extract, bs_append, bs_mk, byteF, true_imp_iff]
  obtain ⟨s1, s2, s3, s4, s5, s6, s7, s8, s9, s10⟩ := @spokenAt e
  have s11 := withNew e
  have f1 : (spokenE e).keep = bif e.kind == 8 then e.keep else [] := rfl
  have f2 : (spokenE e).conf = bif e.kind == 10 then e.conf else [] := rfl
  have f3 : (spokenE e).map = bif e.kind == 11 then e.map else [] := rfl
  have f4 : (spokenE e).edit = bif e.kind == 12 || e.kind == 13 then e.edit else [] := rfl
  have f5 : (spokenE e).branch = bif stampedK e.kind then e.branch else [] := rfl
  have f6 : (spokenE e).note = bif stampedK e.kind then e.note else [] := rfl
  have f7 : (spokenE e).cbranch = bif e.kind == 14 then e.cbranch else [] := rfl
  have f8 : (spokenE e).new = bif e.kind == 14 then e.new else z0 := rfl
  refine ⟨⟨e, ⟨isEv_self e, hk, hok⟩, by omega, e, ⟨rfl, ⟨rfl, rfl, λ i _ => by show nm ((numsE e).getD (0 + i) 0) = nm ((numsE e).getD i 0); rw [Nat.zero_add]⟩, hk, hok⟩, (), rfl, rfl, rfl, rfl, rfl, rfl, rfl, rfl, λ _ _ => rfl, λ _ _ => rfl⟩, ?_⟩
  unfold stampedK at f5 f6
  refine ⟨λ q8 => ⟨(), ?_, h⟩, λ q8 => ⟨λ q10 => ⟨(), ?_, h⟩, λ q10 => ⟨λ q11 => ⟨(), ?_, h⟩, λ q11 => ⟨λ q12 => ⟨(), ?_, h⟩, λ q12 => ⟨λ q13 => ⟨(), ?_, h⟩, λ q13 => ⟨λ q14 => ⟨(), ?_, h⟩, λ q14 => ⟨(), ?_, h⟩⟩⟩⟩⟩⟩⟩
  ·have q := eq_of_beq q8
   rw [q] at f1 f2 f3 f4 f5 f6 f7 f8
   rw [f1, f2, f3, f4, f5, f6, f7, f8, s10, s11]
   exact ⟨s1, s2, s3, s4, ⟨rfl, λ _ _ => rfl⟩, rfl, rfl, rfl, rfl, s5, rfl, s6, s7, s8, rfl, λ i _ => by rw [s9], λ _ _ => rfl, rfl⟩
  ·have q := eq_of_beq q10
   rw [q] at f1 f2 f3 f4 f5 f6 f7 f8
   rw [f1, f2, f3, f4, f5, f6, f7, f8, s10, s11]
   exact ⟨s1, s2, s3, s4, rfl, ⟨rfl, λ _ _ => rfl⟩, rfl, rfl, rfl, s5, rfl, s6, s7, s8, rfl, λ i _ => by rw [s9], λ _ _ => rfl, rfl⟩
  ·have q := eq_of_beq q11
   rw [q] at f1 f2 f3 f4 f5 f6 f7 f8
   rw [f1, f2, f3, f4, f5, f6, f7, f8, s10, s11]
   exact ⟨s1, s2, s3, s4, rfl, rfl, rfl, ⟨rfl, λ _ _ => rfl⟩, rfl, s5, rfl, s6, s7, s8, rfl, λ i _ => by rw [s9], λ _ _ => rfl, rfl⟩
  ·have q := eq_of_beq q12
   rw [q] at f1 f2 f3 f4 f5 f6 f7 f8
   rw [f1, f2, f3, f4, f5, f6, f7, f8, s10, s11]
   exact ⟨s1, s2, s3, s4, rfl, rfl, rfl, rfl, ⟨rfl, λ _ _ => rfl⟩, s5, rfl, s6, s7, s8, rfl, λ i _ => by rw [s9], λ _ _ => rfl, rfl⟩
  ·have q := eq_of_beq q13
   rw [q] at f1 f2 f3 f4 f5 f6 f7 f8
   rw [f1, f2, f3, f4, f5, f6, f7, f8, s10, s11]
   exact ⟨s1, s2, s3, s4, rfl, rfl, rfl, rfl, ⟨rfl, λ _ _ => rfl⟩, s5, rfl, s6, s7, s8, rfl, λ i _ => by rw [s9], λ _ _ => rfl, rfl⟩
  ·have q := eq_of_beq q14
   rw [q] at f1 f2 f3 f4 f5 f6 f7 f8
   rw [f1, f2, f3, f4, f5, f6, f7, f8, s10]
   exact ⟨s1, s2, s3, s4, rfl, rfl, rfl, rfl, rfl, s5, rfl, s6, s7, s8, rfl, λ i _ => by rw [s9], λ _ _ => rfl, rfl⟩
  ·rw [q8] at f1
   rw [q10] at f2
   rw [q11] at f3
   rw [q12, q13] at f4
   rw [q11, q12, q13] at f5 f6
   rw [q14] at f7 f8
   rw [f1, f2, f3, f4, f5, f6, f7, f8, s10, s11]
   exact ⟨s1, s2, s3, s4, rfl, rfl, rfl, rfl, rfl, s5, rfl, s6, s7, s8, rfl, λ i _ => by rw [s9], λ _ _ => rfl, rfl⟩
 ·exact h.elim
end Go.Proofs.Sz

namespace Go.Proofs.Sz
open Go Go.Am Go.SP
theorem vSame5 (a b : List (Bs × Bs)) (inv : Nat -> Prop) (R : AV -> List LObj -> Prop) : (vcA false false 0 [] Tryz.prog (mkTab []) (optC (Tryz.f58.body.getD .skip)) ([.loop 4 Nat inv (λ i => ⟨slotsOf 31 0 [(2, .ptr 0
 0 0 0), (3, .ptr 1 0 0 0), (5, nm i)], [.box 52 [mapAV a], .box 52 [mapAV b]]⟩) (λ i => a.length - i) (λ _ => [])]) (finalK Tryz.prog Tryz.f58 (R)) (startSt Tryz.f58 ([.agg [mapAV a], .agg [mapAV b]]))) = (let Q1 :=
 (True /\ 0 = 0 /\ 0 = 0 /\ 0 = 0); let Q0 := ((52 = 52 /\ (2 = 2 /\ a.length = a.length /\ ∀ i < a.length, rowF a i = rowF a i) /\ True) /\ (52 = 52 /\ (2 = 2 /\ b.length = b.length /\ ∀ i < b.length, rowF b i = rowF b
 i) /\ True) /\ True); True /\ True /\ (((a.length : Int) != (b.length : Int)) = true -> (True /\ True) /\ True /\ R (bl false) []) /\ (((a.length : Int) != (b.length : Int)) = false -> (∃ (x : Nat), (Q1 /\ Q1 /\ (0 :
 Int) = (x : Int) /\ True) /\ Q0 /\ inv x) /\ ∀ (x : Nat), let Q4 := ((0 : Int) <= (x : Int) /\ (x : Int) + 1 <= (b.length : Int)); let Q3 := ((0 : Int) <= (x : Int) /\ (x : Int) + 1 <= (a.length : Int)); let Q2 :=
 (! ((bs (a.getD (x : Int).toNat ([], [])).1).toList == (bs (b.getD (x : Int).toNat ([], [])).1).toList && ((bs (a.getD (x : Int).toNat ([], [])).2).toList == (bs (b.getD (x : Int).toNat ([], [])).2).toList &&
 true))); inv x -> (decide ((x : Int) < (a.length : Int)) = true -> Q3 /\ Q3 /\ Q4 /\ Q4 /\ (Q2 = true -> (True /\ True) /\ True /\ R (bl false) []) /\ (Q2 = false -> ∃ (y : Nat), (Q1 /\ Q1 /\ k64Q.wrap ((x : Int) + 1)
 = (y : Int) /\ True) /\ Q0 /\ inv y /\ (a.length - y).succ.le (a.length - x))) /\ (decide ((x : Int) < (a.length : Int)) = false -> (True /\ True) /\ True /\ R (bl true) []))) := by kernel_rfl
theorem vSameEdit5 (a b : List (Bs × Bool × Bs)) (inv : Nat -> Prop) (R : AV -> List LObj -> Prop) : (vcA false false 0 [] Tryz.prog (mkTab []) (optC (Tryz.f59.body.getD .skip)) ([.loop 4 Nat inv (λ i => ⟨slotsOf 31 0
 [(2, .ptr 0 0 0 0), (3, .ptr 1 0 0 0), (5, nm i)], [.box 45 [editAV a], .box 45 [editAV b]]⟩) (λ i => a.length - i) (λ _ => [])]) (finalK Tryz.prog Tryz.f59 (R)) (startSt Tryz.f59 ([.agg [editAV a], .agg [editAV
 b]]))) = (let Q1 := (True /\ 0 = 0 /\ 0 = 0 /\ 0 = 0); let Q0 := ((45 = 45 /\ (3 = 3 /\ a.length = a.length /\ ∀ i < a.length, chgF a i = chgF a i) /\ True) /\ (45 = 45 /\ (3 = 3 /\ b.length = b.length /\ ∀ i < b.length,
 chgF b i = chgF b i) /\ True) /\ True); True /\ True /\ (((a.length : Int) != (b.length : Int)) = true -> (True /\ True) /\ True /\ R (bl false) []) /\ (((a.length : Int) != (b.length : Int)) = false -> (∃ (x : Nat),
 (Q1 /\ Q1 /\ (0 : Int) = (x : Int) /\ True) /\ Q0 /\ inv x) /\ ∀ (x : Nat), let Q6 := ((0 : Int) <= (x : Int) /\ (x : Int) + 1 <= (b.length : Int)); let Q5 := ((0 : Int) <= (x : Int) /\ (x : Int) + 1 <= (↑a.length
 : Int)); let Q4 := (b.getD (x : Int).toNat ([], false, [])); let Q3 := (a.getD (x : Int).toNat ([], false, [])); let Q2 := (! ((bs Q3.1).toList == (bs Q4.1).toList && (Q3.2.1 == Q4.2.1 && ((bs Q3.2.2).toList == (bs
 Q4.2.2).toList && true)))); inv x -> (decide ((x : Int) < (a.length : Int)) = true -> Q5 /\ Q5 /\ Q6 /\ Q6 /\ (Q2 = true -> (True /\ True) /\ True /\ R (bl false) []) /\ (Q2 = false -> ∃ (y : Nat), (Q1 /\ Q1 /\
 k64Q.wrap ((x : Int) + 1) = (y : Int) /\ True) /\ Q0 /\ inv y /\ (a.length - y).succ.le (a.length - x))) /\ (decide ((x : Int) < (a.length : Int)) = false -> (True /\ True) /\ True /\ R (bl true) []))) := by
 kernel_rfl
theorem vSameEvR (a b : Ev) (inv inv2 : Nat -> Prop) (R : AV -> List LObj -> Prop) : (vcA false false 0 [] Tryz.prog (mkTab [(58, .lend TSameMap), (59, .lend TSameEdit)]) (optC (Tryz.f29.body.getD .skip)) ([.loop 4 Nat
 inv (λ i => ⟨slotsOf 179 0 [(2, .ptr 0 0 0 0), (3, .ptr 1 0 0 0), (41, nm a.keep.length), (42, nm i)], [.box tyEv a.cells, .box tyEv b.cells]⟩) (λ i => a.keep.length - i) (λ _ => []), .loop 10 Nat inv2 (λ i =>
 ⟨slotsOf 179 0 [(2, .ptr 0 0 0 0), (3, .ptr 1 0 0 0), (60, nm a.conf.length), (61, nm i)], [.box tyEv a.cells, .box tyEv b.cells]⟩) (λ i => a.conf.length - i) (λ _ => [])]) (finalK Tryz.prog Tryz.f29 (R)) (startSt
 Tryz.f29 ([a.av, b.av]))) = (let Q26 := (AV.rows 2 b.map.length (rowF b.map)); let Q25 := (AV.rows 2 a.map.length (rowF a.map)); let Q24 := (↑b.conf.length : Int); let Q23 := (↑b.keep.length : Int); let Q22 := (AV.rows 3
 b.edit.length (chgF b.edit)); let Q21 := (AV.rows 3 a.edit.length (chgF a.edit)); let Q20 := (List.range (32 : Nat)); let Q19 := (k8Q = k8Q /\ 32 = 32 /\ ∀ i < 32, b.new i = b.new i); let Q18 := (k8Q = k8Q /\ 32 = 32 /\
 ∀ i < 32, b.old i = b.old i); let Q17 := (k8Q = k8Q /\ 32 = 32 /\ ∀ i < 32, a.new i = a.new i); let Q16 := (k8Q = k8Q /\ 32 = 32 /\ ∀ i < 32, a.old i = a.old i); let Q15 := (gEq false true = false -> true = true /\ (True
 /\ True) /\ True /\ R (bl false) []); let Q14 := (↑a.conf.length : Int); let Q13 := (↑a.keep.length : Int); let Q12 := (2 = 2 /\ b.map.length = b.map.length /\ ∀ i < b.map.length, rowF b.map i = rowF b.map i); let Q11 :=
 (2 = 2 /\ a.map.length = a.map.length /\ ∀ i < a.map.length, rowF a.map i = rowF a.map i); let Q10 := (3 = 3 /\ b.edit.length = b.edit.length /\ ∀ i < b.edit.length, chgF b.edit i = chgF b.edit i); let Q9 := (1 = 1 /\
 b.conf.length = b.conf.length /\ ∀ i < b.conf.length, intF b.conf i = intF b.conf i); let Q8 := (3 = 3 /\ a.edit.length = a.edit.length /\ ∀ i < a.edit.length, chgF a.edit i = chgF a.edit i); let Q7 := (1 = 1 /\
 a.conf.length = a.conf.length /\ ∀ i < a.conf.length, intF a.conf i = intF a.conf i); let Q6 := (1 = 1 /\ b.keep.length = b.keep.length /\ ∀ i < b.keep.length, boolF b.keep i = boolF b.keep i); let Q5 := (1 = 1 /\
 a.keep.length = a.keep.length /\ ∀ i < a.keep.length, boolF a.keep i = boolF a.keep i); let Q4 := (True /\ 0 = 0 /\ 0 = 0 /\ 0 = 0); let Q2 := (gEq false true = true -> ∃ (a_9 : List (Bs × Bool × Bs)), ∃ (b_1 : List (Bs
 × Bool × Bs)), (IsEdit Q21 a_9 /\ IsEdit Q22 b_1) /\ true = true /\ (True /\ True) /\ True /\ R (bl (bif true then a_9 == b_1 else false)) []); let Q1 := (bif bif bif bif bif bif bif bif bif bif bif a.ck == b.ck then
 a.client == b.client else false then a.seq == b.seq else false then (bs a.cbranch).toList == (bs b.cbranch).toList else false then Q20.all λ (i : Nat) => a.old i == b.old i else false then Q20.all λ (i : Nat) =>
 a.new i == b.new i else false then a.kind == b.kind else false then a.node == b.node else false then a.to == b.to else false then a.n == b.n else false then (bs a.branch).toList == (bs b.branch).toList else false then
 a.author == b.author && ((bs a.note).toList == (bs b.note).toList && true) else false); let Q3 := (gEq Q1 true = true -> ∃ (a_8 : List (Bs × Bs)), ∃ (b_1 : List (Bs × Bs)), (IsMap Q25 a_8 /\ IsMap Q26 b_1) /\ true = true
 /\ (gEq (bif true then a_8 == b_1 else false) true = true -> ∃ (a_10 : List (Bs × Bool × Bs)), ∃ (b_2 : List (Bs × Bool × Bs)), (IsEdit Q21 a_10 /\ IsEdit Q22 b_2) /\ true = true /\ (True /\ True) /\ True /\ R (bl (bif
 true then a_10 == b_2 else false)) []) /\ (gEq (bif true then a_8 == b_1 else false) true = false -> true = true /\ (True /\ True) /\ True /\ R (bl false) [])); let Q0 := ((62 = 62 /\ a.kind = a.kind /\ a.node = a.node
 /\ a.to = a.to /\ a.n = a.n /\ Q5 /\ Q7 /\ bs a.branch = bs a.branch /\ Q11 /\ Q8 /\ a.author = a.author /\ bs a.note = bs a.note /\ a.ck = a.ck /\ a.client = a.client /\ a.seq = a.seq /\ bs a.cbranch = bs a.cbranch /\
 Q16 /\ Q17 /\ (1 = 1 /\ a.data.length = a.data.length /\ ∀ i < a.data.length, byteF (bs a.data) i = byteF (bs a.data) i) /\ True) /\ (62 = 62 /\ b.kind = b.kind /\ b.node = b.node /\ b.to = b.to /\ b.n = b.n /\ Q6 /\ Q9
 /\ bs b.branch = bs b.branch /\ Q12 /\ Q10 /\ b.author = b.author /\ bs b.note = bs b.note /\ b.ck = b.ck /\ b.client = b.client /\ b.seq = b.seq /\ bs b.cbranch = bs b.cbranch /\ Q18 /\ Q19 /\ (1 = 1 /\ b.data.length =
 b.data.length /\ ∀ i < b.data.length, byteF (bs b.data) i = byteF (bs b.data) i) /\ True) /\ True); True /\ True /\ (gEq (bif Q13 != Q23 then true else Q14 != Q24) false = true -> True /\ ∃ (bs : ByteArray), let Q28 :=
 (bif bif bif bif bif bif bif bif bif bif bif a.ck == b.ck then a.client == b.client else false then a.seq == b.seq else false then (SP.bs a.cbranch).toList == (SP.bs b.cbranch).toList else false then Q20.all λ (i :
 Nat) => a.old i == b.old i else false then Q20.all λ (i : Nat) => a.new i == b.new i else false then a.kind == b.kind else false then a.node == b.node else false then a.to == b.to else false then a.n == b.n else false
 then (SP.bs a.branch).toList == (SP.bs b.branch).toList else false then a.author == b.author && ((SP.bs a.note).toList == (SP.bs b.note).toList && true) else false); let Q29 := (gEq Q28 true = true -> ∃ (a_8 : List (Bs ×
 Bs)), ∃ (b_1 : List (Bs × Bs)), (IsMap Q25 a_8 /\ IsMap Q26 b_1) /\ true = true /\ (gEq (bif true then a_8 == b_1 else false) true = true -> ∃ (a_10 : List (Bs × Bool × Bs)), ∃ (b_2 : List (Bs × Bool × Bs)), (IsEdit Q21
 a_10 /\ IsEdit Q22 b_2) /\ true = true /\ (True /\ True) /\ True /\ R (bl (bif true then a_10 == b_2 else false)) []) /\ (gEq (bif true then a_8 == b_1 else false) true = false -> true = true /\ (True /\ True) /\ True /\
 R (bl false) [])); let Q27 := ((62 = 62 /\ a.kind = a.kind /\ a.node = a.node /\ a.to = a.to /\ a.n = a.n /\ Q5 /\ Q7 /\ SP.bs a.branch = SP.bs a.branch /\ Q11 /\ Q8 /\ a.author = a.author /\ SP.bs a.note = SP.bs a.note
 /\ a.ck = a.ck /\ a.client = a.client /\ a.seq = a.seq /\ SP.bs a.cbranch = SP.bs a.cbranch /\ Q16 /\ Q17 /\ (1 = 1 /\ a.data.length = a.data.length /\ ∀ i < a.data.length, byteF (SP.bs a.data) i = byteF (SP.bs a.data)
 i) /\ True) /\ (62 = 62 /\ b.kind = b.kind /\ b.node = b.node /\ b.to = b.to /\ b.n = b.n /\ Q6 /\ Q9 /\ SP.bs b.branch = SP.bs b.branch /\ Q12 /\ Q10 /\ b.author = b.author /\ SP.bs b.note = SP.bs b.note /\ b.ck = b.ck
 /\ b.client = b.client /\ b.seq = b.seq /\ SP.bs b.cbranch = SP.bs b.cbranch /\ Q18 /\ Q19 /\ (1 = 1 /\ b.data.length = b.data.length /\ ∀ i < b.data.length, byteF (SP.bs b.data) i = byteF (SP.bs b.data) i) /\ True) /\
 True); bs.size = a.data.length /\ (∀ i < a.data.length, AV.pl (Value.int k8Q (↑ ((SP.bs a.data).data.toList.getD i (0 : UInt8)).toNat : Int)) = AV.pl (Value.int k8Q (↑ (bs.data.toList.getD i (0 : UInt8)).toNat : Int)))
 /\ True /\ ∃ (bs_1 : ByteArray), bs_1.size = b.data.length /\ (∀ i < b.data.length, AV.pl (Value.int k8Q (↑ ((SP.bs b.data).data.toList.getD i (0 : UInt8)).toNat : Int)) = AV.pl (Value.int k8Q (↑ (bs_1.data.toList.getD i
 (0 : UInt8)).toNat : Int))) /\ true = true /\ ((bif false then true else !bs.toList == bs_1.toList) = true -> (True /\ True) /\ True /\ R (bl false) []) /\ ((bif false then true else !bs.toList == bs_1.toList) = false ->
 (∃ (x : Nat), (Q4 /\ Q4 /\ Q13 = Q13 /\ (0 : Int) = (x : Int) /\ True) /\ Q27 /\ inv x) /\ ∀ (x : Nat), let Q30 := (!a.keep.getD (x : Int).toNat false == b.keep.getD (x : Int).toNat false); inv x -> (decide ((↑x :
 Int) < Q13) = true -> ((0 : Int) <= (x : Int) /\ (x : Int) + 1 <= Q13) /\ ((0 : Int) <= (x : Int) /\ (x : Int) + 1 <= Q13) /\ ((0 : Int) <= (x : Int) /\ (x : Int) + 1 <= Q23) /\ ((0 : Int) <= (x : Int) /\ (↑x :
 Int) + 1 <= Q23) /\ (Q30 = true -> (True /\ True) /\ True /\ R (bl false) []) /\ (Q30 = false -> ∃ (y : Nat), (Q4 /\ Q4 /\ Q13 = Q13 /\ k64Q.wrap ((x : Int) + 1) = (y : Int) /\ True) /\ Q27 /\ inv y /\ (a.keep.length -
 y).succ.le (a.keep.length - x))) /\ (decide ((x : Int) < Q13) = false -> (∃ (x : Nat), (Q4 /\ Q4 /\ Q14 = Q14 /\ (0 : Int) = (x : Int) /\ True) /\ Q27 /\ inv2 x) /\ ∀ (x : Nat), let Q31 := (a.conf.getD (x : Int).toNat
 (0 : Int) != b.conf.getD (x : Int).toNat (0 : Int)); inv2 x -> (decide ((x : Int) < Q14) = true -> ((0 : Int) <= (x : Int) /\ (x : Int) + 1 <= Q14) /\ ((0 : Int) <= (x : Int) /\ (x : Int) + 1 <= Q14) /\ ((0 : Int)
 <= (x : Int) /\ (x : Int) + 1 <= Q24) /\ ((0 : Int) <= (x : Int) /\ (x : Int) + 1 <= Q24) /\ (Q31 = true -> (True /\ True) /\ True /\ R (bl false) []) /\ (Q31 = false -> ∃ (y : Nat), (Q4 /\ Q4 /\ Q14 = Q14 /\
 k64Q.wrap ((x : Int) + 1) = (y : Int) /\ True) /\ Q27 /\ inv2 y /\ (a.conf.length - y).succ.le (a.conf.length - x))) /\ (decide ((x : Int) < Q14) = false -> (True /\ True /\ True /\ True /\ Q29 /\ (gEq Q28 true =
 false -> true = true /\ Q2 /\ Q15)) /\ True /\ True /\ True /\ True /\ Q29 /\ (gEq Q28 true = false -> true = true /\ Q2 /\ Q15))))) /\ (gEq (bif Q13 != Q23 then true else Q14 != Q24) false = false -> true = true /\
 (true = true -> (True /\ True) /\ True /\ R (bl false) []) /\ (true = false -> (∃ (x : Nat), (Q4 /\ Q4 /\ Q13 = Q13 /\ (0 : Int) = (x : Int) /\ True) /\ Q0 /\ inv x) /\ ∀ (x : Nat), let Q32 := (!a.keep.getD (↑x :
 Int).toNat false == b.keep.getD (x : Int).toNat false); inv x -> (decide ((x : Int) < Q13) = true -> ((0 : Int) <= (x : Int) /\ (x : Int) + 1 ≤ Q13) /\ ((0 : Int) <= (x : Int) /\ (x : Int) + 1 <= Q13) /\ ((0 : Int)
 <= (x : Int) /\ (x : Int) + 1 ≤ Q23) /\ ((0 : Int) <= (x : Int) /\ (x : Int) + 1 <= Q23) /\ (Q32 = true -> (True /\ True) /\ True /\ R (bl false) []) /\ (Q32 = false -> ∃ (y : Nat), (Q4 /\ Q4 /\ Q13 = Q13 /\
 k64Q.wrap ((x : Int) + 1) = (y : Int) /\ True) /\ Q0 /\ inv y /\ (a.keep.length - y).succ.le (a.keep.length - x))) /\ (decide ((x : Int) < Q13) = false -> (∃ (x : Nat), (Q4 /\ Q4 /\ Q14 = Q14 /\ (0 : Int) = (x : Int)
 /\ True) /\ Q0 /\ inv2 x) /\ ∀ (x : Nat), let Q33 := (a.conf.getD (x : Int).toNat (0 : Int) != b.conf.getD (x : Int).toNat (0 : Int)); inv2 x -> (decide ((x : Int) < Q14) = true -> ((0 : Int) <= (x : Int) /\ (↑x :
 Int) + 1 <= Q14) /\ ((0 : Int) <= (x : Int) /\ (x : Int) + 1 ≤ Q14) /\ ((0 : Int) <= (x : Int) /\ (x : Int) + 1 <= Q24) /\ ((0 : Int) <= (x : Int) /\ (x : Int) + 1 ≤ Q24) /\ (Q33 = true -> (True /\ True) /\ True /\
 R (bl false) []) /\ (Q33 = false -> ∃ (y : Nat), (Q4 /\ Q4 /\ Q14 = Q14 /\ k64Q.wrap ((x : Int) + 1) = (y : Int) /\ True) /\ Q0 /\ inv2 y /\ (a.conf.length - y).succ.le (a.conf.length - x))) /\ (decide ((x : Int) <
 Q14) = false -> (True /\ True /\ True /\ True /\ Q3 /\ (gEq Q1 true = false -> true = true /\ Q2 /\ Q15)) /\ True /\ True /\ True /\ True /\ Q3 /\ (gEq Q1 true = false -> true = true /\ Q2 /\ Q15)))))) := by kernel_rfl
theorem vSameScR (a b c d e f : Int) (l m : List Ev) (inv : Nat -> Prop) (R : AV -> List LObj -> Prop) : (vcA false false 0 [] Tryz.prog (mkTab [(29, .lend TSameEv)]) (optC (Tryz.f12.body.getD .skip)) ([.loop 4 Nat inv
 (λ i => ⟨slotsOf 39 0 [(2, .ptr 0 0 0 0), (3, .ptr 1 0 0 0), (22, nm l.length), (23, nm i)], [.box tySc [nm a, nm b, nm c, evsAV l], .box tySc [nm d, nm e, nm f, evsAV m]]⟩) (λ i => l.length - i) (λ _ => [])])
 (finalK Tryz.prog Tryz.f12 (R)) (startSt Tryz.f12 ([.agg [nm a, nm b, nm c, evsAV l], .agg [nm d, nm e, nm f, evsAV m]]))) = (let Q2 := (True /\ 0 = 0 /\ 0 = 0 /\ 0 = 0); let Q1 := (bif ! (a == d && (b == e && (c == f &&
 true))) then true else (l.length : Int) != (m.length : Int)); let Q0 := ((28 = 28 /\ a = a /\ b = b /\ c = c /\ (80 = 80 /\ l.length = l.length /\ ∀ i < l.length, evF l i = evF l i) /\ True) /\ (28 = 28 /\ d = d /\ e =
 e /\ f = f /\ (80 = 80 /\ m.length = m.length /\ ∀ i < m.length, evF m i = evF m i) /\ True) /\ True); True /\ True /\ (Q1 = true -> (True /\ True) /\ True /\ R (bl false) []) /\ (Q1 = false -> (∃ (x : Nat), (Q2 /\ Q2 /\
 (l.length : Int) = (l.length : Int) /\ (0 : Int) = (x : Int) /\ True) /\ Q0 /\ inv x) /\ ∀ (x : Nat), let Q4 := ((0 : Int) <= (x : Int) /\ (x : Int) + 1 <= (m.length : Int)); let Q3 := ((0 : Int) <= (x : Int) /\
 (x : Int) + 1 <= (l.length : Int)); inv x -> (decide ((x : Int) < (l.length : Int)) = true -> Q3 /\ Q3 /\ Q4 /\ Q4 /\ ∃ (a_4 : Ev), ∃ (b_1 : Ev), (IsEv ((evAt l (x : Int).toNat).av) a_4 /\ IsEv ((evAt m (↑x :
 Int).toNat).av) b_1) /\ ((!sameE a_4 b_1) = true -> (True /\ True) /\ True /\ R (bl false) []) /\ ((!sameE a_4 b_1) = false -> ∃ (y : Nat), (Q2 /\ Q2 /\ (l.length : Int) = (l.length : Int) /\ k64Q.wrap ((x : Int) + 1)
 = (y : Int) /\ True) /\ Q0 /\ inv y /\ (l.length - y).succ.le (l.length - x))) /\ (decide ((x : Int) < (l.length : Int)) = false -> (True /\ True) /\ True /\ R (bl true) []))) := by kernel_rfl
end Go.Proofs.Sz

namespace Go.Proofs.Sz
open Go Go.Am Go.SP
theorem vCloneB (l : List Bool) (R : AV -> List LObj -> Prop) : (vcA false false 0 [] Tryz.prog (mkTab []) (optC (Tryz.f35.body.getD .skip)) ([]) (finalK Tryz.prog Tryz.f35 (λ y H => ∃ _ : Unit, leSt 0 ⟨[y], H⟩ ⟨[.own
 0 0 l.length], [.row 1 tyCB l.length (boolF l)]⟩ (R (.own 0 0 l.length) [.row 1 tyCB l.length (boolF l)]))) (startSt Tryz.f35 ([.rows 1 l.length (boolF l)]))) = (∀ (b : Bool), ((0 : Nat) < l.length -> b = false) -> (b =
 true -> (True /\ True) /\ True /\ ∃ (x : Unit), ((True /\ True /\ 0 = 0 /\ l.length = 0) /\ True) /\ (l.length = 0 /\ True) /\ R (AV.own 0 0 l.length) [LObj.row 1 4 l.length (boolF l)]) /\ (b = false -> True /\ (True /\
 l.length.le maxLen /\ (l.length * 1).le (140737488355328 : Nat)) /\ (True /\ True) /\ True /\ ∃ (x : Unit), ((True /\ 0 = 0 /\ l.length = l.length) /\ True) /\ ((1 = 1 /\ 4 = 4 /\ l.length.le l.length /\ ∀ i < l.length,
 boolF l i = boolF l i) /\ True) /\ R (AV.own 0 0 l.length) [LObj.row 1 4 l.length (boolF l)])) := by kernel_rfl
theorem vCloneI (l : List Int) (R : AV -> List LObj -> Prop) : (vcA false false 0 [] Tryz.prog (mkTab []) (optC (Tryz.f36.body.getD .skip)) ([]) (finalK Tryz.prog Tryz.f36 (λ y H => ∃ _ : Unit, leSt 0 ⟨[y], H⟩ ⟨[.own 0
 0 l.length], [.row 1 tyCI l.length (intF l)]⟩ (R (.own 0 0 l.length) [.row 1 tyCI l.length (intF l)]))) (startSt Tryz.f36 ([.rows 1 l.length (intF l)]))) = (∀ (b : Bool), ((0 : Nat) < l.length -> b = false) -> (b = true
 -> (True /\ True) /\ True /\ ∃ (x : Unit), ((True /\ True /\ 0 = 0 /\ l.length = 0) /\ True) /\ (l.length = 0 /\ True) /\ R (AV.own 0 0 l.length) [LObj.row 1 3 l.length (intF l)]) /\ (b = false -> True /\ (True /\
 l.length.le maxLen /\ (l.length * 8).le (140737488355328 : Nat)) /\ (True /\ True) /\ True /\ ∃ (x : Unit), ((True /\ 0 = 0 /\ l.length = l.length) /\ True) /\ ((1 = 1 /\ 3 = 3 /\ l.length.le l.length /\ ∀ i < l.length,
 intF l i = intF l i) /\ True) /\ R (AV.own 0 0 l.length) [LObj.row 1 3 l.length (intF l)])) := by kernel_rfl
theorem vCloneR (l : List (Bs × Bs)) (R : AV -> List LObj -> Prop) : (vcA false false 0 [] Tryz.prog (mkTab []) (optC (Tryz.f37.body.getD .skip)) ([]) (finalK Tryz.prog Tryz.f37 (λ y H => ∃ _ : Unit, leSt 0 ⟨[y], H⟩
 ⟨[.own 0 0 l.length], [.row 2 tyCR l.length (rowF l)]⟩ (R (.own 0 0 l.length) [.row 2 tyCR l.length (rowF l)]))) (startSt Tryz.f37 ([.rows 2 l.length (rowF l)]))) = (∀ (b : Bool), ((0 : Nat) < l.length -> b = false) ->
 (b = true -> (True /\ True) /\ True /\ ∃ (x : Unit), ((True /\ True /\ 0 = 0 /\ l.length = 0) /\ True) /\ (l.length = 0 /\ True) /\ R (AV.own 0 0 l.length) [LObj.row 2 96 l.length (rowF l)]) /\ (b = false -> True /\
 (True /\ l.length.le maxLen /\ (l.length * 32).le (140737488355328 : Nat)) /\ (True /\ True) /\ True /\ ∃ (x : Unit), ((True /\ 0 = 0 /\ l.length = l.length) /\ True) /\ ((2 = 2 /\ 96 = 96 /\ l.length.le l.length /\ ∀ i
 < l.length, rowF l i = rowF l i) /\ True) /\ R (AV.own 0 0 l.length) [LObj.row 2 96 l.length (rowF l)])) := by kernel_rfl
theorem vCloneC (l : List (Bs × Bool × Bs)) (R : AV -> List LObj -> Prop) : (vcA false false 0 [] Tryz.prog (mkTab []) (optC (Tryz.f38.body.getD .skip)) ([]) (finalK Tryz.prog Tryz.f38 (λ y H => ∃ _ : Unit, leSt 0
 ⟨[y], H⟩ ⟨[.own 0 0 l.length], [.row 3 tyCC l.length (chgF l)]⟩ (R (.own 0 0 l.length) [.row 3 tyCC l.length (chgF l)]))) (startSt Tryz.f38 ([.rows 3 l.length (chgF l)]))) = (∀ (b : Bool), ((0 : Nat) < l.length -> b =
 false) -> (b = true -> (True /\ True) /\ True /\ ∃ (x : Unit), ((True /\ True /\ 0 = 0 /\ l.length = 0) /\ True) /\ (l.length = 0 /\ True) /\ R (AV.own 0 0 l.length) [LObj.row 3 64 l.length (chgF l)]) /\ (b = false ->
 True /\ (True /\ l.length.le maxLen /\ (l.length * 40).le (140737488355328 : Nat)) /\ (True /\ True) /\ True /\ ∃ (x : Unit), ((True /\ 0 = 0 /\ l.length = l.length) /\ True) /\ ((3 = 3 /\ 64 = 64 /\ l.length.le l.length
 /\ ∀ i < l.length, chgF l i = chgF l i) /\ True) /\ R (AV.own 0 0 l.length) [LObj.row 3 64 l.length (chgF l)])) := by kernel_rfl
theorem vShort (l : Bs) (R : AV -> List LObj -> Prop) : (vcA false false 0 [] Tryz.prog (mkTab []) (optC (Tryz.f39.body.getD .skip)) ([]) (finalK Tryz.prog Tryz.f39 (R)) (startSt Tryz.f39 ([sl l]))) = (let Q0 := (if
 (1025 : Int) < (↑ l.length : Int) then (1025 : Int) else (↑ l.length : Int)); ((0 : Int) <= 0 /\ ((0 : Int) <= if (1025 : Int) < (↑ l.length : Int) then (1025 : Int) else (↑ l.length : Int)) /\ Q0 <= (↑ l.length : Int))
 /\ (True /\ True) /\ True /\ R (AV.pl (Value.string ((bs l).extract (Int.toNat 0) Q0.toNat))) []) := by kernel_rfl
end Go.Proofs.Sz

namespace Go.Proofs.Sz
open Go Go.Am Go.SP
theorem vWakes (R : AV -> List LObj -> Prop) : (vcA false false 0 [] Tryz.prog (mkTab [(15, .lend TJoin), (14, .lend TParse), (8, .lend TPrint), (16, .lend TEqBool)]) (optC (Tryz.f6.body.getD .skip)) ([]) (finalK
 Tryz.prog Tryz.f6 (R)) (startSt Tryz.f6 ([]))) = (let Q1 := (ByteArray.mk #[49, 10]); let Q0 := (-9223372036854775808 : Int); True /\ (((0 : Nat) + 5).le (5 : Nat) /\ True /\ True) /\ ∃ (ls : List
 Bs), let Q6 := (Lib.join ls ([10] : Bs)); let Q5 := (parseR (bs Q6 ++ ByteArray.mk #[115, 111, 10]).data.toList); let Q2 := (parseR Q6); let Q9 := (evAt Q2.1.evs (Int.toNat 0)); let Q8 := (↑
 Q2.1.evs.length : Int); let Q7 := (bif bif Q2.2.2 != 0 then true else (↑ Q2.2.1 : Int) != 0 then true else Q8 != k64Q.wrap ((↑ (5 : Nat) : Int) - 2)); let Q4 := (↑ Q9.edit.length : Int); let Q3 := (Q9.edit.getD
 (Int.toNat 0) ([], false, [])); (IsTexts (AV.rows 1 5 λ (i : Nat) => rowOf [((0 : Nat), AV.pl (Value.string (ByteArray.mk #[119, 111, 114, 108, 100, 32, 49, 32, 49, 32, 51, 48, 48]))), ((1 : Nat), AV.pl (Value.string (ByteArray.mk #[99, 111, 109, 109, 105,
 116, 32, 54, 32, 55, 32, 34, 109, 34, 32, 34, 34, 32, 34, 97, 34, 32, 34, 49, 92, 110, 34, 32, 34, 98, 34, 32, 45]))), ((2 : Nat), AV.pl (Value.string
 (ByteArray.mk #[99, 104, 97, 110, 103, 101, 32, 49, 32, 49, 32, 50]))), ((3 : Nat), AV.pl
 (Value.string (ByteArray.mk #[99, 114, 97, 115, 104, 32, 54, 32, 61, 49, 48]))), ((4 : Nat), AV.pl
 (Value.string (ByteArray.mk #[])))] ((0 : Nat) + i)) ls /\ (Nat.succ (0 : Nat)).le ls.length /\ ls.length.le (1000 : Nat) /\ Q6.length.le (1000000 : Nat)) /\ True /\ True /\ True /\ True /\ (Q7 = true -> (True /\ True)
 /\ True /\ R (bl false) []) /\ (Q7 = false -> ((0 : Int) <= 0 /\ (0 : Int) + 1 <= Q8) /\ ((0 : Int) <= 0 /\ (0 : Int) + 1 <= Q8) /\ ((0 : Int) <= 2 /\ (2 : Int) + 1 <= Q8) /\ ((0 : Int) <= 2 /\ (2 : Int) + 1 <= Q8) /\ ∃
 (l : List Ev), let Q10 := (printR (Sc.mk Q2.1.servers Q2.1.clients Q2.1.area l)); let Q11 := (bif bif bif bif bif Q10.2 == 0 then (bs Q10.1).toList == (bs Q6).toList else false then Q4 == 2 else false then Q3.2.1 else
 false then (bs Q3.2.2).toList == Q1.toList else false then ! (Q9.edit.getD (Int.toNat 1) ([], false, [])).2.1 else false); (IsEvs (AV.rows 80 Q2.1.evs.length (evF Q2.1.evs)) l /\ (Q0 <= Q2.1.servers /\ Q2.1.servers <=
 9223372036854775807) /\ (Q0 <= Q2.1.clients /\ Q2.1.clients <= 9223372036854775807) /\ (Q0 <= Q2.1.area /\ Q2.1.area <= 9223372036854775807) /\ ∀ (e : Ev), e ∈ l -> (Q0 <= e.kind /\ e.kind <= 9223372036854775807) /\ (Q0
 <= e.node /\ e.node <= 9223372036854775807) /\ (Q0 <= e.to /\ e.to <= 9223372036854775807) /\ (Q0 <= e.n /\ e.n <= 9223372036854775807) /\ (∀ (x : Int), x ∈ e.conf -> Q0 <= x /\ x <= 9223372036854775807) /\ (Q0 <= e.ck
 /\ e.ck <= 9223372036854775807) /\ ((0 : Int) <= e.author /\ e.author + 1 <= 4294967296) /\ ∀ i < 32, (0 : Int) <= e.new i /\ e.new i + 1 <= 256) /\ ((List.length Q6) + (ByteArray.mk #[115, 111, 10]).size).le (9223372036854775807 : Nat) /\ True /\ True /\ (gEq (bif bif Q10.2 == 0 then (bs Q10.1).toList == (bs Q6).toList else false then Q4 == 2 else false) true = true -> ((0 : Int) <= 0 /\ (0 : Int) + 1 <=
 Q4) /\ True) /\ (gEq (bif bif bif Q10.2 == 0 then (bs Q10.1).toList == (bs Q6).toList else false then Q4 == 2 else false then Q3.2.1 else false) true = true -> ((0 : Int) <= 0 /\ (0 : Int) + 1 <= Q4) /\ True) /\ (gEq
 (bif bif bif bif Q10.2 == 0 then (bs Q10.1).toList == (bs Q6).toList else false then Q4 == 2 else false then Q3.2.1 else false then (bs Q3.2.2).toList == Q1.toList else false) true = true -> ((0 : Int) <= 1 /\ (1 : Int)
 + 1 <= Q4) /\ True) /\ (gEq Q11 true = true -> True /\ (True /\ ((0 : Nat) + 2).le (2 : Nat) /\ True) /\ ∃ (a : List Bool), ∃ (b : List Bool), (IsBools (AV.rows 1 (evAt Q2.1.evs (Int.toNat 2)).keep.length (boolF (evAt
 Q2.1.evs (Int.toNat 2)).keep)) a /\ IsBools (AV.rows 1 2 λ (i : Nat) => rowOf [((0 : Nat), bl true), ((1 : Nat), bl false)] ((0 : Nat) + i)) b) /\ True /\ True /\ true = true /\ (True /\ True) /\ True /\ R (bl (bif bif
 bif true then a == b else false then Q5.2.2 == 360 else false then (↑ Q5.2.1 : Int) == (List.length Q6 : Int) else false)) []) /\ (gEq Q11 true = false -> true = true /\ (True /\ True) /\ True /\ R (bl (bif bif false
 then Q5.2.2 == 360 else false then (↑ Q5.2.1 : Int) == (List.length Q6 : Int) else false)) []))) := by kernel_rfl
theorem vNum (n : Int) (inv : Nat × Bs -> Prop) (R : AV -> List LObj -> Prop) : (vcA false false 0 [] Tryz.prog (mkTab []) (optC (Tryz.f27.body.getD .skip)) ([.loop 5 (Nat × Bs) inv (λ x => ⟨slotsOf 27 0 [(0, nm n),
 (3, .pl (.int .u64 x.1)), (4, sl x.2)], []⟩) (λ x => x.1) (λ _ => [])]) (finalK Tryz.prog Tryz.f27 (R)) (startSt Tryz.f27 ([nm n]))) = (let Q1 := (9223372036854775807 : Nat); let Q0 := (Int.ofNat (nat_lit 9 + 1));
 (decide (n < 0) = true -> (∃ (x : Nat × Bs), (n = n /\ IntKind.u64.wrap ((0 : Int) - IntKind.u64.wrap n) = (↑x.1 : Int) /\ ByteArray.mk #[] = bs x.2 /\ True) /\ True /\ inv x) /\ ∀ (x : Nat × Bs), let Q2 :=
 (IntKind.i32.wrap (IntKind.u64.wrap ((48 : Int) + (↑x.1 : Int).tmod Q0))); inv x -> ((Utf8.encode Q2).size + x.2.length).le Q1 /\ ((IntKind.u64.wrap ((↑x.1 : Int).tdiv Q0) == 0) = true -> (decide (n < 0) = true ->
 ((ByteArray.mk #[45]).size + (Utf8.encode Q2 ++ bs x.2).size).le Q1 /\ (True /\ True) /\ True /\ R (AV.pl (Value.string (ByteArray.mk #[45] ++ (Utf8.encode Q2 ++ bs x.2)))) []) /\ (decide (n < 0) =
 false -> (True /\ True) /\ True /\ R (AV.pl (Value.string (Utf8.encode Q2 ++ bs x.2))) [])) /\ ((IntKind.u64.wrap ((↑x.1 : Int).tdiv Q0) == 0) = false -> ∃ (y : Nat × Bs), (n = n /\ IntKind.u64.wrap ((↑x.1 : Int).tdiv
 Q0) = (↑y.1 : Int) /\ Utf8.encode Q2 ++ bs x.2 = bs y.2 /\ True) /\ True /\ inv y /\ y.1.succ.le x.1)) /\ (decide (n < 0) = false -> (∃ (x : Nat × Bs), (n = n /\ IntKind.u64.wrap n = (↑x.1 : Int) /\ ByteArray.mk #[] = bs
 x.2 /\ True) /\ True /\ inv x) /\ ∀ (x : Nat × Bs), let Q3 := (IntKind.i32.wrap (IntKind.u64.wrap ((48 : Int) + (↑x.1 : Int).tmod Q0))); inv x -> ((Utf8.encode Q3).size + x.2.length).le Q1 /\ ((IntKind.u64.wrap ((↑x.1 :
 Int).tdiv Q0) == 0) = true -> (decide (n < 0) = true -> ((ByteArray.mk #[45]).size + (Utf8.encode Q3 ++ bs x.2).size).le Q1 /\ (True /\ True) /\ True /\ R (AV.pl (Value.string (ByteArray.mk #[45] ++
 (Utf8.encode Q3 ++ bs x.2)))) []) /\ (decide (n < 0) = false -> (True /\ True) /\ True /\ R (AV.pl (Value.string (Utf8.encode Q3 ++ bs x.2))) [])) /\ ((IntKind.u64.wrap ((↑x.1 : Int).tdiv Q0) == 0) = false -> ∃ (y : Nat
 × Bs), (n = n /\ IntKind.u64.wrap ((↑x.1 : Int).tdiv Q0) = (↑y.1 : Int) /\ Utf8.encode Q3 ++ bs x.2 = bs y.2 /\ True) /\ True /\ inv y /\ y.1.succ.le x.1))) := by kernel_rfl
theorem vSign (c : Int) (R : AV -> List LObj -> Prop) : (vcA false false 0 [] Tryz.prog (mkTab []) (optC (Tryz.f74.body.getD .skip)) ([]) (finalK Tryz.prog Tryz.f74 (R)) (startSt Tryz.f74 ([.pl (.int .u8 c)]))) =
 ((decide (c < 10) = true -> (True /\ True) /\ True /\ R (AV.pl (Value.int k8Q (k8Q.wrap ((48 : Int) + c)))) []) /\ (decide (c < 10) = false -> (True /\ True) /\ True /\ R (AV.pl (Value.int k8Q (k8Q.wrap (k8Q.wrap ((97 :
 Int) + c) - 10)))) [])) := by kernel_rfl
theorem vIdT3 (f : Nat -> Int) (R : AV -> List LObj -> Prop) (inv : Nat -> Prop) : (vcA false false 0 [1] Tryz.prog (mkTab [(74, .lend TSign)]) (optC (Tryz.f57.body.getD .skip)) ([.loop 3 Nat inv (λ i => ⟨slotsOf 24 0
 [(1, .ptr 0 0 0 0), (3, .own 1 0 (2 * i)), (4, nm i)], [.box 57 [.iarr .u8 32 f], .row 1 tyU8 (2 * i) (byteF (bs (idTk f i)))]⟩) (λ i => 32 - i) (λ _ => [])]) (finalK Tryz.prog Tryz.f57 (R)) (startSt Tryz.f57 ([.agg
 [.iarr .u8 32 f]]))) = (let Q1 := (57 = 57 /\ (k8Q = k8Q /\ 32 = 32 /\ ∀ i < 32, f i = f i) /\ True); let Q0 := (Int.ofNat (nat_lit 15 + 1)); True /\ (∃ (x : Nat), ((True /\ 0 = 0 /\ 0 = 0 /\ 0 = 0) /\ (True /\ True /\ 0
 = 0 /\ (2 : Nat) * x = 0) /\ (0 : Int) = (x : Int) /\ True) /\ (Q1 /\ (2 : Nat) * x = 0 /\ True) /\ inv x) /\ ∀ (x : Nat), let Q3 := ((f (x : Int).toNat).tdiv Q0); let Q2 := ((0 : Int) <= (x : Int) /\ (x : Int) + 1
 <= (↑ (32 : Nat) : Int)); inv x -> (decide ((x : Int) < 32) = true -> Q2 /\ ((0 : Int) <= (x : Int) /\ (x : Int) + 1 ≤ (↑ (32 : Nat) : Int)) /\ (x : Int).toNat.succ.le (32 : Nat) /\ (x : Int).toNat.succ.le (32 :
 Nat) /\ Q2 /\ Q2 /\ (x : Int).toNat.succ.le (32 : Nat) /\ (x : Int).toNat.succ.le (32 : Nat) /\ ((0 : Int) <= k8Q.wrap Q3 /\ k8Q.wrap Q3 + 1 <= 16) /\ ((0 : Int) <= (f (x : Int).toNat).tmod Q0 /\ (f (↑x :
 Int).toNat).tmod Q0 + 1 <= 16) /\ True /\ (((0 : Nat) + 2).le (2 : Nat) /\ (2 : Nat) * x = 2 * x /\ ((2 : Nat) * x + 2).le maxLen /\ (((2 : Nat) * x + 2) * 1).le (140737488355328 : Nat)) /\ ∃ (y : Nat), ((True /\ 0 = 0
 /\ 0 = 0 /\ 0 = 0) /\ (True /\ 0 = 0 /\ (2 : Nat) * x + 2 = 2 * y) /\ k64Q.wrap ((x : Int) + 1) = (y : Int) /\ True) /\ (Q1 /\ (1 = 1 /\ 5 = 5 /\ ((2 : Nat) * y).le ((2 : Nat) * x + 2) /\ ∀ (i : Nat), i < 2 * y -> (if
 i < 2 * x then AV.pl (Value.int k8Q (↑ ((idTk f x).getD i (0 : UInt8)).toNat : Int)) else rowOf [((0 : Nat), AV.pl (Value.int k8Q (↑ (hexD (k8Q.wrap Q3).toNat).toNat : Int))), ((1 : Nat), AV.pl (Value.int k8Q (↑ (hexD
 ((f (x : Int).toNat).tmod Q0).toNat).toNat : Int)))] ((0 : Nat) + (i - 2 * x))) = AV.pl (Value.int k8Q (↑ ((idTk f y).getD i (0 : UInt8)).toNat : Int))) /\ True) /\ inv y /\ ((32 : Nat) - y).succ.le ((32 : Nat) - x)) /\
 (decide ((x : Int) < 32) = false -> ((0 : Nat) + 2 * x).le ((2 : Nat) * x) /\ ∃ (bs : ByteArray), bs.size = 2 * x /\ (∀ (i : Nat), i < 2 * x -> AV.pl (Value.int k8Q (↑ ((SP.bs (idTk f x)).data.toList.getD ((0 : Nat) +
 i) (0 : UInt8)).toNat : Int)) = AV.pl (Value.int k8Q (↑ (bs.data.toList.getD i (0 : UInt8)).toNat : Int))) /\ (True /\ True) /\ True /\ R (AV.pl (Value.string bs)) [])) := by kernel_rfl
end Go.Proofs.Sz

namespace Go.Proofs.Sz
open Go Go.Am Go.SP
theorem vLine1 (a b c : Int) (l : List Ev) (s : Bs) (q : Nat) (f : Nat -> AV) (R : AV -> List LObj -> Prop) : (vcA false false (List.length ([.box tySc [nm a, nm b, nm c, .own 1 0 l.length], .row 80 tyEv l.length f] :
 List LObj)) [0, 1, 2, 3] Tryz.prog (mkTab [(65, .hand tkR TBlank), (66, .hand tkN TNumbers), (67, .hand tkR TEvent)]) (optC (Tryz.f33.body.getD .skip)) ([]) (finalKH Tryz.prog Tryz.f33 (λ y H => ∃ _ : Unit, leSt 2
 ⟨[y], H⟩ ⟨[bl (lineR ⟨a, b, c, l⟩ s q).2], [scBox 2 (lineR ⟨a, b, c, l⟩ s q).1, .dead, rowE (lineR ⟨a, b, c, l⟩ s q).1.evs]⟩ (R (bl (lineR ⟨a, b, c, l⟩ s q).2) [scBox 2 (lineR ⟨a, b, c, l⟩ s q).1, .dead, rowE (lineR ⟨a,
 b, c, l⟩ s q).1.evs]))) (startStH Tryz.f33 ([.box tySc [nm a, nm b, nm c, .own 1 0 l.length], .row 80 tyEv l.length f]) ([.ptr 0 0 0 0, sl s, nm q]))) = (let Q4 := (((0 : Nat) + 1).le (1 : Nat) /\ l.length = l.length /\
 (l.length + 1).le maxLen /\ ((l.length + 1) * 296).le (140737488355328 : Nat)); let Q3 := (blankR (Rd.mk s false)); let Q5 := (numbersR (3 : Nat) Q3.2); let Q0 := (lineR (Sc.mk a b c l) s q); let Q2 := ((bif !bif (eventR
 Q3.1 Q3.2).2.bad then true else decide ((↑ (l.length + 1) : Int) > 300) then (bs (eventR Q3.1 Q3.2).2.rest).toList == (ByteArray.mk #[]).toList else false) = Q0.2 /\ True); let Q1 := ((28 = 28 /\ a = Q0.1.servers /\ b =
 Q0.1.clients /\ c = Q0.1.area /\ (True /\ 0 = 0 /\ l.length + 1 = Q0.1.evs.length) /\ True) /\ True /\ (80 = 80 /\ 62 = 62 /\ Q0.1.evs.length.le (l.length + 1) /\ ∀ i < Q0.1.evs.length, (if i < l.length then f i else
 rowOf [((0 : Nat), (eventR Q3.1 Q3.2).1.av)] ((0 : Nat) + (i - l.length))) = (evAt Q0.1.evs i).av) /\ True); True /\ (True /\ True) /\ (125 = 125 /\ s.length.le rlim) /\ (decide ((q : Int) < 1) = true -> (True /\ True
 /\ True) /\ (125 = 125 /\ (List.length Q3.2.rest).le rlim /\ 28 = 28 /\ 107 = 107) /\ True /\ (True /\ True) /\ ∃ (x : Unit), ((bif !bif Q5.2.bad then true else ! (bs Q3.1).toList == (ByteArray.mk #[119, 111, 114, 108, 100]).toList then (bs Q5.2.rest).toList == (ByteArray.mk #[]).toList else false) = Q0.2 /\ True) /\ ((28 = 28 /\ Q5.1.getD (0 : Nat) (0 : Int) = Q0.1.servers /\ Q5.1.getD
 (1 : Nat) (0 : Int) = Q0.1.clients /\ Q5.1.getD (2 : Nat) (0 : Int) = Q0.1.area /\ (True /\ 0 = 0 /\ l.length = Q0.1.evs.length) /\ True) /\ True /\ (80 = 80 /\ 62 = 62 /\ Q0.1.evs.length.le l.length /\ ∀ i <
 Q0.1.evs.length, f i = (evAt Q0.1.evs i).av) /\ True) /\ R (bl Q0.2) [LObj.box 28 [nm Q0.1.servers, nm Q0.1.clients, nm Q0.1.area, AV.own 2 0 Q0.1.evs.length], LObj.dead, LObj.row 80 62 Q0.1.evs.length (evF Q0.1.evs)])
 /\ (decide ((q : Int) < 1) = false -> ((True /\ True /\ True) /\ (125 = 125 /\ (List.length Q3.2.rest).le rlim) /\ True /\ Q4 /\ True /\ True /\ (True /\ True) /\ ∃ (x : Unit), Q2 /\ Q1 /\ R (bl Q0.2) [LObj.box 28 [nm
 Q0.1.servers, nm Q0.1.clients, nm Q0.1.area, AV.own 2 0 Q0.1.evs.length], LObj.dead, LObj.row 80 62 Q0.1.evs.length (evF Q0.1.evs)]) /\ (True /\ True /\ True) /\ (125 = 125 /\ (List.length Q3.2.rest).le rlim) /\ (True /\
 Q4 /\ True /\ True /\ (True /\ True) /\ ∃ (x : Unit), Q2 /\ Q1 /\ R (bl Q0.2) [LObj.box 28 [nm Q0.1.servers, nm Q0.1.clients, nm Q0.1.area, AV.own 2 0 Q0.1.evs.length], LObj.dead, LObj.row 80 62 Q0.1.evs.length (evF
 Q0.1.evs)]) /\ True /\ Q4 /\ True /\ True /\ (True /\ True) /\ ∃ (x : Unit), Q2 /\ Q1 /\ R (bl Q0.2) [LObj.box 28 [nm Q0.1.servers, nm Q0.1.clients, nm Q0.1.area, AV.own 2 0 Q0.1.evs.length], LObj.dead, LObj.row 80 62
 Q0.1.evs.length (evF Q0.1.evs)])) := by kernel_rfl
theorem vParse (l : Bs) (inv inv2 : Sc × Nat × Nat × Bool -> Prop) (R : AV -> List LObj -> Prop) : (vcA false false 0 [] Tryz.prog (mkTab [(32, .lend TCut), (33, .hand tkL TLine)]) (optC (Tryz.f14.body.getD .skip))
 ([.cut 11 (Sc × Nat × Nat × Bool) inv2 (λ x => ⟨slotsOf 52 0 [(2, .ptr 0 0 0 0), (3, nm 0), (4, nm 0), (5, .ptr 1 0 0 0), (6, nm x.2.1), (7, nm x.2.2.1), (8, bl x.2.2.2)], [.box tySc [nm 0, nm 0, nm 0, nilS], scBox 2
 x.1, rowE x.1.evs]⟩) (λ _ => []), .loop 5 (Sc × Nat × Nat × Bool) inv (λ x => ⟨slotsOf 52 0 [(0, sl l), (2, .ptr 0 0 0 0), (3, nm 0), (4, nm 0), (5, .ptr 1 0 0 0), (6, nm x.2.1), (7, nm x.2.2.1), (8, bl x.2.2.2)],
 [.box tySc [nm 0, nm 0, nm 0, nilS], scBox 2 x.1, rowE x.1.evs]⟩) (λ x => l.length - x.2.1) (λ _ => [])]) (finalK Tryz.prog Tryz.f14 (λ y H => ∃ _ : Unit, leSt 0 ⟨[y], H⟩ ⟨[.tup [scAV (parseR l).1, nm (parseR
 l).2.1, nm (parseR l).2.2]], []⟩ (R (.tup [scAV (parseR l).1, nm (parseR l).2.1, nm (parseR l).2.2]) []))) (startSt Tryz.f14 ([sl l]))) = (let Q7 := ((True /\ True /\ True /\ True /\ True) /\ True /\ True /\ True); let
 Q6 := (↑ (parseR l).2.1 : Int); let Q5 := (True /\ True /\ True /\ True); let Q4 := ((0 : Int) = (parseR l).1.servers /\ (0 : Int) = (parseR l).1.clients /\ (0 : Int) = (parseR l).1.area /\ (True /\ (parseR
 l).1.evs.length = 0) /\ True); let Q3 := (True /\ 0 = 0 /\ 0 = 0 /\ 0 = 0); let Q2 := (28 = 28 /\ (0 : Int) = 0 /\ (0 : Int) = 0 /\ (0 : Int) = 0 /\ nQ = nQ /\ True); let Q1 := (AV.tup [AV.agg [nm (parseR l).1.servers,
 nm (parseR l).1.clients, nm (parseR l).1.area, AV.rows 80 (parseR l).1.evs.length (evF (parseR l).1.evs)], nm Q6, nm (parseR l).2.2]); let Q0 := (sepOf (ByteArray.mk #[10])); True /\ (decide ((↑ l.length : Int)
 > 262144) = true -> True /\ Q5 /\ Q7 /\ ∃ (x : Unit), ((Q4 /\ (0 : Int) = Q6 /\ (3 : Int) = (parseR l).2.2 /\ True) /\ True) /\ True /\ R Q1 []) /\ (decide ((↑ l.length : Int) > 262144) = false -> True /\ ((∃ (x : Sc ×
 Nat × Nat × Bool), (bs l = bs l /\ Q3 /\ (0 : Int) = 0 /\ (0 : Int) = 0 /\ Q3 /\ (0 : Int) = (↑x.2.1 : Int) /\ (0 : Int) = (↑x.2.2.1 : Int) /\ true = x.2.2.2 /\ True) /\ (Q2 /\ (28 = 28 /\ (0 : Int) = x.1.servers /\ (0 :
 Int) = x.1.clients /\ (0 : Int) = x.1.area /\ (True /\ True /\ 0 = 0 /\ x.1.evs.length = 0) /\ True) /\ x.1.evs.length = 0 /\ True) /\ inv x) /\ ∀ (x : Sc × Nat × Nat × Bool), let Q10 := ((bs l).extract (↑x.2.1 :
 Int).toNat (↑ l.length : Int).toNat); let Q8 := (cutL Q0 Q10.data.toList); let Q9 := ((↑x.2.1 : Int) + k64Q.wrap ((↑ (List.length Q8.1) : Int) + 1)); inv x -> (decide ((↑x.2.1 : Int) < (↑ l.length : Int)) = true -> ((0 :
 Int) <= (↑x.2.1 : Int) /\ (↑x.2.1 : Int) <= (↑ l.length : Int) /\ (↑ l.length : Int) <= (↑ l.length : Int)) /\ (1 = 1 /\ Q10.size.le (9223372036854775806 : Nat)) /\ (gEq Q8.2.2 true = true -> Q5 /\ ∃ (l_1 : List Ev), let
 Q11 := (Sc.mk x.1.servers x.1.clients x.1.area l_1); ∃ (q : Nat), (28 = 28 /\ IsEvRow (80 : Nat) (62 : Nat) x.1.evs.length x.1.evs.length (evF x.1.evs) l_1 /\ (List.length Q8.1).le rlim /\ l_1.length.le rlim /\ (↑x.2.2.1
 : Int) = (q : Int)) /\ true = true /\ ((!bif true then (lineR Q11 Q8.1 q).2 else false) = true -> ∃ (x_1 : Sc × Nat × Nat × Bool), (Q3 /\ (0 : Int) = 0 /\ (0 : Int) = 0 /\ Q3 /\ (↑x.2.1 : Int) = (↑x_1.2.1 : Int) /\
 (↑x.2.2.1 : Int) = (↑x_1.2.2.1 : Int) /\ (bif true then (lineR Q11 Q8.1 q).2 else false) = x_1.2.2.2 /\ True) /\ (Q2 /\ (28 = 28 /\ (lineR Q11 Q8.1 q).1.servers = x_1.1.servers /\ (lineR Q11 Q8.1 q).1.clients =
 x_1.1.clients /\ (lineR Q11 Q8.1 q).1.area = x_1.1.area /\ (True /\ 0 = 0 /\ (lineR Q11 Q8.1 q).1.evs.length = x_1.1.evs.length) /\ True) /\ (80 = 80 /\ 62 = 62 /\ x_1.1.evs.length.le (lineR Q11 Q8.1 q).1.evs.length /\ ∀
 i < x_1.1.evs.length, let Q12 := (evAt (lineR Q11 Q8.1 q).1.evs i); AV.agg [nm Q12.kind, nm Q12.node, nm Q12.to, nm Q12.n, AV.rows 1 Q12.keep.length (boolF Q12.keep), AV.rows 1 Q12.conf.length (intF Q12.conf), sl
 Q12.branch, AV.rows 2 Q12.map.length (rowF Q12.map), AV.rows 3 Q12.edit.length (chgF Q12.edit), AV.pl (Value.int k32Q Q12.author), sl Q12.note, nm Q12.ck, nm Q12.client, AV.pl (Value.int k32Q Q12.seq), sl Q12.cbranch,
 iaQ Q12.old, iaQ Q12.new, AV.rows 1 (List.length Q12.data) (byteF (bs Q12.data))] = (evAt x_1.1.evs i).av) /\ True) /\ inv2 x_1) /\ ((!bif true then (lineR Q11 Q8.1 q).2 else false) = false -> ∃ (y : Sc × Nat × Nat ×
 Bool), (bs l = bs l /\ Q3 /\ (0 : Int) = 0 /\ (0 : Int) = 0 /\ Q3 /\ k64Q.wrap Q9 = (↑y.2.1 : Int) /\ k64Q.wrap ((↑x.2.2.1 : Int) + 1) = (↑y.2.2.1 : Int) /\ (bif true then (lineR Q11 Q8.1 q).2 else false) = y.2.2.2 /\
 True) /\ (Q2 /\ (28 = 28 /\ (lineR Q11 Q8.1 q).1.servers = y.1.servers /\ (lineR Q11 Q8.1 q).1.clients = y.1.clients /\ (lineR Q11 Q8.1 q).1.area = y.1.area /\ (True /\ 0 = 0 /\ (lineR Q11 Q8.1 q).1.evs.length =
 y.1.evs.length) /\ True) /\ (80 = 80 /\ 62 = 62 /\ y.1.evs.length.le (lineR Q11 Q8.1 q).1.evs.length /\ ∀ i < y.1.evs.length, let Q13 := (evAt (lineR Q11 Q8.1 q).1.evs i); AV.agg [nm Q13.kind, nm Q13.node, nm Q13.to, nm
 Q13.n, AV.rows 1 Q13.keep.length (boolF Q13.keep), AV.rows 1 Q13.conf.length (intF Q13.conf), sl Q13.branch, AV.rows 2 Q13.map.length (rowF Q13.map), AV.rows 3 Q13.edit.length (chgF Q13.edit), AV.pl (Value.int k32Q
 Q13.author), sl Q13.note, nm Q13.ck, nm Q13.client, AV.pl (Value.int k32Q Q13.seq), sl Q13.cbranch, iaQ Q13.old, iaQ Q13.new, AV.rows 1 (List.length Q13.data) (byteF (bs Q13.data))] = (evAt y.1.evs i).av) /\ True) /\ inv
 y /\ (l.length - y.2.1).succ.le (l.length - x.2.1))) /\ (gEq Q8.2.2 true = false -> true = true /\ ((!false) = true -> ∃ (x_1 : Sc × Nat × Nat × Bool), (Q3 /\ (0 : Int) = 0 /\ (0 : Int) = 0 /\ Q3 /\ (↑x.2.1 : Int) =
 (↑x_1.2.1 : Int) /\ (↑x.2.2.1 : Int) = (↑x_1.2.2.1 : Int) /\ false = x_1.2.2.2 /\ True) /\ (Q2 /\ (28 = 28 /\ x.1.servers = x_1.1.servers /\ x.1.clients = x_1.1.clients /\ x.1.area = x_1.1.area /\ (True /\ 0 = 0 /\
 x.1.evs.length = x_1.1.evs.length) /\ True) /\ (80 = 80 /\ 62 = 62 /\ x_1.1.evs.length.le x.1.evs.length /\ ∀ i < x_1.1.evs.length, (evAt x.1.evs i).av = (evAt x_1.1.evs i).av) /\ True) /\ inv2 x_1) /\ ((!false) = false
 -> ∃ (y : Sc × Nat × Nat × Bool), (bs l = bs l /\ Q3 /\ (0 : Int) = 0 /\ (0 : Int) = 0 /\ Q3 /\ k64Q.wrap Q9 = (↑y.2.1 : Int) /\ k64Q.wrap ((↑x.2.2.1 : Int) + 1) = (↑y.2.2.1 : Int) /\ false = y.2.2.2 /\ True) /\ (Q2 /\
 (28 = 28 /\ x.1.servers = y.1.servers /\ x.1.clients = y.1.clients /\ x.1.area = y.1.area /\ (True /\ 0 = 0 /\ x.1.evs.length = y.1.evs.length) /\ True) /\ (80 = 80 /\ 62 = 62 /\ y.1.evs.length.le x.1.evs.length /\ ∀ i <
 y.1.evs.length, (evAt x.1.evs i).av = (evAt y.1.evs i).av) /\ True) /\ inv y /\ (l.length - y.2.1).succ.le (l.length - x.2.1)))) /\ (decide ((↑x.2.1 : Int) < (↑ l.length : Int)) = false -> ∃ (x_1 : Sc × Nat × Nat ×
 Bool), (Q3 /\ (0 : Int) = 0 /\ (0 : Int) = 0 /\ Q3 /\ (↑x.2.1 : Int) = (↑x_1.2.1 : Int) /\ (↑x.2.2.1 : Int) = (↑x_1.2.2.1 : Int) /\ x.2.2.2 = x_1.2.2.2 /\ True) /\ (Q2 /\ (28 = 28 /\ x.1.servers = x_1.1.servers /\
 x.1.clients = x_1.1.clients /\ x.1.area = x_1.1.area /\ (True /\ 0 = 0 /\ x.1.evs.length = x_1.1.evs.length) /\ True) /\ (80 = 80 /\ 62 = 62 /\ x_1.1.evs.length.le x.1.evs.length /\ ∀ i < x_1.1.evs.length, (evAt x.1.evs
 i).av = (evAt x_1.1.evs i).av) /\ True) /\ inv2 x_1)) /\ ∀ (x : Sc × Nat × Nat × Bool), let Q14 := (bif !x.2.2.2 then true else decide ((↑x.2.2.1 : Int) < 1)); inv2 x -> (Q14 = true -> True /\ Q5 /\ Q7 /\ ∃ (x_1 : Unit),
 ((Q4 /\ (↑x.2.1 : Int) = Q6 /\ (360 : Int) = (parseR l).2.2 /\ True) /\ True) /\ True /\ R Q1 []) /\ (Q14 = false -> True /\ Q5 /\ ((True /\ True /\ True /\ ((0 : Nat) + x.1.evs.length).le x.1.evs.length /\ True) /\ True
 /\ True /\ True) /\ ∃ (x_1 : Unit), (((x.1.servers = (parseR l).1.servers /\ x.1.clients = (parseR l).1.clients /\ x.1.area = (parseR l).1.area /\ (80 = 80 /\ x.1.evs.length = (parseR l).1.evs.length /\ ∀ i <
 x.1.evs.length, (evAt x.1.evs ((0 : Nat) + i)).av = (evAt (parseR l).1.evs i).av) /\ True) /\ (0 : Int) = Q6 /\ (0 : Int) = (parseR l).2.2 /\ True) /\ True) /\ True /\ R Q1 []))) := by kernel_rfl
theorem vPrint (a b c : Int) (l : List Ev) (inv : Nat -> Prop) (R : AV -> List LObj -> Prop) : (vcA false false 0 [1, 2] Tryz.prog (mkTab [(9, .lend TCheck), (18, .hand tkW TWrS), (20, .hand tkW TWrB), (19, .hand tkW
 TNums), (21, .hand tkW TWEvent), (22, .hand tkW TBLen), (23, .hand tkW TBStr)]) (optC (Tryz.f8.body.getD .skip)) ([.loop 9 Nat inv (λ i => ⟨slotsOf 43 0 [(1, .ptr 0 0 0 0), (2, sl []), (3, nm 0), (5, .ptr 1 0 0 0),
 (29, evsAV l), (30, nm l.length), (31, nm i)], .box tySc [nm a, nm b, nm c, evsAV l] :: wB 1 (printL ⟨a, b, c, l.take i⟩)⟩) (λ i => l.length - i) (λ _ => [])]) (finalK Tryz.prog Tryz.f8 (R)) (startSt Tryz.f8 ([.agg
 [nm a, nm b, nm c, evsAV l]]))) = (let Q3 := (-9223372036854775808 : Int); let Q2 := (True /\ True /\ True); let Q1 := (True /\ 0 = 0 /\ 0 = 0 /\ 0 = 0); let Q0 := (80 = 80 /\ l.length = l.length /\ ∀ i < l.length, evF l
 i = evF l i); True /\ ∃ (l_1 : List Ev), IsEvs (AV.rows 80 l.length (evF l)) l_1 /\ ((checkE l_1 != 0) = true -> Q2 /\ Q2 /\ R (AV.tup [AV.pl (Value.string (ByteArray.mk #[])), nm (checkE l_1)]) []) /\ ((checkE l_1 != 0)
 = false -> True /\ Q2 /\ (71 = 71 /\ (ByteArray.mk #[119, 111, 114, 108, 100]).size.le lim) /\ True /\ (True /\ ((0 : Nat) + 3).le (3 : Nat) /\ True) /\ ∃ (l_2 : Bs), ∃
 (ns : List Int), let Q4 := (List.length (l_2 ++ nums ns)); (71 = 71 /\ IsBytes (1 : Nat) (5 : Nat) (5 : Nat) (5 : Nat) (byteF (bs ([119, 111, 114, 108, 100] : Bs))) l_2 /\ IsInts (AV.rows 1 3 λ (i : Nat) => rowOf [((0
 : Nat), nm a), ((1 : Nat), nm b), ((2 : Nat), nm c)] ((0 : Nat) + i)) ns /\ (l_2.length + 22 * ns.length).le lim /\ ∀ (n : Int), n ∈ ns -> Q3 <= n /\ n <= 9223372036854775807) /\ nflB (AV.tup []) = true /\ (nflL [AV.ptr
 0 0 0 0, AV.own 2 0 Q4] = true /\ True /\ (∀ (i : Nat), i < List.length (l_2 ++ nums ns) -> flatB (byteF (bs (l_2 ++ nums ns)) i) = true) /\ True) /\ Q2 /\ ∃ (l_3 : Bs), let Q5 := (l_3 ++ [UInt8.ofNat (Int.toNat 10)]);
 (71 = 71 /\ IsBytes (1 : Nat) (5 : Nat) Q4 Q4 (byteF (bs (l_2 ++ nums ns))) l_3 /\ (l_3.length + 1).le lim /\ (0 : Int) <= 10 /\ (10 : Int) + 1 <= 256) /\ (∃ (x : Nat), let Q6 := (printL (Sc.mk a b c (List.take x l)));
 (Q1 /\ ByteArray.mk #[] = bs [] /\ (0 : Int) = 0 /\ Q1 /\ Q0 /\ (l.length : Int) = (l.length : Int) /\ (0 : Int) = (x : Int) /\ True) /\ ((28 = 28 /\ a = a /\ b = b /\ c = c /\ Q0 /\ True) /\ (71 = 71 /\ Q1 /\ (True
 /\ 0 = 0 /\ List.length Q5 = List.length Q6) /\ True) /\ (1 = 1 /\ 5 = 5 /\ (List.length Q6).le (List.length Q5) /\ ∀ (i : Nat), i < List.length Q6 -> AV.pl (Value.int k8Q (↑ (Q5.getD i (0 : UInt8)).toNat : Int)) = AV.pl
 (Value.int k8Q (↑ (Q6.getD i (0 : UInt8)).toNat : Int))) /\ True) /\ inv x) /\ ∀ (x : Nat), let Q8 := (printL (Sc.mk a b c (List.take x l))); let Q7 := (List.length Q8); inv x -> (decide ((x : Int) < (l.length : Int))
 = true -> ((0 : Int) <= (x : Int) /\ (x : Int) + 1 <= (l.length : Int)) /\ True /\ True /\ Q2 /\ ∃ (l_4 : Bs), ∃ (v : Ev), (71 = 71 /\ IsBytes (1 : Nat) (5 : Nat) Q7 Q7 (byteF (bs Q8)) l_4 /\ IsEv ((evAt l (↑x :
 Int).toNat).av) v /\ ((Q3 <= v.kind /\ v.kind <= 9223372036854775807) /\ (Q3 <= v.node /\ v.node ≤ 9223372036854775807) /\ (Q3 <= v.to /\ v.to <= 9223372036854775807) /\ (Q3 <= v.n /\ v.n ≤ 9223372036854775807) /\ (∀ (x
 : Int), x ∈ v.conf -> Q3 <= x /\ x <= 9223372036854775807) /\ (Q3 ≤ v.ck /\ v.ck <= 9223372036854775807) /\ ((0 : Int) <= v.author /\ v.author + 1 <= 4294967296) /\ ∀ i < 32, (0 : Int) <= v.new i /\ v.new i + 1 <= 256)
 /\ wrongE v = false /\ (l_4.length + 1000000).le lim) /\ ∃ (y : Nat), let Q9 := (printL (Sc.mk a b c (List.take y l))); (Q1 /\ bs [] = bs [] /\ (0 : Int) = 0 /\ Q1 /\ Q0 /\ (l.length : Int) = (l.length : Int) /\
 k64Q.wrap ((x : Int) + 1) = (y : Int) /\ True) /\ ((28 = 28 /\ a = a /\ b = b /\ c = c /\ Q0 /\ True) /\ (71 = 71 /\ Q1 /\ (True /\ 0 = 0 /\ List.length (l_4 ++ evL v) = List.length Q9) /\ True) /\ (1 = 1 /\ 5 = 5 /\
 (List.length Q9).le (List.length (l_4 ++ evL v)) /\ ∀ (i : Nat), i < List.length Q9 -> AV.pl (Value.int k8Q (↑ ((l_4 ++ evL v).getD i (0 : UInt8)).toNat : Int)) = AV.pl (Value.int k8Q (↑ (Q9.getD i (0 : UInt8)).toNat :
 Int))) /\ True) /\ inv y /\ (l.length - y).succ.le (l.length - x)) /\ (decide ((x : Int) < (l.length : Int)) = false -> (True /\ True) /\ 71 = 71 /\ (decide ((↑ Q7 : Int) > 262144) = true -> Q2 /\ Q2 /\ R (AV.tup
 [AV.pl (Value.string (ByteArray.mk #[])), nm 3]) []) /\ (decide ((↑ Q7 : Int) > 262144) = false -> (True /\ True) /\ ∃ (l_4 : Bs), (71 = 71 /\ IsBytes (1 : Nat) (5 : Nat) Q7 Q7 (byteF (bs Q8)) l_4 /\ (Nat.succ (0 :
 Nat)).le l_4.length /\ l_4.length.le lim) /\ Q2 /\ Q2 /\ R (AV.tup [sl l_4, nm 0]) [])))) := by kernel_rfl
end Go.Proofs.Sz

namespace Go.Proofs.Sz
open Go Go.Am Go.SP
theorem XLine : EntOk Tryz.prog 33 (.hand tkL TLine) := by
 refine ⟨Am.enters_of Tryz.func33 (by kernel_rfl) (by kernel_rfl), λ H0 args R h => ?_⟩
 unfold TLine at h
 split at h
 ·rename_i t a b c n k e m f s j
  obtain ⟨s, rfl⟩ : ∃ l, s = bs l := ⟨_, bs_of s⟩
  obtain ⟨l, q, ⟨rfl, ⟨rfl, rfl, rfl, rfl, hf⟩, h1, h2, rfl⟩, h⟩ := h
  simp only [bs_size, bs_data] at h1 h
  refine SpecH.weak (Z := Unit) (X := λ _ => bl (lineR ⟨a, b, c, l⟩ s q).2) (HH := λ _ => [scBox 2 (lineR ⟨a, b, c, l⟩ s q).1, .dead, rowE (lineR ⟨a, b, c, l⟩ s q).1.evs]) (mkHo (vLine1 a b c l s q f R) (tb (ac XBlank (ac XNumbers (ac XREvent az)))) Tryz.func33 (by kernel_rfl) ?_)
  simp only [true_and, and_true, and_self, implies_true, forall_const, gEq_true, gEq_false, nonneg_iff, natle_iff, decide_eq_true_eq, decide_eq_false_iff_not, Int.toNat_natCast, cond_bt, cond_bf, Bool.cond_true, Bool.cond_false, Bool.not_true, Bool.not_false, reduceCtorEq, false_implies, implies_true, Bool.true_eq_false, Bool.false_eq_true, Bool.not_eq_true', Bool.not_eq_false', bs_size, bs_data, bs_toList, bs_extract, bs_append, bs_mk, byteF]
  have hb := blank_le ⟨s, false⟩
  rcases Nat.eq_zero_or_pos q with rfl | hq
  ·exact ⟨h1, λ _ => ⟨by dsimp only at hb; omega, (), rfl, ⟨⟨rfl, rfl, rfl, rfl⟩, Nat.le_refl _, hf⟩, h⟩, λ hn => absurd (by omega) hn⟩
  ·
   have hmx := maxLen_eq
   have hrl : rlim = 1000000 := rfl
   dsimp only at hb
   have hq0 : (q == 0) = false := by simp; omega
   have e : lineR ⟨a, b, c, l⟩ s q = (⟨a, b, c, l ++ [(eventR (blankR ⟨s, false⟩).1 (blankR ⟨s, false⟩).2).1]⟩, okR (orBad (eventR (blankR ⟨s, false⟩).1 (blankR ⟨s, false⟩).2).2 (decide (300 < l.length + 1)))) := by
    simp only [lineR, hq0, cond_false]
   rw [e] at h ⊢
   have hd : decide (((l.length + 1 : Nat) : Int) > 300) = decide (300 < l.length + 1) := by rw [decide_eq_decide]; omega
   generalize eventR (blankR ⟨s, false⟩).1 (blankR ⟨s, false⟩).2 = v at h ⊢
   refine ⟨h1, λ hlt => absurd hlt (by omega), λ _ => ⟨by omega, ⟨by omega, by omega, by omega⟩, (), ?_, ?_, h⟩⟩
   ·rw [hd]
    rfl
   ·refine ⟨⟨rfl, rfl, rfl, by simp⟩, by simp, λ i hi => ?_⟩
    have hi' : i < (l ++ [v.1]).length := hi
    have := app_at Ev.av l v.1 ev0 i hi'
    refine Eq.trans ?_ this
    split
    ·rename_i hlt; exact hf i hlt
    ·rfl
 ·exact h.elim
theorem s10 : sepOf (ByteArray.mk #[10]) = 10 := rfl
theorem eq_or_ne_nil (t : Bs) : t = [] ∨ t ≠ [] := by cases t <;> simp
theorem parseGo_cons (f : Nat) {t : Bs} (ht : t ≠ []) (a n : Nat) (s : Sc) : parseGo (f + 1) t a n s = bif (cutL 10 t).2.2 && (lineR s (cutL 10 t).1 n).2 then parseGo f (cutL 10 t).2.1 (a + (cutL 10 t).1.length + 1) (n + 1) (lineR s (cutL 10 t).1 n).1 else (s, a, n, false) := by
 cases t with
 | nil => exact absurd rfl ht
 | cons c t => rfl
theorem parseGo_nil (f a n : Nat) (s : Sc) : parseGo f [] a n s = (s, a, n, true) := by cases f <;> rfl
theorem parseGo_fuel : ∀ (f g : Nat) (t : Bs) (a n : Nat) (s : Sc), t.length < f -> t.length < g -> parseGo f t a n s = parseGo g t a n s := by
 intro f
 induction f with
 | zero => intro g t a n s h; omega
 | succ f ih =>
  intro g t a n s hf hg
  cases g with
  | zero => omega
  | succ g =>
   rcases eq_or_ne_nil t with rfl | ht
   ·rfl
   ·rw [parseGo_cons f ht, parseGo_cons g ht]
    cases hc : (cutL 10 t).2.2 with
    | false => rfl
    | true =>
     have := cutL_le2 10 t hc
     rw [ih g _ _ _ _ (by omega) (by omega)]
theorem lineR_len (s : Sc) (l : Bs) (n : Nat) : (lineR s l n).1.evs.length <= s.evs.length + 1 := by
 unfold lineR
 cases n == 0 <;> simp [setupR]
theorem XParse : EntOk Tryz.prog 14 (.lend TParse) := by
 refine ⟨Am.enters_of Tryz.func14 (by kernel_rfl) (by kernel_rfl), λ args R h => ?_⟩
 unfold TParse at h
 split at h
 ·rename_i s
  obtain ⟨l, rfl⟩ : ∃ l, s = bs l := ⟨_, bs_of s⟩
  rw [bs_data] at h
  refine Spec.weak (Z := Unit) (X := λ _ => .tup [scAV (parseR l).1, nm (parseR l).2.1, nm (parseR l).2.2]) (HH := λ _ => []) (mkSo (vParse l
   (λ x => x.2.2.2 = true /\ l.length <= 262144 /\ x.2.1 <= l.length /\ x.1.evs.length <= x.2.2.1 /\ x.2.2.1 <= x.2.1 /\ ∀ f, (l.drop x.2.1).length < f -> parseGo (l.length + 1) l 0 0 sc0 = parseGo f (l.drop x.2.1) x.2.1 x.2.2.1 x.1)
   (λ x => l.length <= 262144 /\ (parseGo (l.length + 1) l 0 0 sc0).2 = x.2 /\ (x.2.2.2 = true -> (parseGo (l.length + 1) l 0 0 sc0).1 = x.1)) R) (tb (ac XCut (ac XLine az))) Tryz.func14 (by kernel_rfl) ?_)
  simp only [true_and, and_true, and_self, implies_true, forall_const, gEq_true, gEq_false, nonneg_iff, natle_iff, decide_eq_true_eq, decide_eq_false_iff_not, Int.toNat_natCast, cond_bt, cond_bf, Bool.cond_true, Bool.cond_false, Bool.not_true, Bool.not_false, reduceCtorEq, false_implies, implies_true, Bool.true_eq_false, Bool.false_eq_true, Bool.not_eq_true', Bool.not_eq_false', bs_size, bs_data, bs_toList, bs_extract, bs_append, bs_mk, byteF, s10, sep1, List.take_length]
  have hmx := maxLen_eq
  have hrl : rlim = 1000000 := rfl
  refine ⟨λ hlt => ?_, λ hge => ⟨⟨⟨(sc0, 0, 0, true), ⟨rfl, rfl, rfl⟩, ⟨⟨rfl, rfl, rfl, rfl⟩, rfl⟩, rfl, by omega, Nat.zero_le _, Nat.le_refl _, Nat.le_refl _, λ f hf => ?_⟩, λ x hx => ⟨λ hlt => ?_, λ hge => ?_⟩⟩, λ x hx => ?_⟩⟩
  ·have hd : decide (262144 < l.length) = true := by rw [decide_eq_true_eq]; omega
   have e : parseR l = (sc0, 0, 3) := by rw [parseR, hd, cond_true]
   rw [e] at h ⊢
   exact ⟨(), ⟨⟨rfl, rfl, rfl, rfl⟩, rfl, rfl⟩, h⟩
  ·exact parseGo_fuel _ _ _ _ _ _ (by omega) hf
  ·obtain ⟨hx1, hx2, hx3, hx4, hx5, hx6⟩ := hx
   obtain ⟨sc, at_, n, ok⟩ := x
   dsimp only at hlt hx1 hx3 hx4 hx5 hx6 ⊢
   have hlt : at_ < l.length := by omega
   have hdl : (l.drop at_).length = l.length - at_ := by simp
   have ht : l.drop at_ ≠ [] := λ e => by rw [e] at hdl; simp at hdl; omega
   have hG := hx6 (l.length - at_ + 1) (by omega)
   rw [parseGo_cons _ ht] at hG
   have hle := cutL_le 10 (l.drop at_)
   refine ⟨⟨by omega, by omega, by omega⟩, by omega, λ hc => ⟨sc.evs, n, ⟨isEvRow_self _, by omega, by omega, rfl⟩, λ hb => ⟨((lineR sc (cutL 10 (l.drop at_)).1 n).1, at_, n, false), ⟨rfl, rfl, hb⟩, ⟨⟨rfl, rfl, rfl, rfl⟩, Nat.le_refl _, λ _ _ => rfl⟩, hx2, ?_, λ hf => by cases hf⟩, λ hb => ⟨((lineR sc (cutL 10 (l.drop at_)).1 n).1, at_ + (cutL 10 (l.drop at_)).1.length + 1, n + 1, true), ?_, ⟨⟨rfl, rfl, rfl, rfl⟩, Nat.le_refl _, λ _ _ => rfl⟩, ?_, ?_⟩⟩, λ hc => ⟨(sc, at_, n, false), ⟨rfl, rfl, rfl⟩, ⟨⟨rfl, rfl, rfl, rfl⟩, Nat.le_refl _, λ _ _ => rfl⟩, hx2, ?_, λ hf => by cases hf⟩⟩
   ·have hb' : (lineR sc (cutL 10 (l.drop at_)).1 n).2 = false := hb
    rw [hb', Bool.and_false, cond_false] at hG
    rw [hG]
   ·have hl2 := cutL_le2 10 (l.drop at_) hc
    dsimp only
    refine ⟨?_, by rw [wrap64] <;> omega, hb⟩
    rw [wrap64 (x := ((cutL 10 (l.drop at_)).1.length : Int) + 1) (by omega) (by omega), wrap64] <;> omega
   ·have hl2 := cutL_le2 10 (l.drop at_) hc
    have hb' : (lineR sc (cutL 10 (l.drop at_)).1 n).2 = true := hb
    have hev := lineR_len sc (cutL 10 (l.drop at_)).1 n
    have hrest : (cutL 10 (l.drop at_)).2.1 = l.drop (at_ + (cutL 10 (l.drop at_)).1.length + 1) := by
     have h9 := (cutL_found hc).1
     have h10 : l.drop (at_ + (cutL 10 (l.drop at_)).1.length + 1) = (l.drop at_).drop ((cutL 10 (l.drop at_)).1.length + 1) := by rw [List.drop_drop, Nat.add_assoc]
     rw [h10]
     generalize (cutL 10 (l.drop at_)).1 = a at h9
     generalize (cutL 10 (l.drop at_)).2.1 = b at h9
     rw [h9]
     simp
    refine ⟨rfl, hx2, by dsimp only; omega, by dsimp only; omega, by dsimp only; omega, λ f hf => ?_⟩
    rw [hc, hb', Bool.and_self, cond_true] at hG
    rw [hG, hrest]
    have hr := congrArg List.length hrest
    exact parseGo_fuel _ _ _ _ _ _ (by rw [<- hr]; omega) hf
   ·dsimp only; omega
   ·rw [hc, Bool.false_and, cond_false] at hG
    rw [hG]
  ·obtain ⟨hx1, hx2, hx3, hx4, hx5, hx6⟩ := hx
   obtain ⟨sc, at_, n, ok⟩ := x
   dsimp only at hge hx1 hx3 hx4 hx5 hx6 ⊢
   have e : l.drop at_ = [] := List.drop_eq_nil_of_le (by omega)
   have hG := hx6 1 (by rw [e]; exact Nat.zero_lt_one)
   rw [e, parseGo_nil] at hG
   rw [hG]
   exact ⟨(sc, at_, n, ok), ⟨rfl, rfl, rfl⟩, ⟨⟨rfl, rfl, rfl, rfl⟩, Nat.le_refl _, λ _ _ => rfl⟩, hx2, by dsimp only; rw [hx1], λ _ => rfl⟩
  ·obtain ⟨hx1, hx2, hx3⟩ := hx
   obtain ⟨sc, at_, n, ok⟩ := x
   have hd : decide (262144 < l.length) = false := by rw [decide_eq_false_iff_not]; omega
   have e : parseR l = (bif !ok || n == 0 then (sc0, at_, 360) else ((parseGo (l.length + 1) l 0 0 sc0).1, 0, 0)) := by
    rw [parseR, hd, cond_false]
    generalize parseGo (l.length + 1) l 0 0 sc0 = g at hx2 hx3
    obtain ⟨g1, g2⟩ := g
    dsimp only at hx2
    subst hx2
    rfl
   have e0 : decide ((n : Int) < 1) = (n == 0) := by rw [Bool.eq_iff_iff]; simp; omega
   dsimp only at hx3 ⊢
   rw [e0]
   refine ⟨λ hb => ?_, λ hb => ⟨by omega, ?_⟩⟩
   ·rw [hb, cond_true] at e
    rw [e] at h ⊢
    exact ⟨(), ⟨⟨rfl, rfl, rfl, rfl⟩, rfl, rfl⟩, h⟩
   ·rw [hb, cond_false] at e
    have hok : ok = true := by
     rw [Bool.or_eq_false_iff] at hb
     simpa using hb.1
    rw [hx3 hok] at e
    rw [e] at h ⊢
    exact ⟨(), ⟨⟨rfl, rfl, rfl, rfl, λ i _ => by rw [Nat.zero_add]⟩, rfl, rfl⟩, h⟩
 ·exact h.elim
end Go.Proofs.Sz
