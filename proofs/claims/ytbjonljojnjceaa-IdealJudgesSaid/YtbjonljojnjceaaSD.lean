/- Proved: whatever the input, IdealJudges returns true and each argument reads as it did (Rows.IdealJudgesSaid); under no condition beside those of the row. Seat r1: what stays right, and orders in plain Lean. Seat r1: contracts of the document's answers (histories). Seat r1: the contract of IdealJudges. -/
import Derived.Test.YtbjonljojnjceaaSC
namespace Go.Proofs.R1
open Go Go.Am

theorem right_iff : ∀ (L : List Br) (last : List UInt8), rightFrom last L = true ↔ ((∀ b ∈ L, lt last b.name.toList = true) ∧ (∀ b ∈ L, idEq b.id z0 = false ∧ nameB b.name = true) ∧ Sorted L) := by
  intro L
  induction L with
  | nil => intro last; exact ⟨fun _ => ⟨fun b hb => (by cases hb), fun b hb => (by cases hb), List.Pairwise.nil⟩, fun _ => rfl⟩
  | cons a L ih =>
    intro last
    rw [rightFrom]
    simp only [Bool.and_eq_true, Bool.not_eq_true']
    constructor
    · rintro ⟨⟨⟨h1, h2⟩, h3⟩, h4⟩
      obtain ⟨h5, h6, h7⟩ := (ih _).1 h4
      refine ⟨fun b hb => ?_, fun b hb => ?_, List.pairwise_cons.2 ⟨h5, h7⟩⟩
      · rcases List.mem_cons.1 hb with rfl | hb
        · exact h1
        · exact lt_trans h1 (h5 b hb)
      · rcases List.mem_cons.1 hb with rfl | hb
        · exact ⟨h2, h3⟩
        · exact h6 b hb
    · rintro ⟨h1, h2, h3⟩
      obtain ⟨h4, h5⟩ := List.pairwise_cons.1 h3
      exact ⟨⟨⟨h1 a List.mem_cons_self, (h2 a List.mem_cons_self).1⟩, (h2 a List.mem_cons_self).2⟩, (ih _).2 ⟨h4, fun b hb => h2 b (List.mem_cons_of_mem _ hb), h5⟩⟩
theorem right_of {L : List Br} (h : ∀ b ∈ L, idEq b.id z0 = false ∧ nameB b.name = true) (hs : Sorted L) : rightB L = true :=
  (right_iff L []).2 ⟨fun b hb => by
    have := (h b hb).2
    unfold nameB at this
    simp only [Bool.and_eq_true, decide_eq_true_eq] at this
    have hl : b.name.toList.length = b.name.size := size_toList _
    cases hn : b.name.toList with
    | nil => rw [hn] at hl; simp at hl; omega
    | cons x t => rfl, h, hs⟩
theorem right_moved {L : List Br} (hr : rightB L = true) (c : Cmd) (hn : nameB c.branch = true) : rightB (moved L c) = true := by
  obtain ⟨_, hgood, hs⟩ := (right_iff L []).1 hr
  obtain ⟨A, B, hL, hf, hA, hBl, hB⟩ := part2 hs c.branch
  have hsAB := hs
  rw [hL] at hsAB hgood
  obtain ⟨sA, sB, sAB⟩ := List.pairwise_append.1 hsAB
  unfold moved
  rcases hB with ⟨hh, b, C, rfl, hb, hC⟩ | ⟨hh, hB⟩
  · obtain ⟨sb, sC⟩ := List.pairwise_cons.1 sB
    cases h0 : idEq c.new z0 <;> simp only [hh, cond_true, cond_false]
    · rw [hf, hL, put_part]
      refine right_of (fun d hd => ?_) (List.pairwise_append.2 ⟨sA, List.pairwise_cons.2 ⟨sb, sC⟩, fun x hx y hy => ?_⟩)
      · rcases List.mem_append.1 hd with hd | hd
        · exact hgood d (List.mem_append_left _ hd)
        · rcases List.mem_cons.1 hd with rfl | hd
          · exact ⟨h0, (hgood b (List.mem_append_right _ List.mem_cons_self)).2⟩
          · exact hgood d (List.mem_append_right _ (List.mem_cons_of_mem _ hd))
      · rcases List.mem_cons.1 hy with rfl | hy
        · exact sAB x hx b List.mem_cons_self
        · exact sAB x hx y (List.mem_cons_of_mem _ hy)
    · rw [hf, hL, del_part]
      refine right_of (fun d hd => ?_) (List.pairwise_append.2 ⟨sA, sC, fun x hx y hy => sAB x hx y (List.mem_cons_of_mem _ hy)⟩)
      rcases List.mem_append.1 hd with hd | hd
      · exact hgood d (List.mem_append_left _ hd)
      · exact hgood d (List.mem_append_right _ (List.mem_cons_of_mem _ hd))
  · cases h0 : idEq c.new z0 <;> simp only [hh, cond_true, cond_false]
    · rw [hf, hL, ins_part]
      refine right_of (fun d hd => ?_) (List.pairwise_append.2 ⟨sA, List.pairwise_cons.2 ⟨fun y hy => ?_, sB⟩, fun x hx y hy => ?_⟩)
      · rcases List.mem_append.1 hd with hd | hd
        · exact hgood d (List.mem_append_left _ hd)
        · rcases List.mem_cons.1 hd with rfl | hd
          · exact ⟨h0, hn⟩
          · exact hgood d (List.mem_append_right _ hd)
      · rcases ge_of_not_lt (hBl y hy) with he | hlt
        · exact absurd he (hB y hy)
        · exact hlt
      · rcases List.mem_cons.1 hy with rfl | hy
        · exact hA x hx
        · exact sAB x hx y hy
    · exact hr
theorem right_fits {L : List Br} (hr : rightB L = true) {c : Cmd} (hc : checkB c = true) (a : Ans) : rightB (fitsL L c a) = true := by
  unfold fitsL
  cases h : (c.kind == 1 || c.kind == 4 || (c.kind == 2 && !idEq (headI L c.branch) c.old) || !ansEq a 0 c.new) with
  | true => exact hr
  | false =>
    have h4 : (c.kind == 4) = false := by
      cases h4 : c.kind == 4 with
      | false => rfl
      | true => rw [h4] at h; simp at h
    refine right_moved hr c ?_
    unfold checkB at hc
    rw [h4] at hc
    simp only [Bool.and_eq_true, cond_false] at hc
    exact hc.2.1
theorem right_step {b : List Br} (hr : rightB b = true) {p : Past} (hc : checkB p.cmd = true) (hok : (p.told == 0 || FitsB b p.cmd p.ans) = true) : rightB (stepL b p) = true := by
  unfold stepL
  cases ht : p.told == 0 with
  | true =>
    rw [cond_true, DoesL, hr, hc]
    simp only [Bool.and_self, Bool.not_true, cond_false]
    cases p.cmd.kind == 1 || p.cmd.kind == 4 with
    | true => exact hr
    | false =>
      cases fitsB b p.cmd ⟨0, p.cmd.new⟩ with
      | true => exact right_fits hr hc _
      | false => exact hr
  | false =>
    rw [ht, Bool.false_or] at hok
    rw [cond_false, FitsL, hok, cond_true]
    exact right_fits hr hc _
theorem first_none {n : Nat} {ok : Nat → Bool} (h : firstNo n ok = none) : ∀ j, j < n → ok j = true := by
  unfold firstNo at h
  rcases find_range n (fun i => !ok i) with ⟨j, h3, _⟩ | ⟨_, h4⟩
  · rw [h3] at h; cases h
  · intro j hj
    simpa using h4 j hj
theorem chk_ok {L : List Past} (h : (chk L).2 = 0) : ∀ i, i < L.length → okP L i = true := by
  unfold chk at h
  cases hd : decide (400 < L.length) with
  | true => rw [hd] at h; exact absurd h (by show ¬ ((3 : Int) = 0); decide)
  | false =>
    rw [hd, cond_false] at h
    cases hf : firstNo L.length (okP L) with
    | none => exact first_none hf
    | some i => rw [hf] at h; exact absurd h (by show ¬ ((340 : Int) = 0); decide)
theorem order_chk {L : List Past} {o : List Int} (h : (order L o).2 = 0) : (chk L).2 = 0 := by
  unfold order at h
  cases hc : (chk L).2 != 0 with
  | true => rw [hc] at h; exact h
  | false => simpa using hc
theorem okP_check {L : List Past} {i : Nat} (h : okP L i = true) : checkB (pAt L i).cmd = true := by
  unfold okP at h
  simp only [Bool.and_eq_true] at h
  exact h.1.1.1
/-- What a row alone may be refused for. -/
def badP (p : Past) : Bool := !checkB p.cmd || decide (p.asked < 1) || (p.told == 0 && !(p.ans.err == 0 && (idEq p.ans.id z0 && true))) || (p.told != 0 && decide (p.told < p.asked))
theorem okP_of (L : List Past) (i : Nat) : okP L i = (!badP (pAt L i) && !dupP L i) := by
  unfold okP badP
  have e1 : decide ((pAt L i).asked < 1) = !decide (0 < (pAt L i).asked) := by rw [Bool.eq_iff_iff]; simp; omega
  have e2 : decide ((pAt L i).told < (pAt L i).asked) = !decide ((pAt L i).asked ≤ (pAt L i).told) := by rw [Bool.eq_iff_iff]; simp
  rw [e1, e2, bne]
  cases checkB (pAt L i).cmd <;> cases decide (0 < (pAt L i).asked) <;> cases dupP L i <;> cases (pAt L i).told == 0 <;> simp
theorem dup_yes {L : List Past} {i q : Nat} (hq : q < i) (h : sameKey (pAt L q) (pAt L i) = true) : dupP L i = true := by
  unfold dupP
  rw [List.any_eq_true]
  exact ⟨q, List.mem_range.2 hq, h⟩
theorem dup_no {L : List Past} {i : Nat} (h : ∀ q, q < i → sameKey (pAt L q) (pAt L i) = false) : dupP L i = false := by
  unfold dupP
  rw [List.any_eq_false]
  exact fun q hq => by rw [h q (List.mem_range.1 hq)]; simp
theorem oAt_take (o : List Int) (i j : Nat) (h : j < i) : oAt (o.take i) j = oAt o j := by
  unfold oAt
  simp only [List.getD_eq_getElem?_getD]
  rw [List.getElem?_take_of_lt h]
theorem inB_take (o : List Int) (i : Nat) (hi : i ≤ o.length) (k : Int) : inB (o.take i) k = (List.range i).any fun j => oAt o j == k := by
  unfold inB
  have hl : (o.take i).length = i := by rw [List.length_take]; omega
  rw [hl, Bool.eq_iff_iff, List.any_eq_true, List.any_eq_true]
  constructor
  · rintro ⟨j, hj, h⟩
    rw [oAt_take o i j (List.mem_range.1 hj)] at h
    exact ⟨j, hj, h⟩
  · rintro ⟨j, hj, h⟩
    rw [← oAt_take o i j (List.mem_range.1 hj)] at h
    exact ⟨j, hj, h⟩
theorem isOrd_take (o : List Int) (i : Nat) (hi : i ≤ o.length) : IsOrd (AV.rows 1 (i - Int.toNat 0) fun j => AV.pl (Value.int IntKind.i64 (oAt o (Int.toNat 0 + j)))) (o.take i) := by
  have e0 : Int.toNat 0 = 0 := rfl
  refine ⟨rfl, by rw [List.length_take, e0]; omega, fun j hj => ?_⟩
  rw [List.length_take] at hj
  dsimp only
  rw [e0, Nat.zero_add, ← oAt_take o i j (by omega)]
  rfl
theorem lastTo_lt (L : List Past) (o : List Int) {t : Int} (ht : 0 < t) : ∀ i, t < lastTo L o i ↔ ∃ j, j < i ∧ t < (rowAt L o j).asked := by
  intro i
  induction i with
  | zero => exact ⟨fun h => by rw [lastTo] at h; omega, fun ⟨j, hj, _⟩ => by omega⟩
  | succ i ih =>
    rw [lastTo]
    constructor
    · intro h
      split at h
      · exact ⟨i, by omega, h⟩
      · obtain ⟨j, hj, h2⟩ := ih.1 h
        exact ⟨j, by omega, h2⟩
    · rintro ⟨j, hj, h⟩
      split
      · rename_i hh
        rcases Nat.lt_or_ge j i with h1 | h1
        · have := ih.2 ⟨j, h1, h⟩; omega
        · have : j = i := by omega
          subst this; exact h
      · rename_i hh
        rcases Nat.lt_or_ge j i with h1 | h1
        · exact ih.2 ⟨j, h1, h⟩
        · have : j = i := by omega
          subst this; omega
theorem okL_no {L : List Past} {o : List Int} {i j : Nat} (hj : j < i) (h1 : 0 < (rowAt L o i).told) (h2 : (rowAt L o i).told < (rowAt L o j).asked) : okL L o i = false := by
  unfold okL
  rw [decide_eq_true h1, decide_eq_true ((lastTo_lt L o h1 i).2 ⟨j, hj, h2⟩)]
  rfl
theorem okL_yes {L : List Past} {o : List Int} {i : Nat} (h : ∀ j, j < i → ¬ (0 < (rowAt L o i).told ∧ (rowAt L o i).told < (rowAt L o j).asked)) : okL L o i = true := by
  unfold okL
  cases h1 : decide (0 < (rowAt L o i).told) with
  | false => rfl
  | true =>
    have h1' := of_decide_eq_true h1
    rw [decide_eq_false (fun h2 => by
      obtain ⟨j, hj, h3⟩ := (lastTo_lt L o h1' i).1 h2
      exact h j hj ⟨h1', h3⟩)]
    rfl
end Go.Proofs.R1

namespace Go.Proofs.R1
open Go Go.Am

theorem v42 (n : Nat) (u v : Nat → Int) (inv : Nat → Prop) (R : AV → List LObj → Prop) :
    (vcA false 0 [] Try.prog (mkTab []) (Try.f42.body.getD .skip) ([.loop 3 Nat inv (fun p => ⟨slotsOf 31 0 [(0, .rows 1 n (fun i => .pl (.int .u8 (u i)))), (1, .rows 1 n (fun i => .pl (.int .u8 (v i)))), (5, bl true), (6, nm p)], []⟩) (fun p => n - p) (fun _ => [])]) (finalK Try.prog Try.f42 (R)) (startSt Try.f42 ([.rows 1 n (fun i => .pl (.int .u8 (u i))), .rows 1 n (fun i => .pl (.int .u8 (v i)))]))) = (
    (∃ (x : Nat),
    (((1 : Nat) = (1 : Nat) ∧
    n = n ∧ ∀ (i : Nat), i < n → AV.pl (Value.int IntKind.u8 (u i)) = AV.pl (Value.int IntKind.u8 (u i))) ∧
    ((1 : Nat) = (1 : Nat) ∧
    n = n ∧ ∀ (i : Nat), i < n → AV.pl (Value.int IntKind.u8 (v i)) = AV.pl (Value.int IntKind.u8 (v i))) ∧
    ((↑n : Int) == (↑n : Int)) = true ∧ (0 : Int) = (↑x : Int) ∧ True) ∧
    True ∧ inv x) ∧
    ∀ (x : Nat),
    inv x →
    ((bif true then decide ((↑x : Int) < (↑n : Int)) else false) = true →
    ((0 : Int) ≤ (↑x : Int) ∧ (↑x : Int) + (1 : Int) ≤ (↑n : Int)) ∧
    ((0 : Int) ≤ (↑x : Int) ∧ (↑x : Int) + (1 : Int) ≤ (↑n : Int)) ∧
    ((0 : Int) ≤ (↑x : Int) ∧ (↑x : Int) + (1 : Int) ≤ (↑n : Int)) ∧
    ((0 : Int) ≤ (↑x : Int) ∧ (↑x : Int) + (1 : Int) ≤ (↑n : Int)) ∧
    ∃ (y : Nat),
    (((1 : Nat) = (1 : Nat) ∧
    n = n ∧
    ∀ (i : Nat),
    i < n → AV.pl (Value.int IntKind.u8 (u i)) = AV.pl (Value.int IntKind.u8 (u i))) ∧
    ((1 : Nat) = (1 : Nat) ∧
    n = n ∧
    ∀ (i : Nat),
    i < n → AV.pl (Value.int IntKind.u8 (v i)) = AV.pl (Value.int IntKind.u8 (v i))) ∧
    (u (↑x : Int).toNat == v (↑x : Int).toNat) = true ∧
    IntKind.i64.wrap ((↑x : Int) + (1 : Int)) = (↑y : Int) ∧ True) ∧
    True ∧ inv y ∧ (n - y).succ.le (n - x)) ∧
    ((bif true then decide ((↑x : Int) < (↑n : Int)) else false) = false →
    (True ∧ True) ∧ True ∧ R (AV.pl (Value.bool true)) [])) := by kernel_rfl
theorem v35 (c : Cmd) (R : AV → List LObj → Prop) :
    (vcA false 0 [] Try.prog (mkTab [(42, .lend T42)]) (Try.f35.body.getD .skip) ([]) (finalK Try.prog Try.f35 (R)) (startSt Try.f35 ([c.av, c.av]))) = (
    True ∧
    True ∧
    (gEq
    (bif
    bif
    bif
    bif bif c.kind == c.kind then c.client == c.client else false then c.seq == c.seq
    else false then
    c.branch.toList == c.branch.toList
    else false then
    (List.range (32 : Nat)).all fun (i : Nat) => c.old i == c.old i
    else false then
    (List.range (32 : Nat)).all fun (i : Nat) => c.new i == c.new i
    else false)
    true =
    true →
    IsSame c.dn c.df c.dn c.df ∧
    true = true ∧ (True ∧ True) ∧ True ∧ R (AV.pl (Value.bool (bif true then true else false))) []) ∧
    (gEq
    (bif
    bif
    bif
    bif bif c.kind == c.kind then c.client == c.client else false then c.seq == c.seq
    else false then
    c.branch.toList == c.branch.toList
    else false then
    (List.range (32 : Nat)).all fun (i : Nat) => c.old i == c.old i
    else false then
    (List.range (32 : Nat)).all fun (i : Nat) => c.new i == c.new i
    else false)
    true =
    false →
    true = true ∧ (True ∧ True) ∧ True ∧ R (AV.pl (Value.bool false)) [])) := by kernel_rfl
theorem v23 (L : List Past) (inv : Nat → Prop) (R : AV → List LObj → Prop) :
    (vcA false 0 [] Try.prog (mkTab [(35, .lend T35)]) (Try.f23.body.getD .skip) ([.loop 4 Nat inv (fun p => ⟨slotsOf 68 0 [(0, pasts L), (1, pasts L), (12, nm L.length), (13, nm p)], []⟩) (fun p => L.length - p) (fun _ => [])]) (finalK Try.prog Try.f23 (R)) (startSt Try.f23 ([pasts L, pasts L]))) = (
    (((↑L.length : Int) != (↑L.length : Int)) = true → (True ∧ True) ∧ True ∧ R (AV.pl (Value.bool false)) []) ∧
    (((↑L.length : Int) != (↑L.length : Int)) = false →
    (∃ (x : Nat),
    (((104 : Nat) = (104 : Nat) ∧ L.length = L.length ∧ ∀ (i : Nat), i < L.length → pastF L i = pastF L i) ∧
    ((104 : Nat) = (104 : Nat) ∧ L.length = L.length ∧ ∀ (i : Nat), i < L.length → pastF L i = pastF L i) ∧
    (↑L.length : Int) = (↑L.length : Int) ∧ (0 : Int) = (↑x : Int) ∧ True) ∧
    True ∧ inv x) ∧
    ∀ (x : Nat),
    inv x →
    (decide ((↑x : Int) < (↑L.length : Int)) = true →
    ((0 : Int) ≤ (↑x : Int) ∧ (↑x : Int) + (1 : Int) ≤ (↑L.length : Int)) ∧
    ((0 : Int) ≤ (↑x : Int) ∧ (↑x : Int) + (1 : Int) ≤ (↑L.length : Int)) ∧
    ((0 : Int) ≤ (↑x : Int) ∧ (↑x : Int) + (1 : Int) ≤ (↑L.length : Int)) ∧
    ((0 : Int) ≤ (↑x : Int) ∧ (↑x : Int) + (1 : Int) ≤ (↑L.length : Int)) ∧
    ∃ (c : Cmd),
    IsCmd
    (AV.agg
    [AV.pl (Value.int IntKind.i64 (pAt L (↑x : Int).toNat).cmd.kind),
    AV.pl (Value.int IntKind.i64 (pAt L (↑x : Int).toNat).cmd.client),
    AV.pl (Value.int IntKind.u32 (pAt L (↑x : Int).toNat).cmd.seq),
    AV.pl (Value.string (pAt L (↑x : Int).toNat).cmd.branch),
    AV.iarr IntKind.u8 (32 : Nat) (pAt L (↑x : Int).toNat).cmd.old,
    AV.iarr IntKind.u8 (32 : Nat) (pAt L (↑x : Int).toNat).cmd.new,
    AV.rows (1 : Nat) (pAt L (↑x : Int).toNat).cmd.dn (pAt L (↑x : Int).toNat).cmd.df])
    c ∧
    IsCmd
    (AV.agg
    [AV.pl (Value.int IntKind.i64 (pAt L (↑x : Int).toNat).cmd.kind),
    AV.pl (Value.int IntKind.i64 (pAt L (↑x : Int).toNat).cmd.client),
    AV.pl (Value.int IntKind.u32 (pAt L (↑x : Int).toNat).cmd.seq),
    AV.pl (Value.string (pAt L (↑x : Int).toNat).cmd.branch),
    AV.iarr IntKind.u8 (32 : Nat) (pAt L (↑x : Int).toNat).cmd.old,
    AV.iarr IntKind.u8 (32 : Nat) (pAt L (↑x : Int).toNat).cmd.new,
    AV.rows (1 : Nat) (pAt L (↑x : Int).toNat).cmd.dn (pAt L (↑x : Int).toNat).cmd.df])
    c ∧
    IsKnown c.dn c.df ∧
    (gEq (!true) false = true →
    ((0 : Int) ≤ (↑x : Int) ∧ (↑x : Int) + (1 : Int) ≤ (↑L.length : Int)) ∧ True) ∧
    (gEq (!true) false = true →
    ((0 : Int) ≤ (↑x : Int) ∧ (↑x : Int) + (1 : Int) ≤ (↑L.length : Int)) ∧ True) ∧
    (gEq (!true) false = true →
    ((0 : Int) ≤ (↑x : Int) ∧ (↑x : Int) + (1 : Int) ≤ (↑L.length : Int)) ∧ True) ∧
    (gEq (!true) false = true →
    ((0 : Int) ≤ (↑x : Int) ∧ (↑x : Int) + (1 : Int) ≤ (↑L.length : Int)) ∧ True) ∧
    (gEq
    (bif !true then true
    else (pAt L (↑x : Int).toNat).asked != (pAt L (↑x : Int).toNat).asked)
    false =
    true →
    ((0 : Int) ≤ (↑x : Int) ∧ (↑x : Int) + (1 : Int) ≤ (↑L.length : Int)) ∧
    True) ∧
    (gEq
    (bif !true then true
    else (pAt L (↑x : Int).toNat).asked != (pAt L (↑x : Int).toNat).asked)
    false =
    true →
    ((0 : Int) ≤ (↑x : Int) ∧ (↑x : Int) + (1 : Int) ≤ (↑L.length : Int)) ∧
    True) ∧
    (gEq
    (bif !true then true
    else (pAt L (↑x : Int).toNat).asked != (pAt L (↑x : Int).toNat).asked)
    false =
    true →
    ((0 : Int) ≤ (↑x : Int) ∧ (↑x : Int) + (1 : Int) ≤ (↑L.length : Int)) ∧
    True) ∧
    (gEq
    (bif !true then true
    else
    (pAt L (↑x : Int).toNat).asked != (pAt L (↑x : Int).toNat).asked)
    false =
    true →
    ((0 : Int) ≤ (↑x : Int) ∧ (↑x : Int) + (1 : Int) ≤ (↑L.length : Int)) ∧
    True) ∧
    (gEq
    (bif
    bif !true then true
    else
    (pAt L (↑x : Int).toNat).asked !=
    (pAt L (↑x : Int).toNat).asked then
    true
    else
    (pAt L (↑x : Int).toNat).told != (pAt L (↑x : Int).toNat).told)
    false =
    true →
    ((0 : Int) ≤ (↑x : Int) ∧
    (↑x : Int) + (1 : Int) ≤ (↑L.length : Int)) ∧
    True) ∧
    (gEq
    (bif
    bif !true then true
    else
    (pAt L (↑x : Int).toNat).asked !=
    (pAt L (↑x : Int).toNat).asked then
    true
    else
    (pAt L (↑x : Int).toNat).told !=
    (pAt L (↑x : Int).toNat).told)
    false =
    true →
    ((0 : Int) ≤ (↑x : Int) ∧
    (↑x : Int) + (1 : Int) ≤ (↑L.length : Int)) ∧
    True) ∧
    (gEq
    (bif
    bif !true then true
    else
    (pAt L (↑x : Int).toNat).asked !=
    (pAt L (↑x : Int).toNat).asked then
    true
    else
    (pAt L (↑x : Int).toNat).told !=
    (pAt L (↑x : Int).toNat).told)
    false =
    true →
    ((0 : Int) ≤ (↑x : Int) ∧
    (↑x : Int) + (1 : Int) ≤ (↑L.length : Int)) ∧
    True) ∧
    (gEq
    (bif
    bif !true then true
    else
    (pAt L (↑x : Int).toNat).asked !=
    (pAt L (↑x : Int).toNat).asked then
    true
    else
    (pAt L (↑x : Int).toNat).told !=
    (pAt L (↑x : Int).toNat).told)
    false =
    true →
    ((0 : Int) ≤ (↑x : Int) ∧
    (↑x : Int) + (1 : Int) ≤ (↑L.length : Int)) ∧
    True) ∧
    ((bif
    bif
    bif !true then true
    else
    (pAt L (↑x : Int).toNat).asked !=
    (pAt L (↑x : Int).toNat).asked then
    true
    else
    (pAt L (↑x : Int).toNat).told !=
    (pAt L (↑x : Int).toNat).told then
    true
    else
    !((pAt L (↑x : Int).toNat).ans.err ==
    (pAt L (↑x : Int).toNat).ans.err &&
    (((List.range (32 : Nat)).all fun (i : Nat) =>
    (pAt L (↑x : Int).toNat).ans.id i ==
    (pAt L (↑x : Int).toNat).ans.id i) &&
    true))) =
    true →
    (True ∧ True) ∧ True ∧ R (AV.pl (Value.bool false)) []) ∧
    ((bif
    bif
    bif !true then true
    else
    (pAt L (↑x : Int).toNat).asked !=
    (pAt L (↑x : Int).toNat).asked then
    true
    else
    (pAt L (↑x : Int).toNat).told !=
    (pAt L (↑x : Int).toNat).told then
    true
    else
    !((pAt L (↑x : Int).toNat).ans.err ==
    (pAt L (↑x : Int).toNat).ans.err &&
    (((List.range (32 : Nat)).all fun (i : Nat) =>
    (pAt L (↑x : Int).toNat).ans.id i ==
    (pAt L (↑x : Int).toNat).ans.id i) &&
    true))) =
    false →
    ∃ (y : Nat),
    (((104 : Nat) = (104 : Nat) ∧
    L.length = L.length ∧
    ∀ (i : Nat), i < L.length → pastF L i = pastF L i) ∧
    ((104 : Nat) = (104 : Nat) ∧
    L.length = L.length ∧
    ∀ (i : Nat),
    i < L.length → pastF L i = pastF L i) ∧
    (↑L.length : Int) = (↑L.length : Int) ∧
    IntKind.i64.wrap ((↑x : Int) + (1 : Int)) =
    (↑y : Int) ∧
    True) ∧
    True ∧ inv y ∧ (L.length - y).succ.le (L.length - x))) ∧
    (decide ((↑x : Int) < (↑L.length : Int)) = false → (True ∧ True) ∧ True ∧ R (AV.pl (Value.bool true)) []))) := by kernel_rfl
theorem v16 (L S : List Past) (inv : Nat × List Past → Prop) (R : AV → List LObj → Prop) :
    (vcA false 0 [] Try.prog (mkTab [(8, .lend T8)]) (Try.f16.body.getD .skip) ([.loop 3 (Nat × List Past) inv (fun p => ⟨slotsOf 34 0 [(0, pasts L), (3, .own 0 0 p.2.length), (6, pasts L), (7, nm L.length), (8, nm p.1)], [pastsO p.2]⟩) (fun p => L.length - p.1) (fun _ => [])]) (finalK Try.prog Try.f16 (fun y H => ∃ _ : Unit, leSt 0 ⟨[y], H⟩ ⟨[.own 0 0 S.length], [pastsO S]⟩ (R (.own 0 0 S.length) [pastsO S]))) (startSt Try.f16 ([pasts L]))) = (
    (∃ (x : Nat × List Past),
    (((104 : Nat) = (104 : Nat) ∧ L.length = L.length ∧ ∀ (i : Nat), i < L.length → pastF L i = pastF L i) ∧
    (True ∧ True ∧ (0 : Nat) = (0 : Nat) ∧ x.snd.length = (0 : Nat)) ∧
    ((104 : Nat) = (104 : Nat) ∧ L.length = L.length ∧ ∀ (i : Nat), i < L.length → pastF L i = pastF L i) ∧
    (↑L.length : Int) = (↑L.length : Int) ∧ (0 : Int) = (↑x.fst : Int) ∧ True) ∧
    (x.snd.length = (0 : Nat) ∧ True) ∧ inv x) ∧
    ∀ (x : Nat × List Past),
    inv x →
    (decide ((↑x.fst : Int) < (↑L.length : Int)) = true →
    ((0 : Int) ≤ (↑x.fst : Int) ∧ (↑x.fst : Int) + (1 : Int) ≤ (↑L.length : Int)) ∧
    True ∧
    True ∧
    ((bif bif (↑x.fst : Int) == (40 : Int) then decide ((↑L.length : Int) ≤ (400 : Int)) else false then
    true
    else (↑x.fst : Int) == (401 : Int)) =
    true →
    (True ∧ True) ∧
    True ∧
    ∃ (_ : Unit),
    ((True ∧ (0 : Nat) = (0 : Nat) ∧ x.snd.length = S.length) ∧ True) ∧
    (((104 : Nat) = (104 : Nat) ∧
    (64 : Nat) = (64 : Nat) ∧
    S.length.le x.snd.length ∧
    ∀ (i : Nat),
    i < S.length →
    AV.agg
    [AV.pl (Value.int IntKind.i64 (pAt x.snd i).cmd.kind),
    AV.pl (Value.int IntKind.i64 (pAt x.snd i).cmd.client),
    AV.pl (Value.int IntKind.u32 (pAt x.snd i).cmd.seq),
    AV.pl (Value.string (pAt x.snd i).cmd.branch),
    AV.iarr IntKind.u8 (32 : Nat) (pAt x.snd i).cmd.old,
    AV.iarr IntKind.u8 (32 : Nat) (pAt x.snd i).cmd.new,
    AV.rows (1 : Nat) (pAt x.snd i).cmd.dn (pAt x.snd i).cmd.df,
    AV.pl (Value.int IntKind.i64 (pAt x.snd i).asked),
    AV.pl (Value.int IntKind.i64 (pAt x.snd i).told),
    AV.pl (Value.int IntKind.i64 (pAt x.snd i).ans.err),
    AV.iarr IntKind.u8 (32 : Nat) (pAt x.snd i).ans.id] =
    AV.agg
    [AV.pl (Value.int IntKind.i64 (pAt S i).cmd.kind),
    AV.pl (Value.int IntKind.i64 (pAt S i).cmd.client),
    AV.pl (Value.int IntKind.u32 (pAt S i).cmd.seq),
    AV.pl (Value.string (pAt S i).cmd.branch),
    AV.iarr IntKind.u8 (32 : Nat) (pAt S i).cmd.old,
    AV.iarr IntKind.u8 (32 : Nat) (pAt S i).cmd.new,
    AV.rows (1 : Nat) (pAt S i).cmd.dn (pAt S i).cmd.df,
    AV.pl (Value.int IntKind.i64 (pAt S i).asked),
    AV.pl (Value.int IntKind.i64 (pAt S i).told),
    AV.pl (Value.int IntKind.i64 (pAt S i).ans.err),
    AV.iarr IntKind.u8 (32 : Nat) (pAt S i).ans.id]) ∧
    True) ∧
    R (AV.own (0 : Nat) (0 : Nat) S.length)
    [LObj.row (104 : Nat) (64 : Nat) S.length (pastF S)]) ∧
    ((bif bif (↑x.fst : Int) == (40 : Int) then decide ((↑L.length : Int) ≤ (400 : Int)) else false then
    true
    else (↑x.fst : Int) == (401 : Int)) =
    false →
    ∃ (c : Cmd),
    IsCmd
    (AV.agg
    [AV.pl (Value.int IntKind.i64 (pAt L (↑x.fst : Int).toNat).cmd.kind),
    AV.pl (Value.int IntKind.i64 (pAt L (↑x.fst : Int).toNat).cmd.client),
    AV.pl (Value.int IntKind.u32 (pAt L (↑x.fst : Int).toNat).cmd.seq),
    AV.pl (Value.string (pAt L (↑x.fst : Int).toNat).cmd.branch),
    AV.iarr IntKind.u8 (32 : Nat) (pAt L (↑x.fst : Int).toNat).cmd.old,
    AV.iarr IntKind.u8 (32 : Nat) (pAt L (↑x.fst : Int).toNat).cmd.new,
    AV.rows (1 : Nat) (pAt L (↑x.fst : Int).toNat).cmd.dn
    (pAt L (↑x.fst : Int).toNat).cmd.df])
    c ∧
    True ∧
    True ∧
    (((0 : Nat) + (1 : Nat)).le (1 : Nat) ∧
    x.snd.length = x.snd.length ∧
    (x.snd.length + (1 : Nat)).le maxLen ∧
    ((x.snd.length + (1 : Nat)) * (184 : Nat)).le (140737488355328 : Nat)) ∧
    ∃ (y : Nat × List Past),
    (((104 : Nat) = (104 : Nat) ∧
    L.length = L.length ∧ ∀ (i : Nat), i < L.length → pastF L i = pastF L i) ∧
    (True ∧ (0 : Nat) = (0 : Nat) ∧ x.snd.length + (1 : Nat) = y.snd.length) ∧
    ((104 : Nat) = (104 : Nat) ∧
    L.length = L.length ∧ ∀ (i : Nat), i < L.length → pastF L i = pastF L i) ∧
    (↑L.length : Int) = (↑L.length : Int) ∧
    IntKind.i64.wrap ((↑x.fst : Int) + (1 : Int)) = (↑y.fst : Int) ∧ True) ∧
    (((104 : Nat) = (104 : Nat) ∧
    (64 : Nat) = (64 : Nat) ∧
    y.snd.length.le (x.snd.length + (1 : Nat)) ∧
    ∀ (i : Nat),
    i < y.snd.length →
    (if i < x.snd.length then
    AV.agg
    [AV.pl (Value.int IntKind.i64 (pAt x.snd i).cmd.kind),
    AV.pl (Value.int IntKind.i64 (pAt x.snd i).cmd.client),
    AV.pl (Value.int IntKind.u32 (pAt x.snd i).cmd.seq),
    AV.pl (Value.string (pAt x.snd i).cmd.branch),
    AV.iarr IntKind.u8 (32 : Nat) (pAt x.snd i).cmd.old,
    AV.iarr IntKind.u8 (32 : Nat) (pAt x.snd i).cmd.new,
    AV.rows (1 : Nat) (pAt x.snd i).cmd.dn (pAt x.snd i).cmd.df,
    AV.pl (Value.int IntKind.i64 (pAt x.snd i).asked),
    AV.pl (Value.int IntKind.i64 (pAt x.snd i).told),
    AV.pl (Value.int IntKind.i64 (pAt x.snd i).ans.err),
    AV.iarr IntKind.u8 (32 : Nat) (pAt x.snd i).ans.id]
    else
    rowOf
    [((0 : Nat),
    AV.agg
    [AV.pl (Value.int IntKind.i64 (cutC c).kind),
    AV.pl (Value.int IntKind.i64 (cutC c).client),
    AV.pl (Value.int IntKind.u32 (cutC c).seq),
    AV.pl (Value.string (cutC c).branch),
    AV.iarr IntKind.u8 (32 : Nat) (cutC c).old,
    AV.iarr IntKind.u8 (32 : Nat) (cutC c).new,
    AV.rows (1 : Nat) (cutC c).dn (cutC c).df,
    AV.pl
    (Value.int IntKind.i64
    (pAt L (↑x.fst : Int).toNat).asked),
    AV.pl
    (Value.int IntKind.i64
    (pAt L (↑x.fst : Int).toNat).told),
    AV.pl
    (Value.int IntKind.i64
    (pAt L (↑x.fst : Int).toNat).ans.err),
    AV.iarr IntKind.u8 (32 : Nat)
    (pAt L (↑x.fst : Int).toNat).ans.id])]
    ((0 : Nat) + (i - x.snd.length))) =
    AV.agg
    [AV.pl (Value.int IntKind.i64 (pAt y.snd i).cmd.kind),
    AV.pl (Value.int IntKind.i64 (pAt y.snd i).cmd.client),
    AV.pl (Value.int IntKind.u32 (pAt y.snd i).cmd.seq),
    AV.pl (Value.string (pAt y.snd i).cmd.branch),
    AV.iarr IntKind.u8 (32 : Nat) (pAt y.snd i).cmd.old,
    AV.iarr IntKind.u8 (32 : Nat) (pAt y.snd i).cmd.new,
    AV.rows (1 : Nat) (pAt y.snd i).cmd.dn (pAt y.snd i).cmd.df,
    AV.pl (Value.int IntKind.i64 (pAt y.snd i).asked),
    AV.pl (Value.int IntKind.i64 (pAt y.snd i).told),
    AV.pl (Value.int IntKind.i64 (pAt y.snd i).ans.err),
    AV.iarr IntKind.u8 (32 : Nat) (pAt y.snd i).ans.id]) ∧
    True) ∧
    inv y ∧ (L.length - y.fst).succ.le (L.length - x.fst))) ∧
    (decide ((↑x.fst : Int) < (↑L.length : Int)) = false →
    (True ∧ True) ∧
    True ∧
    ∃ (_ : Unit),
    ((True ∧ (0 : Nat) = (0 : Nat) ∧ x.snd.length = S.length) ∧ True) ∧
    (((104 : Nat) = (104 : Nat) ∧
    (64 : Nat) = (64 : Nat) ∧
    S.length.le x.snd.length ∧
    ∀ (i : Nat),
    i < S.length →
    AV.agg
    [AV.pl (Value.int IntKind.i64 (pAt x.snd i).cmd.kind),
    AV.pl (Value.int IntKind.i64 (pAt x.snd i).cmd.client),
    AV.pl (Value.int IntKind.u32 (pAt x.snd i).cmd.seq),
    AV.pl (Value.string (pAt x.snd i).cmd.branch),
    AV.iarr IntKind.u8 (32 : Nat) (pAt x.snd i).cmd.old,
    AV.iarr IntKind.u8 (32 : Nat) (pAt x.snd i).cmd.new,
    AV.rows (1 : Nat) (pAt x.snd i).cmd.dn (pAt x.snd i).cmd.df,
    AV.pl (Value.int IntKind.i64 (pAt x.snd i).asked),
    AV.pl (Value.int IntKind.i64 (pAt x.snd i).told),
    AV.pl (Value.int IntKind.i64 (pAt x.snd i).ans.err),
    AV.iarr IntKind.u8 (32 : Nat) (pAt x.snd i).ans.id] =
    AV.agg
    [AV.pl (Value.int IntKind.i64 (pAt S i).cmd.kind),
    AV.pl (Value.int IntKind.i64 (pAt S i).cmd.client),
    AV.pl (Value.int IntKind.u32 (pAt S i).cmd.seq),
    AV.pl (Value.string (pAt S i).cmd.branch),
    AV.iarr IntKind.u8 (32 : Nat) (pAt S i).cmd.old,
    AV.iarr IntKind.u8 (32 : Nat) (pAt S i).cmd.new,
    AV.rows (1 : Nat) (pAt S i).cmd.dn (pAt S i).cmd.df,
    AV.pl (Value.int IntKind.i64 (pAt S i).asked),
    AV.pl (Value.int IntKind.i64 (pAt S i).told),
    AV.pl (Value.int IntKind.i64 (pAt S i).ans.err),
    AV.iarr IntKind.u8 (32 : Nat) (pAt S i).ans.id]) ∧
    True) ∧
    R (AV.own (0 : Nat) (0 : Nat) S.length) [LObj.row (104 : Nat) (64 : Nat) S.length (pastF S)])) := by kernel_rfl
theorem v18 (L : List Past) (inv : Nat → Prop) (inv2 : Nat → Nat → Prop) (R : AV → List LObj → Prop) :
    (vcA false 0 [] Try.prog (mkTab [(13, .lend T13)]) (Try.f18.body.getD .skip) ([.loop 4 Nat inv (fun p => ⟨slotsOf 78 0 [(0, pasts L), (11, pasts L), (12, nm L.length), (13, nm p)], []⟩) (fun p => L.length - p) (fun p => [.loop 9 Nat (inv2 p) (fun q => ⟨slotsOf 78 0 [(0, pasts L), (4, nm p), (5, .ptr 0 0 0 0), (11, pasts L), (12, nm L.length), (13, nm p), (53, .rows 104 p (pastF L)), (54, nm p), (55, nm q)], [.box 64 (partsL (pAt L p).av)]⟩) (fun q => p - q) (fun _ => [])])]) (finalK Try.prog Try.f18 (R)) (startSt Try.f18 ([pasts L]))) = (
    (decide ((↑L.length : Int) > (400 : Int)) = true →
    (True ∧ True ∧ True) ∧
    (True ∧ True ∧ True) ∧
    R (AV.tup [AV.pl (Value.int IntKind.i64 (0 : Int)), AV.pl (Value.int IntKind.i64 (3 : Int))]) []) ∧
    (decide ((↑L.length : Int) > (400 : Int)) = false →
    (∃ (x : Nat),
    (((104 : Nat) = (104 : Nat) ∧ L.length = L.length ∧ ∀ (i : Nat), i < L.length → pastF L i = pastF L i) ∧
    ((104 : Nat) = (104 : Nat) ∧ L.length = L.length ∧ ∀ (i : Nat), i < L.length → pastF L i = pastF L i) ∧
    (↑L.length : Int) = (↑L.length : Int) ∧ (0 : Int) = (↑x : Int) ∧ True) ∧
    True ∧ inv x) ∧
    ∀ (x : Nat),
    inv x →
    (decide ((↑x : Int) < (↑L.length : Int)) = true →
    ((0 : Int) ≤ (↑x : Int) ∧ (↑x : Int) + (1 : Int) ≤ (↑L.length : Int)) ∧
    True ∧
    True ∧
    ∃ (c : Cmd),
    IsCmd
    (AV.agg
    [AV.pl (Value.int IntKind.i64 (pAt L (↑x : Int).toNat).cmd.kind),
    AV.pl (Value.int IntKind.i64 (pAt L (↑x : Int).toNat).cmd.client),
    AV.pl (Value.int IntKind.u32 (pAt L (↑x : Int).toNat).cmd.seq),
    AV.pl (Value.string (pAt L (↑x : Int).toNat).cmd.branch),
    AV.iarr IntKind.u8 (32 : Nat) (pAt L (↑x : Int).toNat).cmd.old,
    AV.iarr IntKind.u8 (32 : Nat) (pAt L (↑x : Int).toNat).cmd.new,
    AV.rows (1 : Nat) (pAt L (↑x : Int).toNat).cmd.dn (pAt L (↑x : Int).toNat).cmd.df])
    c ∧
    (0 : Int) ≤ c.seq ∧
    ((bif
    bif
    bif !checkB c then true
    else decide ((pAt L (↑x : Int).toNat).asked < (1 : Int)) then
    true
    else
    bif (pAt L (↑x : Int).toNat).told == (0 : Int) then
    !((pAt L (↑x : Int).toNat).ans.err == (0 : Int) &&
    (((List.range (32 : Nat)).all fun (i : Nat) =>
    (pAt L (↑x : Int).toNat).ans.id i == (0 : Int)) &&
    true))
    else false then
    true
    else
    bif (pAt L (↑x : Int).toNat).told != (0 : Int) then
    decide ((pAt L (↑x : Int).toNat).told < (pAt L (↑x : Int).toNat).asked)
    else false) =
    true →
    (True ∧ True ∧ True) ∧
    (True ∧ True ∧ True) ∧
    R
    (AV.tup
    [AV.pl (Value.int IntKind.i64 (↑x : Int)),
    AV.pl (Value.int IntKind.i64 (340 : Int))])
    []) ∧
    ((bif
    bif
    bif !checkB c then true
    else decide ((pAt L (↑x : Int).toNat).asked < (1 : Int)) then
    true
    else
    bif (pAt L (↑x : Int).toNat).told == (0 : Int) then
    !((pAt L (↑x : Int).toNat).ans.err == (0 : Int) &&
    (((List.range (32 : Nat)).all fun (i : Nat) =>
    (pAt L (↑x : Int).toNat).ans.id i == (0 : Int)) &&
    true))
    else false then
    true
    else
    bif (pAt L (↑x : Int).toNat).told != (0 : Int) then
    decide ((pAt L (↑x : Int).toNat).told < (pAt L (↑x : Int).toNat).asked)
    else false) =
    false →
    ((0 : Int) ≤ (0 : Int) ∧ (0 : Int) ≤ (↑x : Int) ∧ (↑x : Int) ≤ (↑L.length : Int)) ∧
    (∃ (x_1 : Nat),
    (((104 : Nat) = (104 : Nat) ∧
    L.length = L.length ∧ ∀ (i : Nat), i < L.length → pastF L i = pastF L i) ∧
    (↑x : Int) = (↑x : Int) ∧
    (True ∧
    (0 : Nat) = (0 : Nat) ∧ (0 : Nat) = (0 : Nat) ∧ (0 : Nat) = (0 : Nat)) ∧
    ((104 : Nat) = (104 : Nat) ∧
    L.length = L.length ∧
    ∀ (i : Nat), i < L.length → pastF L i = pastF L i) ∧
    (↑L.length : Int) = (↑L.length : Int) ∧
    (↑x : Int) = (↑x : Int) ∧
    ((104 : Nat) = (104 : Nat) ∧
    (↑x : Int).toNat - Int.toNat (0 : Int) = x ∧
    ∀ (i : Nat),
    i < (↑x : Int).toNat - Int.toNat (0 : Int) →
    AV.agg
    [AV.pl
    (Value.int IntKind.i64
    (pAt L (Int.toNat (0 : Int) + i)).cmd.kind),
    AV.pl
    (Value.int IntKind.i64
    (pAt L (Int.toNat (0 : Int) + i)).cmd.client),
    AV.pl
    (Value.int IntKind.u32
    (pAt L (Int.toNat (0 : Int) + i)).cmd.seq),
    AV.pl
    (Value.string
    (pAt L (Int.toNat (0 : Int) + i)).cmd.branch),
    AV.iarr IntKind.u8 (32 : Nat)
    (pAt L (Int.toNat (0 : Int) + i)).cmd.old,
    AV.iarr IntKind.u8 (32 : Nat)
    (pAt L (Int.toNat (0 : Int) + i)).cmd.new,
    AV.rows (1 : Nat)
    (pAt L (Int.toNat (0 : Int) + i)).cmd.dn
    (pAt L (Int.toNat (0 : Int) + i)).cmd.df,
    AV.pl
    (Value.int IntKind.i64
    (pAt L (Int.toNat (0 : Int) + i)).asked),
    AV.pl
    (Value.int IntKind.i64
    (pAt L (Int.toNat (0 : Int) + i)).told),
    AV.pl
    (Value.int IntKind.i64
    (pAt L (Int.toNat (0 : Int) + i)).ans.err),
    AV.iarr IntKind.u8 (32 : Nat)
    (pAt L (Int.toNat (0 : Int) + i)).ans.id] =
    AV.agg
    [AV.pl (Value.int IntKind.i64 (pAt L i).cmd.kind),
    AV.pl (Value.int IntKind.i64 (pAt L i).cmd.client),
    AV.pl (Value.int IntKind.u32 (pAt L i).cmd.seq),
    AV.pl (Value.string (pAt L i).cmd.branch),
    AV.iarr IntKind.u8 (32 : Nat) (pAt L i).cmd.old,
    AV.iarr IntKind.u8 (32 : Nat) (pAt L i).cmd.new,
    AV.rows (1 : Nat) (pAt L i).cmd.dn (pAt L i).cmd.df,
    AV.pl (Value.int IntKind.i64 (pAt L i).asked),
    AV.pl (Value.int IntKind.i64 (pAt L i).told),
    AV.pl (Value.int IntKind.i64 (pAt L i).ans.err),
    AV.iarr IntKind.u8 (32 : Nat) (pAt L i).ans.id]) ∧
    (↑((↑x : Int).toNat - Int.toNat (0 : Int)) : Int) = (↑x : Int) ∧
    (0 : Int) = (↑x_1 : Int) ∧ True) ∧
    (((64 : Nat) = (64 : Nat) ∧
    (pAt L (↑x : Int).toNat).cmd.kind = (pAt L x).cmd.kind ∧
    (pAt L (↑x : Int).toNat).cmd.client = (pAt L x).cmd.client ∧
    (pAt L (↑x : Int).toNat).cmd.seq = (pAt L x).cmd.seq ∧
    (pAt L (↑x : Int).toNat).cmd.branch = (pAt L x).cmd.branch ∧
    (IntKind.u8 = IntKind.u8 ∧
    (32 : Nat) = (32 : Nat) ∧
    ∀ (i : Nat),
    i < (32 : Nat) →
    (pAt L (↑x : Int).toNat).cmd.old i =
    (pAt L x).cmd.old i) ∧
    (IntKind.u8 = IntKind.u8 ∧
    (32 : Nat) = (32 : Nat) ∧
    ∀ (i : Nat),
    i < (32 : Nat) →
    (pAt L (↑x : Int).toNat).cmd.new i =
    (pAt L x).cmd.new i) ∧
    ((1 : Nat) = (1 : Nat) ∧
    (pAt L (↑x : Int).toNat).cmd.dn = (pAt L x).cmd.dn ∧
    ∀ (i : Nat),
    i < (pAt L (↑x : Int).toNat).cmd.dn →
    (pAt L (↑x : Int).toNat).cmd.df i =
    (pAt L x).cmd.df i) ∧
    (pAt L (↑x : Int).toNat).asked = (pAt L x).asked ∧
    (pAt L (↑x : Int).toNat).told = (pAt L x).told ∧
    (pAt L (↑x : Int).toNat).ans.err = (pAt L x).ans.err ∧
    (IntKind.u8 = IntKind.u8 ∧
    (32 : Nat) = (32 : Nat) ∧
    ∀ (i : Nat),
    i < (32 : Nat) →
    (pAt L (↑x : Int).toNat).ans.id i =
    (pAt L x).ans.id i) ∧
    True) ∧
    True) ∧
    inv2 x x_1) ∧
    ∀ (x_1 : Nat),
    inv2 x x_1 →
    (decide ((↑x_1 : Int) < (↑x : Int)) = true →
    ((0 : Int) ≤ (↑x_1 : Int) ∧ (↑x_1 : Int) + (1 : Int) ≤ (↑x : Int)) ∧
    True ∧
    True ∧
    ((bif (pAt L (↑x_1 : Int).toNat).cmd.client == (pAt L x).cmd.client then
    (pAt L (↑x_1 : Int).toNat).cmd.seq == (pAt L x).cmd.seq
    else false) =
    true →
    (True ∧ True ∧ True) ∧
    (True ∧ True ∧ True) ∧
    R
    (AV.tup
    [AV.pl (Value.int IntKind.i64 (↑x : Int)),
    AV.pl (Value.int IntKind.i64 (340 : Int))])
    []) ∧
    ((bif
    (pAt L (↑x_1 : Int).toNat).cmd.client ==
    (pAt L x).cmd.client then
    (pAt L (↑x_1 : Int).toNat).cmd.seq == (pAt L x).cmd.seq
    else false) =
    false →
    ∃ (y : Nat),
    (((104 : Nat) = (104 : Nat) ∧
    L.length = L.length ∧
    ∀ (i : Nat), i < L.length → pastF L i = pastF L i) ∧
    (↑x : Int) = (↑x : Int) ∧
    (True ∧
    (0 : Nat) = (0 : Nat) ∧
    (0 : Nat) = (0 : Nat) ∧ (0 : Nat) = (0 : Nat)) ∧
    ((104 : Nat) = (104 : Nat) ∧
    L.length = L.length ∧
    ∀ (i : Nat), i < L.length → pastF L i = pastF L i) ∧
    (↑L.length : Int) = (↑L.length : Int) ∧
    (↑x : Int) = (↑x : Int) ∧
    ((104 : Nat) = (104 : Nat) ∧
    x = x ∧
    ∀ (i : Nat), i < x → pastF L i = pastF L i) ∧
    (↑x : Int) = (↑x : Int) ∧
    IntKind.i64.wrap ((↑x_1 : Int) + (1 : Int)) =
    (↑y : Int) ∧
    True) ∧
    (((64 : Nat) = (64 : Nat) ∧
    (pAt L x).cmd.kind = (pAt L x).cmd.kind ∧
    (pAt L x).cmd.client = (pAt L x).cmd.client ∧
    (pAt L x).cmd.seq = (pAt L x).cmd.seq ∧
    (pAt L x).cmd.branch = (pAt L x).cmd.branch ∧
    (IntKind.u8 = IntKind.u8 ∧
    (32 : Nat) = (32 : Nat) ∧
    ∀ (i : Nat),
    i < (32 : Nat) →
    (pAt L x).cmd.old i =
    (pAt L x).cmd.old i) ∧
    (IntKind.u8 = IntKind.u8 ∧
    (32 : Nat) = (32 : Nat) ∧
    ∀ (i : Nat),
    i < (32 : Nat) →
    (pAt L x).cmd.new i =
    (pAt L x).cmd.new i) ∧
    ((1 : Nat) = (1 : Nat) ∧
    (pAt L x).cmd.dn = (pAt L x).cmd.dn ∧
    ∀ (i : Nat),
    i < (pAt L x).cmd.dn →
    (pAt L x).cmd.df i =
    (pAt L x).cmd.df i) ∧
    (pAt L x).asked = (pAt L x).asked ∧
    (pAt L x).told = (pAt L x).told ∧
    (pAt L x).ans.err = (pAt L x).ans.err ∧
    (IntKind.u8 = IntKind.u8 ∧
    (32 : Nat) = (32 : Nat) ∧
    ∀ (i : Nat),
    i < (32 : Nat) →
    (pAt L x).ans.id i =
    (pAt L x).ans.id i) ∧
    True) ∧
    True) ∧
    inv2 x y ∧ (x - y).succ.le (x - x_1))) ∧
    (decide ((↑x_1 : Int) < (↑x : Int)) = false →
    ∃ (y : Nat),
    (((104 : Nat) = (104 : Nat) ∧
    L.length = L.length ∧
    ∀ (i : Nat), i < L.length → pastF L i = pastF L i) ∧
    ((104 : Nat) = (104 : Nat) ∧
    L.length = L.length ∧
    ∀ (i : Nat), i < L.length → pastF L i = pastF L i) ∧
    (↑L.length : Int) = (↑L.length : Int) ∧
    IntKind.i64.wrap ((↑x : Int) + (1 : Int)) = (↑y : Int) ∧ True) ∧
    True ∧ inv y ∧ (L.length - y).succ.le (L.length - x)))) ∧
    (decide ((↑x : Int) < (↑L.length : Int)) = false →
    (True ∧ True ∧ True) ∧
    (True ∧ True ∧ True) ∧
    R (AV.tup [AV.pl (Value.int IntKind.i64 (0 : Int)), AV.pl (Value.int IntKind.i64 (0 : Int))]) []))) := by kernel_rfl
theorem v34 (o : List Int) (k : Int) (inv : Nat → Prop) (R : AV → List LObj → Prop) :
    (vcA false 0 [] Try.prog (mkTab []) (Try.f34.body.getD .skip) ([.loop 2 Nat inv (fun i => ⟨slotsOf 17 0 [(1, nm k), (7, ords o), (8, nm o.length), (9, nm i)], []⟩) (fun i => o.length - i) (fun _ => [])]) (finalK Try.prog Try.f34 (R)) (startSt Try.f34 ([ords o, nm k]))) = (
    (∃ (x : Nat),
    (k = k ∧
    ((1 : Nat) = (1 : Nat) ∧ o.length = o.length ∧ ∀ (i : Nat), i < o.length → ordF o i = ordF o i) ∧
    (↑o.length : Int) = (↑o.length : Int) ∧ (0 : Int) = (↑x : Int) ∧ True) ∧
    True ∧ inv x) ∧
    ∀ (x : Nat),
    inv x →
    (decide ((↑x : Int) < (↑o.length : Int)) = true →
    ((0 : Int) ≤ (↑x : Int) ∧ (↑x : Int) + (1 : Int) ≤ (↑o.length : Int)) ∧
    ((oAt o (↑x : Int).toNat == k) = true → (True ∧ True) ∧ True ∧ R (AV.pl (Value.bool true)) []) ∧
    ((oAt o (↑x : Int).toNat == k) = false →
    ∃ (y : Nat),
    (k = k ∧
    ((1 : Nat) = (1 : Nat) ∧ o.length = o.length ∧ ∀ (i : Nat), i < o.length → ordF o i = ordF o i) ∧
    (↑o.length : Int) = (↑o.length : Int) ∧
    IntKind.i64.wrap ((↑x : Int) + (1 : Int)) = (↑y : Int) ∧ True) ∧
    True ∧ inv y ∧ (o.length - y).succ.le (o.length - x))) ∧
    (decide ((↑x : Int) < (↑o.length : Int)) = false → (True ∧ True) ∧ True ∧ R (AV.pl (Value.bool false)) [])) := by kernel_rfl
theorem v20 (L : List Past) (o : List Int) (inv1 inv2 inv3 : Nat → Prop) (inv4 : Nat → Nat → Prop) (R : AV → List LObj → Prop) :
    (vcA false 0 [] Try.prog (mkTab [(18, .lend T18), (34, .lend T34)]) (Try.f20.body.getD .skip) ([.loop 5 Nat inv1 (fun i => ⟨slotsOf 104 0 [(0, pasts L), (1, ords o), (25, ords o), (26, nm o.length), (27, nm i)], []⟩) (fun i => o.length - i) (fun _ => []), .loop 11 Nat inv2 (fun i => ⟨slotsOf 104 0 [(0, pasts L), (1, ords o), (49, pasts L), (50, nm L.length), (51, nm i)], []⟩) (fun i => L.length - i) (fun _ => []), .loop 17 Nat inv3 (fun i => ⟨slotsOf 104 0 [(0, pasts L), (1, ords o), (67, ords o), (68, nm o.length), (69, nm i)], []⟩) (fun i => o.length - i) (fun i => [.loop 20 Nat (inv4 i) (fun j => ⟨slotsOf 104 0 [(0, pasts L), (1, ords o), (13, ordF o i), (67, ords o), (68, nm o.length), (69, nm i), (76, .rows 1 i (ordF o)), (77, nm i), (78, nm j)], []⟩) (fun j => i - j) (fun _ => [])])]) (finalK Try.prog Try.f20 (R)) (startSt Try.f20 ([pasts L, ords o]))) = (
    ∃ (L_1 : List Past),
    IsPasts (AV.rows (104 : Nat) L.length (pastF L)) L_1 ∧
    (∀ (i : Nat), (0 : Int) ≤ (pAt L_1 i).cmd.seq) ∧
    (((chk L_1).snd != (0 : Int)) = true →
    (True ∧ True ∧ True) ∧
    (True ∧ True ∧ True) ∧
    R (AV.tup [AV.pl (Value.int IntKind.i64 (chk L_1).fst), AV.pl (Value.int IntKind.i64 (chk L_1).snd)])
    []) ∧
    (((chk L_1).snd != (0 : Int)) = false →
    (∃ (x : Nat),
    (((104 : Nat) = (104 : Nat) ∧ L.length = L.length ∧ ∀ (i : Nat), i < L.length → pastF L i = pastF L i) ∧
    ((1 : Nat) = (1 : Nat) ∧ o.length = o.length ∧ ∀ (i : Nat), i < o.length → ordF o i = ordF o i) ∧
    ((1 : Nat) = (1 : Nat) ∧ o.length = o.length ∧ ∀ (i : Nat), i < o.length → ordF o i = ordF o i) ∧
    (↑o.length : Int) = (↑o.length : Int) ∧ (0 : Int) = (↑x : Int) ∧ True) ∧
    True ∧ inv1 x) ∧
    ∀ (x : Nat),
    inv1 x →
    (decide ((↑x : Int) < (↑o.length : Int)) = true →
    ((0 : Int) ≤ (↑x : Int) ∧ (↑x : Int) + (1 : Int) ≤ (↑o.length : Int)) ∧
    (gEq
    (bif decide (oAt o (↑x : Int).toNat < (0 : Int)) then true
    else decide (oAt o (↑x : Int).toNat ≥ (↑L.length : Int)))
    false =
    true →
    ((0 : Int) ≤ (0 : Int) ∧ (0 : Int) ≤ (↑x : Int) ∧ (↑x : Int) ≤ (↑o.length : Int)) ∧ True) ∧
    (gEq
    (bif decide (oAt o (↑x : Int).toNat < (0 : Int)) then true
    else decide (oAt o (↑x : Int).toNat ≥ (↑L.length : Int)))
    false =
    true →
    ∃ (o_1 : List Int),
    IsOrd
    (AV.rows (1 : Nat) ((↑x : Int).toNat - Int.toNat (0 : Int)) fun (i : Nat) =>
    AV.pl (Value.int IntKind.i64 (oAt o (Int.toNat (0 : Int) + i))))
    o_1 ∧
    true = true ∧
    ((bif false then true else inB o_1 (oAt o (↑x : Int).toNat)) = true →
    (True ∧ True ∧ True) ∧
    (True ∧ True ∧ True) ∧
    R
    (AV.tup
    [AV.pl (Value.int IntKind.i64 (↑x : Int)),
    AV.pl (Value.int IntKind.i64 (2 : Int))])
    []) ∧
    ((bif false then true else inB o_1 (oAt o (↑x : Int).toNat)) = false →
    ∃ (y : Nat),
    (((104 : Nat) = (104 : Nat) ∧
    L.length = L.length ∧ ∀ (i : Nat), i < L.length → pastF L i = pastF L i) ∧
    ((1 : Nat) = (1 : Nat) ∧
    o.length = o.length ∧ ∀ (i : Nat), i < o.length → ordF o i = ordF o i) ∧
    ((1 : Nat) = (1 : Nat) ∧
    o.length = o.length ∧
    ∀ (i : Nat), i < o.length → ordF o i = ordF o i) ∧
    (↑o.length : Int) = (↑o.length : Int) ∧
    IntKind.i64.wrap ((↑x : Int) + (1 : Int)) = (↑y : Int) ∧ True) ∧
    True ∧ inv1 y ∧ (o.length - y).succ.le (o.length - x))) ∧
    (gEq
    (bif decide (oAt o (↑x : Int).toNat < (0 : Int)) then true
    else decide (oAt o (↑x : Int).toNat ≥ (↑L.length : Int)))
    false =
    false →
    true = true ∧
    (true = true →
    (True ∧ True ∧ True) ∧
    (True ∧ True ∧ True) ∧
    R
    (AV.tup
    [AV.pl (Value.int IntKind.i64 (↑x : Int)),
    AV.pl (Value.int IntKind.i64 (2 : Int))])
    []) ∧
    (true = false →
    ∃ (y : Nat),
    (((104 : Nat) = (104 : Nat) ∧
    L.length = L.length ∧ ∀ (i : Nat), i < L.length → pastF L i = pastF L i) ∧
    ((1 : Nat) = (1 : Nat) ∧
    o.length = o.length ∧ ∀ (i : Nat), i < o.length → ordF o i = ordF o i) ∧
    ((1 : Nat) = (1 : Nat) ∧
    o.length = o.length ∧ ∀ (i : Nat), i < o.length → ordF o i = ordF o i) ∧
    (↑o.length : Int) = (↑o.length : Int) ∧
    IntKind.i64.wrap ((↑x : Int) + (1 : Int)) = (↑y : Int) ∧ True) ∧
    True ∧ inv1 y ∧ (o.length - y).succ.le (o.length - x)))) ∧
    (decide ((↑x : Int) < (↑o.length : Int)) = false →
    (∃ (x : Nat),
    (((104 : Nat) = (104 : Nat) ∧
    L.length = L.length ∧ ∀ (i : Nat), i < L.length → pastF L i = pastF L i) ∧
    ((1 : Nat) = (1 : Nat) ∧
    o.length = o.length ∧ ∀ (i : Nat), i < o.length → ordF o i = ordF o i) ∧
    ((104 : Nat) = (104 : Nat) ∧
    L.length = L.length ∧ ∀ (i : Nat), i < L.length → pastF L i = pastF L i) ∧
    (↑L.length : Int) = (↑L.length : Int) ∧ (0 : Int) = (↑x : Int) ∧ True) ∧
    True ∧ inv2 x) ∧
    ∀ (x : Nat),
    inv2 x →
    (decide ((↑x : Int) < (↑L.length : Int)) = true →
    ((0 : Int) ≤ (↑x : Int) ∧ (↑x : Int) + (1 : Int) ≤ (↑L.length : Int)) ∧
    True ∧
    True ∧
    (gEq (decide ((pAt L (↑x : Int).toNat).told > (0 : Int))) true = true →
    ∃ (o_1 : List Int),
    IsOrd (AV.rows (1 : Nat) o.length (ordF o)) o_1 ∧
    true = true ∧
    ((bif true then !inB o_1 (↑x : Int) else false) = true →
    (True ∧ True ∧ True) ∧
    (True ∧ True ∧ True) ∧
    R
    (AV.tup
    [AV.pl (Value.int IntKind.i64 (↑x : Int)),
    AV.pl (Value.int IntKind.i64 (341 : Int))])
    []) ∧
    ((bif true then !inB o_1 (↑x : Int) else false) = false →
    ∃ (y : Nat),
    (((104 : Nat) = (104 : Nat) ∧
    L.length = L.length ∧
    ∀ (i : Nat), i < L.length → pastF L i = pastF L i) ∧
    ((1 : Nat) = (1 : Nat) ∧
    o.length = o.length ∧
    ∀ (i : Nat), i < o.length → ordF o i = ordF o i) ∧
    ((104 : Nat) = (104 : Nat) ∧
    L.length = L.length ∧
    ∀ (i : Nat), i < L.length → pastF L i = pastF L i) ∧
    (↑L.length : Int) = (↑L.length : Int) ∧
    IntKind.i64.wrap ((↑x : Int) + (1 : Int)) = (↑y : Int) ∧
    True) ∧
    True ∧ inv2 y ∧ (L.length - y).succ.le (L.length - x))) ∧
    (gEq (decide ((pAt L (↑x : Int).toNat).told > (0 : Int))) true = false →
    true = true ∧
    (false = true →
    (True ∧ True ∧ True) ∧
    (True ∧ True ∧ True) ∧
    R
    (AV.tup
    [AV.pl (Value.int IntKind.i64 (↑x : Int)),
    AV.pl (Value.int IntKind.i64 (341 : Int))])
    []) ∧
    (false = false →
    ∃ (y : Nat),
    (((104 : Nat) = (104 : Nat) ∧
    L.length = L.length ∧
    ∀ (i : Nat), i < L.length → pastF L i = pastF L i) ∧
    ((1 : Nat) = (1 : Nat) ∧
    o.length = o.length ∧
    ∀ (i : Nat), i < o.length → ordF o i = ordF o i) ∧
    ((104 : Nat) = (104 : Nat) ∧
    L.length = L.length ∧
    ∀ (i : Nat), i < L.length → pastF L i = pastF L i) ∧
    (↑L.length : Int) = (↑L.length : Int) ∧
    IntKind.i64.wrap ((↑x : Int) + (1 : Int)) = (↑y : Int) ∧
    True) ∧
    True ∧ inv2 y ∧ (L.length - y).succ.le (L.length - x)))) ∧
    (decide ((↑x : Int) < (↑L.length : Int)) = false →
    (∃ (x : Nat),
    (((104 : Nat) = (104 : Nat) ∧
    L.length = L.length ∧ ∀ (i : Nat), i < L.length → pastF L i = pastF L i) ∧
    ((1 : Nat) = (1 : Nat) ∧
    o.length = o.length ∧ ∀ (i : Nat), i < o.length → ordF o i = ordF o i) ∧
    ((1 : Nat) = (1 : Nat) ∧
    o.length = o.length ∧ ∀ (i : Nat), i < o.length → ordF o i = ordF o i) ∧
    (↑o.length : Int) = (↑o.length : Int) ∧ (0 : Int) = (↑x : Int) ∧ True) ∧
    True ∧ inv3 x) ∧
    ∀ (x : Nat),
    inv3 x →
    (decide ((↑x : Int) < (↑o.length : Int)) = true →
    ((0 : Int) ≤ (↑x : Int) ∧ (↑x : Int) + (1 : Int) ≤ (↑o.length : Int)) ∧
    ((0 : Int) ≤ (0 : Int) ∧
    (0 : Int) ≤ (↑x : Int) ∧ (↑x : Int) ≤ (↑o.length : Int)) ∧
    (∃ (x_1 : Nat),
    (((104 : Nat) = (104 : Nat) ∧
    L.length = L.length ∧
    ∀ (i : Nat), i < L.length → pastF L i = pastF L i) ∧
    ((1 : Nat) = (1 : Nat) ∧
    o.length = o.length ∧
    ∀ (i : Nat), i < o.length → ordF o i = ordF o i) ∧
    oAt o (↑x : Int).toNat = oAt o x ∧
    ((1 : Nat) = (1 : Nat) ∧
    o.length = o.length ∧
    ∀ (i : Nat), i < o.length → ordF o i = ordF o i) ∧
    (↑o.length : Int) = (↑o.length : Int) ∧
    (↑x : Int) = (↑x : Int) ∧
    ((1 : Nat) = (1 : Nat) ∧
    (↑x : Int).toNat - Int.toNat (0 : Int) = x ∧
    ∀ (i : Nat),
    i < (↑x : Int).toNat - Int.toNat (0 : Int) →
    AV.pl
    (Value.int IntKind.i64
    (oAt o (Int.toNat (0 : Int) + i))) =
    AV.pl (Value.int IntKind.i64 (oAt o i))) ∧
    (↑((↑x : Int).toNat - Int.toNat (0 : Int)) : Int) =
    (↑x : Int) ∧
    (0 : Int) = (↑x_1 : Int) ∧ True) ∧
    True ∧ inv4 x x_1) ∧
    ∀ (x_1 : Nat),
    inv4 x x_1 →
    (decide ((↑x_1 : Int) < (↑x : Int)) = true →
    ((0 : Int) ≤ (↑x_1 : Int) ∧
    (↑x_1 : Int) + (1 : Int) ≤ (↑x : Int)) ∧
    ((0 : Int) ≤ oAt o x ∧
    oAt o x + (1 : Int) ≤ (↑L.length : Int)) ∧
    ((0 : Int) ≤ oAt o x ∧
    oAt o x + (1 : Int) ≤ (↑L.length : Int)) ∧
    (gEq (decide ((pAt L (oAt o x).toNat).told > (0 : Int)))
    true =
    true →
    ((0 : Int) ≤ oAt o x ∧
    oAt o x + (1 : Int) ≤ (↑L.length : Int)) ∧
    True) ∧
    (gEq (decide ((pAt L (oAt o x).toNat).told > (0 : Int)))
    true =
    true →
    ((0 : Int) ≤ oAt o x ∧
    oAt o x + (1 : Int) ≤ (↑L.length : Int)) ∧
    True) ∧
    (gEq (decide ((pAt L (oAt o x).toNat).told > (0 : Int)))
    true =
    true →
    ((0 : Int) ≤ oAt o (↑x_1 : Int).toNat ∧
    oAt o (↑x_1 : Int).toNat + (1 : Int) ≤
    (↑L.length : Int)) ∧
    True) ∧
    (gEq
    (decide
    ((pAt L (oAt o x).toNat).told > (0 : Int)))
    true =
    true →
    ((0 : Int) ≤ oAt o (↑x_1 : Int).toNat ∧
    oAt o (↑x_1 : Int).toNat + (1 : Int) ≤
    (↑L.length : Int)) ∧
    True) ∧
    ((bif
    decide
    ((pAt L (oAt o x).toNat).told >
    (0 : Int)) then
    decide
    ((pAt L (oAt o x).toNat).told <
    (pAt L
    (oAt o
    (↑x_1 :
    Int).toNat).toNat).asked)
    else false) =
    true →
    (True ∧ True ∧ True) ∧
    (True ∧ True ∧ True) ∧
    R
    (AV.tup
    [AV.pl
    (Value.int IntKind.i64 (oAt o x)),
    AV.pl
    (Value.int IntKind.i64
    (341 : Int))])
    []) ∧
    ((bif
    decide
    ((pAt L (oAt o x).toNat).told >
    (0 : Int)) then
    decide
    ((pAt L (oAt o x).toNat).told <
    (pAt L
    (oAt o
    (↑x_1 :
    Int).toNat).toNat).asked)
    else false) =
    false →
    ∃ (y : Nat),
    (((104 : Nat) = (104 : Nat) ∧
    L.length = L.length ∧
    ∀ (i : Nat),
    i < L.length →
    pastF L i = pastF L i) ∧
    ((1 : Nat) = (1 : Nat) ∧
    o.length = o.length ∧
    ∀ (i : Nat),
    i < o.length →
    ordF o i = ordF o i) ∧
    oAt o x = oAt o x ∧
    ((1 : Nat) = (1 : Nat) ∧
    o.length = o.length ∧
    ∀ (i : Nat),
    i < o.length →
    ordF o i = ordF o i) ∧
    (↑o.length : Int) =
    (↑o.length : Int) ∧
    (↑x : Int) = (↑x : Int) ∧
    ((1 : Nat) = (1 : Nat) ∧
    x = x ∧
    ∀ (i : Nat),
    i < x →
    ordF o i = ordF o i) ∧
    (↑x : Int) = (↑x : Int) ∧
    IntKind.i64.wrap
    ((↑x_1 : Int) +
    (1 : Int)) =
    (↑y : Int) ∧
    True) ∧
    True ∧
    inv4 x y ∧ (x - y).succ.le (x - x_1))) ∧
    (decide ((↑x_1 : Int) < (↑x : Int)) = false →
    ∃ (y : Nat),
    (((104 : Nat) = (104 : Nat) ∧
    L.length = L.length ∧
    ∀ (i : Nat), i < L.length → pastF L i = pastF L i) ∧
    ((1 : Nat) = (1 : Nat) ∧
    o.length = o.length ∧
    ∀ (i : Nat), i < o.length → ordF o i = ordF o i) ∧
    ((1 : Nat) = (1 : Nat) ∧
    o.length = o.length ∧
    ∀ (i : Nat), i < o.length → ordF o i = ordF o i) ∧
    (↑o.length : Int) = (↑o.length : Int) ∧
    IntKind.i64.wrap ((↑x : Int) + (1 : Int)) =
    (↑y : Int) ∧
    True) ∧
    True ∧ inv3 y ∧ (o.length - y).succ.le (o.length - x))) ∧
    (decide ((↑x : Int) < (↑o.length : Int)) = false →
    (True ∧ True ∧ True) ∧
    (True ∧ True ∧ True) ∧
    R
    (AV.tup
    [AV.pl (Value.int IntKind.i64 (0 : Int)),
    AV.pl (Value.int IntKind.i64 (0 : Int))])
    []))))) := by kernel_rfl
theorem v22 (L : List Past) (o : List Int) (inv : Nat × List Br → Prop) (R : AV → List LObj → Prop) :
    (vcA false 0 [] Try.prog (mkTab [(20, .lend T20), (14, .lend T14), (15, .lend T15)]) (Try.f22.body.getD .skip) ([.loop 6 (Nat × List Br) inv (fun p => ⟨slotsOf 57 0 [(0, pasts L), (9, .own 0 0 p.2.length), (25, ords o), (26, nm o.length), (27, nm p.1)], [brsO p.2]⟩) (fun p => o.length - p.1) (fun _ => [])]) (finalK Try.prog Try.f22 (fun y H => ∃ _ : Unit, leSt 0 ⟨[y], H⟩ ⟨[.tup [.own 0 0 (judge L o).1.length, nm (judge L o).2.1, nm (judge L o).2.2]], [brsO (judge L o).1]⟩ (R (.tup [.own 0 0 (judge L o).1.length, nm (judge L o).2.1, nm (judge L o).2.2]) [brsO (judge L o).1]))) (startSt Try.f22 ([pasts L, ords o]))) = (
    ∃ (L_1 : List Past),
    ∃ (o_1 : List Int),
    IsPasts (AV.rows (104 : Nat) L.length (pastF L)) L_1 ∧
    IsOrd (AV.rows (1 : Nat) o.length (ordF o)) o_1 ∧
    (∀ (i : Nat), (0 : Int) ≤ (pAt L_1 i).cmd.seq) ∧
    o_1.length.le (1000000 : Nat) ∧
    (((order L_1 o_1).snd != (0 : Int)) = true →
    (True ∧ True ∧ True ∧ True) ∧
    (True ∧ True ∧ True ∧ True) ∧
    ∃ (_ : Unit),
    (((True ∧ True ∧ (0 : Nat) = (0 : Nat) ∧ (judge L o).fst.length = (0 : Nat)) ∧
    (order L_1 o_1).fst = (judge L o).snd.fst ∧
    (order L_1 o_1).snd = (judge L o).snd.snd ∧ True) ∧
    True) ∧
    ((judge L o).fst.length = (0 : Nat) ∧ True) ∧
    R
    (AV.tup
    [AV.own (0 : Nat) (0 : Nat) (judge L o).fst.length,
    AV.pl (Value.int IntKind.i64 (judge L o).snd.fst),
    AV.pl (Value.int IntKind.i64 (judge L o).snd.snd)])
    [LObj.row (33 : Nat) (45 : Nat) (judge L o).fst.length (brsF (judge L o).fst)]) ∧
    (((order L_1 o_1).snd != (0 : Int)) = false →
    (∃ (x : Nat × List Br),
    (((104 : Nat) = (104 : Nat) ∧
    L.length = L.length ∧ ∀ (i : Nat), i < L.length → pastF L i = pastF L i) ∧
    (True ∧ True ∧ (0 : Nat) = (0 : Nat) ∧ x.snd.length = (0 : Nat)) ∧
    ((1 : Nat) = (1 : Nat) ∧
    o.length = o.length ∧ ∀ (i : Nat), i < o.length → ordF o i = ordF o i) ∧
    (↑o.length : Int) = (↑o.length : Int) ∧ (0 : Int) = (↑x.fst : Int) ∧ True) ∧
    (x.snd.length = (0 : Nat) ∧ True) ∧ inv x) ∧
    ∀ (x : Nat × List Br),
    inv x →
    (decide ((↑x.fst : Int) < (↑o.length : Int)) = true →
    ((0 : Int) ≤ (↑x.fst : Int) ∧ (↑x.fst : Int) + (1 : Int) ≤ (↑o.length : Int)) ∧
    ((0 : Int) ≤ oAt o (↑x.fst : Int).toNat ∧
    oAt o (↑x.fst : Int).toNat + (1 : Int) ≤ (↑L.length : Int)) ∧
    True ∧
    True ∧
    (((pAt L (oAt o (↑x.fst : Int).toNat).toNat).told == (0 : Int)) = true →
    (((0 : Nat) + x.snd.length).le x.snd.length ∧
    (True ∧ True ∧ True ∧ True ∧ True ∧ True ∧ True ∧ True) ∧ True) ∧
    ∃ (L_2 : List Br),
    ∃ (c : Cmd),
    IsBrs
    (AV.rows (33 : Nat) x.snd.length fun (i : Nat) =>
    AV.agg
    [AV.pl (Value.string (brAt x.snd ((0 : Nat) + i)).name),
    AV.iarr IntKind.u8 (32 : Nat) (brAt x.snd ((0 : Nat) + i)).id])
    L_2 ∧
    IsCmd
    (AV.agg
    [AV.pl
    (Value.int IntKind.i64
    (pAt L (oAt o (↑x.fst : Int).toNat).toNat).cmd.kind),
    AV.pl
    (Value.int IntKind.i64
    (pAt L (oAt o (↑x.fst : Int).toNat).toNat).cmd.client),
    AV.pl
    (Value.int IntKind.u32
    (pAt L (oAt o (↑x.fst : Int).toNat).toNat).cmd.seq),
    AV.pl
    (Value.string
    (pAt L (oAt o (↑x.fst : Int).toNat).toNat).cmd.branch),
    AV.iarr IntKind.u8 (32 : Nat)
    (pAt L (oAt o (↑x.fst : Int).toNat).toNat).cmd.old,
    AV.iarr IntKind.u8 (32 : Nat)
    (pAt L (oAt o (↑x.fst : Int).toNat).toNat).cmd.new,
    AV.rows (1 : Nat)
    (pAt L (oAt o (↑x.fst : Int).toNat).toNat).cmd.dn
    (pAt L (oAt o (↑x.fst : Int).toNat).toNat).cmd.df])
    c ∧
    Bd L_2 ∧
    True ∧
    ((∀ (i : Nat),
    i < (DoesR L_2 c).length →
    flatB (brsF (DoesR L_2 c) i) = true) ∧
    True) ∧
    ∃ (y : Nat × List Br),
    (((104 : Nat) = (104 : Nat) ∧
    L.length = L.length ∧
    ∀ (i : Nat), i < L.length → pastF L i = pastF L i) ∧
    (True ∧
    (0 : Nat) = (0 : Nat) ∧
    (DoesR L_2 c).length = y.snd.length) ∧
    ((1 : Nat) = (1 : Nat) ∧
    o.length = o.length ∧
    ∀ (i : Nat), i < o.length → ordF o i = ordF o i) ∧
    (↑o.length : Int) = (↑o.length : Int) ∧
    IntKind.i64.wrap ((↑x.fst : Int) + (1 : Int)) =
    (↑y.fst : Int) ∧
    True) ∧
    (((33 : Nat) = (33 : Nat) ∧
    (45 : Nat) = (45 : Nat) ∧
    y.snd.length.le (DoesR L_2 c).length ∧
    ∀ (i : Nat),
    i < y.snd.length →
    AV.agg
    [AV.pl
    (Value.string
    (brAt (DoesR L_2 c) i).name),
    AV.iarr IntKind.u8 (32 : Nat)
    (brAt (DoesR L_2 c) i).id] =
    AV.agg
    [AV.pl (Value.string (brAt y.snd i).name),
    AV.iarr IntKind.u8 (32 : Nat)
    (brAt y.snd i).id]) ∧
    True) ∧
    inv y ∧ (o.length - y.fst).succ.le (o.length - x.fst)) ∧
    (((pAt L (oAt o (↑x.fst : Int).toNat).toNat).told == (0 : Int)) = false →
    (((0 : Nat) + x.snd.length).le x.snd.length ∧
    (True ∧ True ∧ True ∧ True ∧ True ∧ True ∧ True ∧ True) ∧
    (True ∧ True ∧ True) ∧ True) ∧
    ∃ (L_2 : List Br),
    ∃ (c : Cmd),
    ∃ (a : Ans),
    IsBrs
    (AV.rows (33 : Nat) x.snd.length fun (i : Nat) =>
    AV.agg
    [AV.pl (Value.string (brAt x.snd ((0 : Nat) + i)).name),
    AV.iarr IntKind.u8 (32 : Nat) (brAt x.snd ((0 : Nat) + i)).id])
    L_2 ∧
    IsCmd
    (AV.agg
    [AV.pl
    (Value.int IntKind.i64
    (pAt L (oAt o (↑x.fst : Int).toNat).toNat).cmd.kind),
    AV.pl
    (Value.int IntKind.i64
    (pAt L (oAt o (↑x.fst : Int).toNat).toNat).cmd.client),
    AV.pl
    (Value.int IntKind.u32
    (pAt L (oAt o (↑x.fst : Int).toNat).toNat).cmd.seq),
    AV.pl
    (Value.string
    (pAt L (oAt o (↑x.fst : Int).toNat).toNat).cmd.branch),
    AV.iarr IntKind.u8 (32 : Nat)
    (pAt L (oAt o (↑x.fst : Int).toNat).toNat).cmd.old,
    AV.iarr IntKind.u8 (32 : Nat)
    (pAt L (oAt o (↑x.fst : Int).toNat).toNat).cmd.new,
    AV.rows (1 : Nat)
    (pAt L (oAt o (↑x.fst : Int).toNat).toNat).cmd.dn
    (pAt L (oAt o (↑x.fst : Int).toNat).toNat).cmd.df])
    c ∧
    IsAns
    (AV.agg
    [AV.pl
    (Value.int IntKind.i64
    (pAt L (oAt o (↑x.fst : Int).toNat).toNat).ans.err),
    AV.iarr IntKind.u8 (32 : Nat)
    (pAt L (oAt o (↑x.fst : Int).toNat).toNat).ans.id])
    a ∧
    Bd L_2 ∧
    True ∧
    ((∀ (i : Nat),
    i < (fitsRL L_2 c a).length →
    flatB (brsF (fitsRL L_2 c a) i) = true) ∧
    True) ∧
    ((!fitsRB L_2 c a) = true →
    (True ∧ True ∧ True ∧ True) ∧
    (True ∧ True ∧ True ∧ True) ∧
    ∃ (_ : Unit),
    (((True ∧
    True ∧
    (0 : Nat) = (0 : Nat) ∧
    (judge L o).fst.length = (0 : Nat)) ∧
    oAt o (↑x.fst : Int).toNat =
    (judge L o).snd.fst ∧
    (342 : Int) = (judge L o).snd.snd ∧ True) ∧
    True) ∧
    ((judge L o).fst.length = (0 : Nat) ∧ True) ∧
    R
    (AV.tup
    [AV.own (0 : Nat) (0 : Nat)
    (judge L o).fst.length,
    AV.pl
    (Value.int IntKind.i64
    (judge L o).snd.fst),
    AV.pl
    (Value.int IntKind.i64
    (judge L o).snd.snd)])
    [LObj.row (33 : Nat) (45 : Nat)
    (judge L o).fst.length
    (brsF (judge L o).fst)]) ∧
    ((!fitsRB L_2 c a) = false →
    ∃ (y : Nat × List Br),
    (((104 : Nat) = (104 : Nat) ∧
    L.length = L.length ∧
    ∀ (i : Nat),
    i < L.length → pastF L i = pastF L i) ∧
    (True ∧
    (0 : Nat) = (0 : Nat) ∧
    (fitsRL L_2 c a).length = y.snd.length) ∧
    ((1 : Nat) = (1 : Nat) ∧
    o.length = o.length ∧
    ∀ (i : Nat),
    i < o.length → ordF o i = ordF o i) ∧
    (↑o.length : Int) = (↑o.length : Int) ∧
    IntKind.i64.wrap
    ((↑x.fst : Int) + (1 : Int)) =
    (↑y.fst : Int) ∧
    True) ∧
    (((33 : Nat) = (33 : Nat) ∧
    (45 : Nat) = (45 : Nat) ∧
    y.snd.length.le (fitsRL L_2 c a).length ∧
    ∀ (i : Nat),
    i < y.snd.length →
    AV.agg
    [AV.pl
    (Value.string
    (brAt (fitsRL L_2 c a)
    i).name),
    AV.iarr IntKind.u8 (32 : Nat)
    (brAt (fitsRL L_2 c a) i).id] =
    AV.agg
    [AV.pl
    (Value.string
    (brAt y.snd i).name),
    AV.iarr IntKind.u8 (32 : Nat)
    (brAt y.snd i).id]) ∧
    True) ∧
    inv y ∧
    (o.length - y.fst).succ.le (o.length - x.fst)))) ∧
    (decide ((↑x.fst : Int) < (↑o.length : Int)) = false →
    (True ∧ True ∧ True ∧ True) ∧
    True ∧
    ∃ (_ : Unit),
    (((True ∧ (0 : Nat) = (0 : Nat) ∧ x.snd.length = (judge L o).fst.length) ∧
    (0 : Int) = (judge L o).snd.fst ∧ (0 : Int) = (judge L o).snd.snd ∧ True) ∧
    True) ∧
    (((33 : Nat) = (33 : Nat) ∧
    (45 : Nat) = (45 : Nat) ∧
    (judge L o).fst.length.le x.snd.length ∧
    ∀ (i : Nat),
    i < (judge L o).fst.length →
    AV.agg
    [AV.pl (Value.string (brAt x.snd i).name),
    AV.iarr IntKind.u8 (32 : Nat) (brAt x.snd i).id] =
    AV.agg
    [AV.pl (Value.string (brAt (judge L o).fst i).name),
    AV.iarr IntKind.u8 (32 : Nat) (brAt (judge L o).fst i).id]) ∧
    True) ∧
    R
    (AV.tup
    [AV.own (0 : Nat) (0 : Nat) (judge L o).fst.length,
    AV.pl (Value.int IntKind.i64 (judge L o).snd.fst),
    AV.pl (Value.int IntKind.i64 (judge L o).snd.snd)])
    [LObj.row (33 : Nat) (45 : Nat) (judge L o).fst.length (brsF (judge L o).fst)]))) := by kernel_rfl
theorem all_true32 : ((List.range 32).all fun _ => true) = true := by simp
theorem X42 : EntOk Try.prog 42 (.lend T42) := by
  refine ⟨enters_of (fn := Try.f42) rfl rfl (by kernel_rfl), fun args R h => ?_⟩
  unfold T42 at h
  split at h
  case h_2 => exact h.elim
  rename_i n f m g
  obtain ⟨⟨rfl, u, hf, hg⟩, h⟩ := h
  refine Spec.args (args' := [.rows 1 n (fun i => .pl (.int .u8 (u i))), .rows 1 n (fun i => .pl (.int .u8 (u i)))]) ⟨⟨rfl, rfl, hf⟩, ⟨rfl, rfl, hg⟩, trivial⟩ (Spec.given fun hgv => mkS (v42 n u u (fun i => i ≤ n) R) (tb az) rfl rfl ?_)
  simp only [true_and, and_true, and_self, implies_true, natle_iff, decide_eq_true_eq, decide_eq_false_iff_not, Int.toNat_natCast, Bool.cond_true, implies_true]
  have hL : n ≤ 9223372036854775807 := by rw [← maxLen_eq]; exact hgv.1
  exact ⟨⟨0, ⟨by simp, rfl⟩, Nat.zero_le _⟩, fun x hx => ⟨fun hlt => ⟨⟨by omega, by omega⟩, ⟨by omega, by omega⟩, ⟨by omega, by omega⟩, ⟨by omega, by omega⟩, x + 1, ⟨by simp, by rw [wrap64] <;> omega⟩, by omega, by omega⟩, fun _ => h⟩⟩
theorem X35 : EntOk Try.prog 35 (.lend T35) := by
  refine ⟨enters_of (fn := Try.f35) rfl rfl (by kernel_rfl), fun args R h => ?_⟩
  unfold T35 at h
  split at h
  case h_2 => exact h.elim
  obtain ⟨c, hx, hy, hd, h⟩ := h
  refine Spec.args (args' := [c.av, c.av]) ⟨hx, hy, trivial⟩ (mkS (v35 c R) (tb (ac X42 az)) rfl rfl ?_)
  simp only [true_and, and_self, gEq_true, cond_bf, Bool.cond_true]
  obtain ⟨u, hu⟩ := hd
  simp only [all_true32, beq_self_eq_true, Bool.and_self, forall_const, reduceCtorEq, false_implies, and_true]
  exact ⟨⟨rfl, u, hu, hu⟩, h⟩
theorem X23 : EntOk Try.prog 23 (.lend T23) := by
  refine ⟨enters_of (fn := Try.f23) rfl rfl (by kernel_rfl), fun args R h => ?_⟩
  unfold T23 at h
  split at h
  case h_2 => exact h.elim
  obtain ⟨L, hx, hy, hd, h⟩ := h
  refine Spec.argsR (args' := [pasts L, pasts L]) ⟨hx, hy, trivial⟩ (Spec.given fun hg => mkS (v23 L (fun i => i ≤ L.length) R) (tb (ac X35 az)) rfl rfl ?_)
  simp only [true_and, and_true, and_self, implies_true, forall_const, gEq_false, natle_iff, decide_eq_true_eq, decide_eq_false_iff_not, Int.toNat_natCast, cond_bt, Bool.cond_false, Bool.not_true, Bool.not_false, implies_true, Bool.not_eq_true']
  have hL : L.length ≤ 9223372036854775807 := by rw [← maxLen_eq]; exact hg.1
  simp only [all_true32, bne_self_eq_false, beq_self_eq_true, Bool.and_self, Bool.or_self, Bool.not_true, forall_const, reduceCtorEq, false_implies, true_and]
  exact ⟨⟨0, rfl, Nat.zero_le _⟩, fun x hx => ⟨fun hlt => ⟨⟨by omega, by omega⟩, ⟨by omega, by omega⟩, ⟨by omega, by omega⟩, ⟨by omega, by omega⟩, (pAt L x).cmd, isCmd_self _, isCmd_self _, hd x, ⟨by omega, by omega⟩, ⟨by omega, by omega⟩, ⟨by omega, by omega⟩, ⟨by omega, by omega⟩, ⟨by omega, by omega⟩, ⟨by omega, by omega⟩, ⟨by omega, by omega⟩, ⟨by omega, by omega⟩, ⟨by omega, by omega⟩, ⟨by omega, by omega⟩, ⟨by omega, by omega⟩, ⟨by omega, by omega⟩, x + 1, by rw [wrap64] <;> omega, by omega, by omega⟩, fun _ => h⟩⟩
theorem pAt_app (M F : List Past) (i : Nat) : (if i < M.length then pAt M i else pAt F (i - M.length)) = pAt (M ++ F) i := by
  unfold pAt
  simp only [List.getD_eq_getElem?_getD]
  split
  · rename_i h; rw [List.getElem?_append_left h]
  · rename_i h; rw [List.getElem?_append_right (by omega)]
theorem pastSnoc (o : List Past) (b : Past) (i : Nat) (hi : i < (o ++ [b]).length) : (if i < o.length then (pAt o i).av else rowOf [(0, b.av)] (0 + (i - o.length))) = (pAt (o ++ [b]) i).av := by
  rw [← pAt_app]
  split
  · rfl
  · simp only [List.length_append, List.length_singleton] at hi
    have : i - o.length = 0 := by omega
    rw [this]; rfl
theorem take_snoc (L : List Past) (i : Nat) (h : i < L.length) : (L.take (i + 1)).map cutP = (L.take i).map cutP ++ [cutP (pAt L i)] := by
  rw [List.take_succ_eq_append_getElem h, List.map_append]
  simp [pAt, h]
theorem X16 : EntOk Try.prog 16 (.lend T16) := by
  refine ⟨enters_of (fn := Try.f16) rfl rfl (by kernel_rfl), fun args R h => ?_⟩
  unfold T16 at h
  split at h
  case h_2 => exact h.elim
  obtain ⟨L, hx, h⟩ := h
  refine Spec.argsR (args' := [pasts L]) ⟨hx, trivial⟩ (Spec.given fun hg => Spec.weak (Z := Unit) (X := fun _ => .own 0 0 (shortL L).length) (HH := fun _ => [pastsO (shortL L)]) (mkS (v16 L (shortL L) (fun p => p.1 ≤ L.length ∧ p.1 ≤ limP L.length ∧ p.2 = (L.take p.1).map cutP) R) (tb (ac X8 az)) rfl rfl ?_))
  simp only [true_and, and_true, and_self, implies_true, natle_iff, decide_eq_true_eq, decide_eq_false_iff_not, Int.toNat_natCast, cond_bt, cond_bf, implies_true]
  have hL : L.length ≤ 9223372036854775807 := by rw [← maxLen_eq]; exact hg.1
  have hmax : 2000000 ≤ maxLen := by rw [maxLen_eq]; omega
  refine ⟨⟨(0, []), ⟨rfl, rfl⟩, rfl, Nat.zero_le _, Nat.zero_le _, rfl⟩, ?_⟩
  rintro ⟨i, o⟩ ⟨hi, hl, ho⟩
  simp only at hi hl ho ⊢
  have hlim : limP L.length ≤ 401 := by unfold limP; split <;> omega
  have hol : o.length = i := by rw [ho]; simp; omega
  have fin : o = shortL L → ∃ _ : Unit, o.length = (shortL L).length ∧ ((shortL L).length ≤ o.length ∧ ∀ j, j < (shortL L).length → (pAt o j).av = (pAt (shortL L) j).av) ∧ R (AV.own 0 0 (shortL L).length) [LObj.row 104 64 (shortL L).length (pastF (shortL L))] := by
    rintro e
    rw [e]
    exact ⟨(), rfl, ⟨Nat.le_refl _, fun _ _ => rfl⟩, h⟩
  have hstop : ((((i : Int) == 40) && decide ((L.length : Int) ≤ 400)) || ((i : Int) == 401)) = true ↔ i = limP L.length := by
    simp only [Bool.or_eq_true, Bool.and_eq_true, beq_iff_eq, decide_eq_true_eq]
    unfold limP at hl ⊢
    split at hl <;> rename_i h4 <;> simp only [h4, if_true, if_false] <;> omega
  refine ⟨fun hlt => ⟨⟨by omega, by omega⟩, fun hb => fin ?_, fun hb => ⟨(pAt L i).cmd, isCmd_self _, ⟨Nat.le_refl _, by omega, by omega⟩, (i + 1, o ++ [cutP (pAt L i)]), ⟨by simp, by rw [wrap64] <;> (try simp only) <;> omega⟩, ⟨by simp, fun j hj => pastSnoc o (cutP (pAt L i)) j hj⟩, ⟨by simp only; omega, ?_, ?_⟩, by simp only; omega⟩⟩, fun hge => fin ?_⟩
  · rw [ho, hstop.1 hb]; rfl
  · have : i ≠ limP L.length := fun e => by rw [hstop.2 e] at hb; cases hb
    simp only; omega
  · simp only
    rw [ho, take_snoc L i (by omega)]
  · have : i = L.length := by omega
    rw [ho, shortL, this, List.take_length, List.take_of_length_le (by omega)]
theorem X18 : EntOk Try.prog 18 (.lend T18) := by
  refine ⟨enters_of (fn := Try.f18) rfl rfl (by kernel_rfl), fun args R h => ?_⟩
  unfold T18 at h
  split at h
  case h_2 => exact h.elim
  obtain ⟨L, hx, hs, h⟩ := h
  refine Spec.argsR (args' := [pasts L]) ⟨hx, trivial⟩ (mkS (v18 L (fun i => i ≤ L.length ∧ ∀ j, j < i → okP L j = true) (fun i q => (q ≤ i ∧ i < L.length ∧ ∀ j, j < i → okP L j = true) ∧ badP (pAt L i) = false ∧ ∀ r, r < q → sameKey (pAt L r) (pAt L i) = false) R) (tb (ac X13 az)) rfl rfl ?_)
  simp only [true_and, and_true, and_self, implies_true, natle_iff, decide_eq_true_eq, decide_eq_false_iff_not, Int.toNat_natCast, cond_bt, cond_bf, implies_true]
  have e0 : Int.toNat 0 = 0 := rfl
  have no : ∀ x, x < L.length → L.length ≤ 400 → (∀ j, j < x → okP L j = true) → okP L x = false → R (AV.tup [AV.pl (Value.int IntKind.i64 x), AV.pl (Value.int IntKind.i64 340)]) [] := by
    intro x h1 h2 h3 h4
    rw [chk, decide_eq_false (by omega : ¬ 400 < L.length), firstNo_some h1 h3 h4] at h
    exact h
  refine ⟨fun hgt => ?_, fun hle => ⟨⟨0, rfl, Nat.zero_le _, fun j hj => by omega⟩, fun x hx => ⟨fun hlt => ⟨⟨by omega, by omega⟩, (pAt L x).cmd, isCmd_self _, hs x, fun hb => no x (by omega) (by omega) hx.2 ?_, fun hb => ⟨⟨Int.le_refl _, by omega, by omega⟩, ⟨0, ⟨⟨by rw [e0]; omega, fun j _ => by rw [e0, Nat.zero_add]⟩, by rw [e0]; rfl, rfl⟩, ⟨Nat.zero_le _, by omega, hx.2⟩, hb, fun r hr => by omega⟩, fun q hq => ⟨fun hlq => ⟨⟨by omega, by omega⟩, fun hk => no x (by omega) (by omega) hx.2 ?_, fun hk => ⟨q + 1, by rw [wrap64] <;> omega, ⟨⟨by omega, by omega, hx.2⟩, hq.2.1, fun r hr => ?_⟩, by omega⟩⟩, fun hgq => ⟨x + 1, by rw [wrap64] <;> omega, ⟨by omega, allTo hx.2 ?_⟩, by omega⟩⟩⟩⟩, fun hge => ?_⟩⟩⟩
  · rw [chk, decide_eq_true (by omega : 400 < L.length)] at h
    exact h
  · rw [okP_of, show badP (pAt L x) = true from hb]; rfl
  · rw [okP_of, dup_yes (by omega : q < x) hk, Bool.not_true, Bool.and_false]
  · rcases Nat.lt_or_ge r q with h1 | h1
    · exact hq.2.2 r h1
    · have : r = q := by omega
      subst this; exact hk
  · have hqx : q = x := by omega
    subst hqx
    rw [okP_of, hq.2.1, dup_no hq.2.2]; rfl
  · have : x = L.length := by omega
    subst this
    rw [chk, decide_eq_false (by omega : ¬ 400 < L.length), firstNo_none hx.2] at h
    exact h
theorem X34 : EntOk Try.prog 34 (.lend T34) := by
  refine ⟨enters_of (fn := Try.f34) rfl rfl (by kernel_rfl), fun args R h => ?_⟩
  unfold T34 at h
  split at h
  case h_2 => exact h.elim
  rename_i y k
  obtain ⟨o, hx, h⟩ := h
  refine Spec.argsR (args' := [ords o, nm k]) ⟨hx, rfl, trivial⟩ (Spec.given fun hg => mkS (v34 o k (fun i => i ≤ o.length ∧ ∀ j, j < i → (oAt o j == k) = false) R) (tb az) rfl rfl ?_)
  simp only [true_and, and_true, and_self, implies_true, natle_iff, decide_eq_true_eq, decide_eq_false_iff_not, Int.toNat_natCast, implies_true]
  have hL : o.length ≤ 9223372036854775807 := by rw [← maxLen_eq]; exact hg.1
  refine ⟨⟨0, rfl, Nat.zero_le _, fun j hj => by omega⟩, fun x hx => ⟨fun hlt => ⟨⟨by omega, by omega⟩, fun hb => ?_, fun hb => ⟨x + 1, by rw [wrap64] <;> omega, ⟨by omega, fun j hj => ?_⟩, by omega⟩⟩, fun hge => ?_⟩⟩
  · have : inB o k = true := by
      unfold inB
      rw [List.any_eq_true]
      exact ⟨x, List.mem_range.2 (by omega), hb⟩
    rw [this] at h
    exact h
  · rcases Nat.lt_or_ge j x with h1 | h1
    · exact hx.2 j h1
    · have : j = x := by omega
      subst this; exact hb
  · have : inB o k = false := by
      unfold inB
      rw [List.any_eq_false]
      exact fun j hj => by rw [hx.2 j (by have := List.mem_range.1 hj; omega)]; simp
    rw [this] at h
    exact h
theorem X20 : EntOk Try.prog 20 (.lend T20) := by
  refine ⟨enters_of (fn := Try.f20) rfl rfl (by kernel_rfl), fun args R h => ?_⟩
  unfold T20 at h
  split at h
  case h_2 => exact h.elim
  obtain ⟨L, o, hx, hy, hs, ho, h⟩ := h
  refine Spec.argsR (args' := [pasts L, ords o]) ⟨hx, hy, trivial⟩ (Spec.given fun hg => mkS (v20 L o (fun i => i ≤ o.length ∧ ∀ j, j < i → okO L o j = true) (fun i => (i ≤ L.length ∧ ∀ j, j < o.length → okO L o j = true) ∧ ∀ j, j < i → okT L o j = true) (fun i => (i ≤ o.length ∧ (∀ j, j < o.length → okO L o j = true) ∧ ∀ j, j < L.length → okT L o j = true) ∧ ∀ j, j < i → okL L o j = true)
    (fun i j => j ≤ i ∧ ∀ r, r < j → ¬ (0 < (rowAt L o i).told ∧ (rowAt L o i).told < (rowAt L o r).asked)) R) (tb (ac X18 (ac X34 az))) rfl rfl ?_)
  simp only [true_and, and_true, and_self, implies_true, forall_const, gEq_true, gEq_false, natle_iff, decide_eq_true_eq, decide_eq_false_iff_not, Int.toNat_natCast, cond_bt, cond_bf, Bool.cond_true, Bool.cond_false, false_implies, implies_true, Bool.true_eq_false, Bool.false_eq_true, Bool.not_eq_true', Bool.not_eq_false']
  have hL : L.length ≤ 9223372036854775807 := by rw [← maxLen_eq]; exact hg.1
  have e0 : Int.toNat 0 = 0 := rfl
  refine ⟨L, isPasts_self L, hs, fun hc => ?_, fun hc => ?_⟩
  · rw [order, hc, cond_true] at h
    exact h
  have noO : ∀ x, x < o.length → (∀ j, j < x → okO L o j = true) → okO L o x = false → R (AV.tup [AV.pl (Value.int IntKind.i64 x), AV.pl (Value.int IntKind.i64 2)]) [] := by
    intro x h1 h2 h3
    rw [order, hc, cond_false, firstNo_some h1 h2 h3] at h
    exact h
  refine ⟨⟨0, rfl, Nat.zero_le _, fun j hj => by omega⟩, fun x hx => ⟨fun hlt => ⟨⟨by omega, by omega⟩, fun _ => ⟨Int.le_refl _, by omega, by omega⟩, fun hr => ⟨o.take x, isOrd_take o x hx.1, fun hin => noO x (by omega) hx.2 ?_, fun hin => ⟨x + 1, by rw [wrap64] <;> omega, ⟨by omega, allTo hx.2 ?_⟩, by omega⟩⟩, fun hr => noO x (by omega) hx.2 ?_⟩, fun hge => ?_⟩⟩
  · rw [inB_take o x hx.1] at hin
    unfold okO
    rw [hin, Bool.not_true, Bool.and_false]
  · rw [inB_take o x hx.1] at hin
    simp only [Bool.or_eq_false_iff, decide_eq_false_iff_not] at hr
    unfold okO
    rw [hin, decide_eq_true (by omega : 0 ≤ oAt o x), decide_eq_true (by omega : oAt o x < L.length)]; rfl
  · simp only [Bool.or_eq_true, decide_eq_true_eq] at hr
    unfold okO
    rcases hr with hr | hr
    · rw [decide_eq_false (by omega : ¬ 0 ≤ oAt o x), Bool.false_and, Bool.false_and]
    · rw [decide_eq_false (by omega : ¬ oAt o x < L.length), Bool.and_false, Bool.false_and]
  have hO : ∀ j, j < o.length → okO L o j = true := fun j hj => hx.2 j (by omega)
  clear hge hx x
  have noT : ∀ x, x < L.length → (∀ j, j < x → okT L o j = true) → okT L o x = false → R (AV.tup [AV.pl (Value.int IntKind.i64 x), AV.pl (Value.int IntKind.i64 341)]) [] := by
    intro x h1 h2 h3
    rw [order, hc, cond_false, firstNo_none hO, firstNo_some h1 h2 h3] at h
    exact h
  refine ⟨⟨0, rfl, ⟨Nat.zero_le _, hO⟩, fun j hj => by omega⟩, fun x hx => ⟨fun hlt => ⟨⟨by omega, by omega⟩, fun ht => ⟨o, isOrd_self o, fun hin => noT x (by omega) hx.2 ?_, fun hin => ⟨x + 1, by rw [wrap64] <;> omega, ⟨⟨by omega, hO⟩, allTo hx.2 ?_⟩, by omega⟩⟩, fun ht => ⟨x + 1, by rw [wrap64] <;> omega, ⟨⟨by omega, hO⟩, allTo hx.2 ?_⟩, by omega⟩⟩, fun hge => ?_⟩⟩
  · unfold okT
    rw [decide_eq_true (by omega : 0 < (pAt L x).told), show (List.range o.length).any (fun j => oAt o j == (x : Int)) = false from hin]; rfl
  · unfold okT
    rw [show (List.range o.length).any (fun j => oAt o j == (x : Int)) = true from hin]
    simp
  · unfold okT
    rw [decide_eq_false (by omega : ¬ 0 < (pAt L x).told)]; rfl
  have hT : ∀ j, j < L.length → okT L o j = true := fun j hj => hx.2 j (by omega)
  clear hge hx x noO noT
  have noL : ∀ x, x < o.length → (∀ j, j < x → okL L o j = true) → okL L o x = false → R (AV.tup [AV.pl (Value.int IntKind.i64 (oAt o x)), AV.pl (Value.int IntKind.i64 341)]) [] := by
    intro x h1 h2 h3
    rw [order, hc, cond_false, firstNo_none hO, firstNo_none hT, firstNo_some h1 h2 h3] at h
    exact h
  have rng : ∀ x, x < o.length → 0 ≤ oAt o x ∧ oAt o x + 1 ≤ (L.length : Int) := by
    intro x h1
    have := hO x h1
    simp only [okO, Bool.and_eq_true, decide_eq_true_eq] at this
    omega
  refine ⟨⟨0, rfl, ⟨Nat.zero_le _, hO, hT⟩, fun j hj => by omega⟩, fun x hx => ⟨fun hlt => ⟨⟨by omega, by omega⟩, ⟨Int.le_refl _, by omega, by omega⟩, ⟨0, ⟨⟨by rw [e0]; omega, fun j _ => by rw [e0, Nat.zero_add]⟩, by rw [e0]; rfl, rfl⟩, Nat.zero_le _, fun r hr => by omega⟩, fun q hq => ⟨fun hlq => ⟨⟨by omega, by omega⟩, rng x (by omega), rng x (by omega), fun _ => rng x (by omega), fun _ => rng x (by omega), fun _ => rng q (by omega), fun _ => rng q (by omega), fun hb => noL x (by omega) hx.2 ?_, fun hb => ⟨q + 1, by rw [wrap64] <;> omega, ⟨by omega, fun r hr => ?_⟩, by omega⟩⟩, fun hgq => ⟨x + 1, by rw [wrap64] <;> omega, ⟨⟨by omega, hO, hT⟩, allTo hx.2 ?_⟩, by omega⟩⟩⟩, fun hge => ?_⟩⟩
  · simp only [Bool.and_eq_true, decide_eq_true_eq] at hb
    exact okL_no (by omega : q < x) hb.1 hb.2
  · rcases Nat.lt_or_ge r q with h1 | h1
    · exact hq.2 r h1
    · have : r = q := by omega
      subst this
      rintro ⟨h2, h3⟩
      rw [show decide ((pAt L (oAt o x).toNat).told > 0) = true from decide_eq_true h2, show decide ((pAt L (oAt o x).toNat).told < (pAt L (oAt o r).toNat).asked) = true from decide_eq_true h3] at hb
      cases hb
  · have hqx : q = x := by omega
    subst hqx
    exact okL_yes hq.2
  · have : x = o.length := by omega
    subst this
    rw [order, hc, cond_false, firstNo_none hO, firstNo_none hT, firstNo_none hx.2] at h
    exact h
theorem X22 : EntOk Try.prog 22 (.lend T22) := by
  refine ⟨enters_of (fn := Try.f22) rfl rfl (by kernel_rfl), fun args R h => ?_⟩
  unfold T22 at h
  split at h
  case h_2 => exact h.elim
  obtain ⟨L, o, hx, hy, hs, ho, h⟩ := h
  refine Spec.argsR (args' := [pasts L, ords o]) ⟨hx, hy, trivial⟩ (Spec.weak (Z := Unit) (X := fun _ => .tup [.own 0 0 (judge L o).1.length, nm (judge L o).2.1, nm (judge L o).2.2]) (HH := fun _ => [brsO (judge L o).1]) (mkS (v22 L o (fun p => p.1 ≤ o.length ∧ p.2 = runJ L o p.1 ∧ rightB p.2 = true ∧ ∀ j, j < p.1 → okJ L o j = true) R) (tb (ac X20 (ac X14 (ac X15 az)))) rfl rfl ?_))
  simp only [true_and, and_true, and_self, implies_true, natle_iff, decide_eq_true_eq, decide_eq_false_iff_not, Int.toNat_natCast, implies_true, Bool.not_eq_true', Bool.not_eq_false']
  have bsh : ∀ b : List Br, IsBrs (AV.rows 33 b.length fun i => AV.agg [AV.pl (Value.string (brAt b (0 + i)).name), AV.iarr IntKind.u8 32 (brAt b (0 + i)).id]) b := fun b => ⟨rfl, rfl, fun i _ => by dsimp only; rw [Nat.zero_add]; rfl⟩
  have fin : ∀ M p q, judge L o = (M, p, q) → ∃ _ : Unit, (M.length = (judge L o).fst.length ∧ p = (judge L o).snd.fst ∧ q = (judge L o).snd.snd) ∧ ((judge L o).fst.length ≤ M.length ∧ ∀ (i : Nat), i < (judge L o).fst.length → AV.agg [AV.pl (Value.string (brAt M i).name), AV.iarr IntKind.u8 32 (brAt M i).id] = AV.agg [AV.pl (Value.string (brAt (judge L o).fst i).name), AV.iarr IntKind.u8 32 (brAt (judge L o).fst i).id]) ∧
      R (AV.tup [AV.own 0 0 (judge L o).fst.length, AV.pl (Value.int IntKind.i64 (judge L o).snd.fst), AV.pl (Value.int IntKind.i64 (judge L o).snd.snd)]) [LObj.row 33 45 (judge L o).fst.length (brsF (judge L o).fst)] := by
    intro M p q e
    exact ⟨(), ⟨by rw [e], by rw [e], by rw [e]⟩, ⟨by rw [e]; exact Nat.le_refl _, fun i _ => by rw [e]⟩, h⟩
  have no : ∀ p q, judge L o = ([], p, q) → ∃ _ : Unit, ((judge L o).fst.length = 0 ∧ p = (judge L o).snd.fst ∧ q = (judge L o).snd.snd) ∧ (judge L o).fst.length = 0 ∧
      R (AV.tup [AV.own 0 0 (judge L o).fst.length, AV.pl (Value.int IntKind.i64 (judge L o).snd.fst), AV.pl (Value.int IntKind.i64 (judge L o).snd.snd)]) [LObj.row 33 45 (judge L o).fst.length (brsF (judge L o).fst)] := by
    intro p q e
    exact ⟨(), ⟨by rw [e]; rfl, by rw [e], by rw [e]⟩, by rw [e]; rfl, h⟩
  refine ⟨L, o, isPasts_self L, isOrd_self o, hs, ho, fun hc => no _ _ (by rw [judge, hc]; rfl), fun hc => ⟨⟨(0, []), ⟨rfl, rfl⟩, rfl, Nat.zero_le _, rfl, rfl, fun j hj => by simp only at hj; omega⟩, ?_⟩⟩
  have hc0 : (order L o).2 = 0 := by simpa using hc
  have hchk := chk_ok (order_chk hc0)
  have hrng := order_ok hc0
  rintro ⟨i, b⟩ ⟨hi, hb, hr, hj⟩
  simp only at hi hb hr hj ⊢
  have hlen := len_runJ L o i
  rw [← hb] at hlen
  have hBd : Bd b := by unfold Bd; omega
  refine ⟨fun hlt => ?_, fun hge => fin _ _ _ ?_⟩
  · have hlt' : i < o.length := by omega
    have h1 := hrng i hlt'
    have hck : checkB (rowAt L o i).cmd = true := okP_check (hchk (oAt o i).toNat (by omega))
    refine ⟨⟨by omega, by omega⟩, ⟨by omega, by omega⟩, fun ht => ⟨by omega, b, (rowAt L o i).cmd, bsh b, isCmd_self _, hBd, fun _ _ => rfl, (i + 1, DoesR b (rowAt L o i).cmd), ⟨rfl, by rw [wrap64] <;> (try simp only) <;> omega⟩, ⟨Nat.le_refl _, fun _ _ => rfl⟩, ?_, by simp only; omega⟩, fun ht => ⟨by omega, b, (rowAt L o i).cmd, (rowAt L o i).ans, bsh b, isCmd_self _, isAns_self _, hBd, fun _ _ => rfl, fun hf => no _ _ ?_, fun hf => ⟨(i + 1, fitsRL b (rowAt L o i).cmd (rowAt L o i).ans), ⟨rfl, by rw [wrap64] <;> (try simp only) <;> omega⟩, ⟨Nat.le_refl _, fun _ _ => rfl⟩, ?_, by simp only; omega⟩⟩⟩
    · have ht' : ((rowAt L o i).told == 0) = true := ht
      have hok : okJ L o i = true := by rw [okJ, ht']; rfl
      have hst : DoesR b (rowAt L o i).cmd = runJ L o (i + 1) := by rw [DoesR_eq hr hck, runJ, stepL, ht', ← hb]; rfl
      refine ⟨by simp only; omega, hst, ?_, allTo hj hok⟩
      simp only
      rw [hst, runJ]
      rw [hb] at hr
      exact right_step hr hck hok
    · have ht' : ((rowAt L o i).told == 0) = false := ht
      rw [fitsRB_eq hr] at hf
      have : okJ L o i = false := by rw [okJ, ht', ← hb, FitsB, hf, Bool.and_false]; rfl
      rw [judge, hc, firstNo_some hlt' hj this]; rfl
    · have ht' : ((rowAt L o i).told == 0) = false := ht
      rw [fitsRB_eq hr] at hf
      have hF : FitsB b (rowAt L o i).cmd (rowAt L o i).ans = true := by rw [FitsB, hr, hck, hf]; rfl
      have hok : okJ L o i = true := by rw [okJ, ht', ← hb, hF]; rfl
      have hst : fitsRL b (rowAt L o i).cmd (rowAt L o i).ans = runJ L o (i + 1) := by rw [fitsRL_eq (right_sorted hr), runJ, stepL, ht', ← hb, cond_false, FitsL, hF]; rfl
      refine ⟨by simp only; omega, hst, ?_, allTo hj hok⟩
      simp only
      rw [hst, runJ]
      rw [hb] at hr
      exact right_step hr hck hok
  · have hio : i = o.length := by omega
    subst hio
    rw [judge, hc, hb, firstNo_none hj]; rfl
end Go.Proofs.R1

namespace Go.Proofs.R1
open Go Go.Am

theorem v4 (L S : List Past) (O : List (List Int)) (inv : Nat → Prop) (inv2 : Nat → List Int → Prop) (inv3 : Nat → List Int → Nat → Prop) (R : AV → List LObj → Prop) :
    (vcA false 0 [] Try.prog (mkTab [(6, .lend T6), (16, .lend T16), (17, .lend T17), (18, .lend T18), (19, .lend T19), (20, .lend T20), (21, .lend T21), (22, .lend T22), (11, .lend T11), (23, .lend T23)]) (Try.f4.body.getD .skip) ([.loop 9 Nat inv (fun i => ⟨slotsOf 141 0 [(5, .own 0 0 S.length), (6, .own 1 0 S.length), (50, ordss O), (51, nm O.length), (52, nm i)], [pastsO S, pastsO S]⟩) (fun i => O.length - i) (fun i => [.cut 20 (List Int) (inv2 i) (fun o => ⟨slotsOf 141 0 [(5, .own 0 0 S.length), (6, .own 1 0 S.length), (13, .own 2 0 o.length), (14, .own 3 0 o.length), (50, ordss O), (51, nm O.length), (52, nm i)], [pastsO S, pastsO S, ordsO o, ordsO o]⟩) (fun o => [.loop 21 Nat (inv3 i o) (fun k => ⟨slotsOf 141 0 [(5, .own 0 0 S.length), (6, .own 1 0 S.length), (13, .own 2 0 o.length), (14, .own 3 0 o.length), (50, ordss O), (51, nm O.length), (52, nm i), (126, nm o.length), (127, nm k)], [pastsO S, pastsO S, ordsO o, ordsO o]⟩) (fun k => o.length - k) (fun _ => [])])])]) (finalK Try.prog Try.f4 (R)) (startSt Try.f4 ([pasts L, ordss O]))) = (
    ((!true) = true → (True ∧ True) ∧ True ∧ R (AV.pl (Value.bool false)) []) ∧
    ((!true) = false →
    ∃ (L_1 : List Past),
    IsPasts (AV.rows (104 : Nat) L.length (pastF L)) L_1 ∧
    ∃ (L_2 : List Past),
    IsPasts (AV.rows (104 : Nat) L.length (pastF L)) L_2 ∧
    (((0 : Nat) + (shortL L_1).length).le (shortL L_1).length ∧ True) ∧
    ∃ (L : List Past),
    IsPasts
    (AV.rows (104 : Nat) (shortL L_1).length fun (i : Nat) =>
    AV.agg
    [AV.pl (Value.int IntKind.i64 (pAt (shortL L_1) ((0 : Nat) + i)).cmd.kind),
    AV.pl (Value.int IntKind.i64 (pAt (shortL L_1) ((0 : Nat) + i)).cmd.client),
    AV.pl (Value.int IntKind.u32 (pAt (shortL L_1) ((0 : Nat) + i)).cmd.seq),
    AV.pl (Value.string (pAt (shortL L_1) ((0 : Nat) + i)).cmd.branch),
    AV.iarr IntKind.u8 (32 : Nat) (pAt (shortL L_1) ((0 : Nat) + i)).cmd.old,
    AV.iarr IntKind.u8 (32 : Nat) (pAt (shortL L_1) ((0 : Nat) + i)).cmd.new,
    AV.rows (1 : Nat) (pAt (shortL L_1) ((0 : Nat) + i)).cmd.dn
    (pAt (shortL L_1) ((0 : Nat) + i)).cmd.df,
    AV.pl (Value.int IntKind.i64 (pAt (shortL L_1) ((0 : Nat) + i)).asked),
    AV.pl (Value.int IntKind.i64 (pAt (shortL L_1) ((0 : Nat) + i)).told),
    AV.pl (Value.int IntKind.i64 (pAt (shortL L_1) ((0 : Nat) + i)).ans.err),
    AV.iarr IntKind.u8 (32 : Nat) (pAt (shortL L_1) ((0 : Nat) + i)).ans.id])
    L ∧
    True ∧
    True ∧
    (((0 : Nat) + (shortL L_2).length).le (shortL L_2).length ∧ True) ∧
    ∃ (L_3 : List Past),
    IsPasts
    (AV.rows (104 : Nat) (shortL L_2).length fun (i : Nat) =>
    AV.agg
    [AV.pl (Value.int IntKind.i64 (pAt (shortL L_2) ((0 : Nat) + i)).cmd.kind),
    AV.pl (Value.int IntKind.i64 (pAt (shortL L_2) ((0 : Nat) + i)).cmd.client),
    AV.pl (Value.int IntKind.u32 (pAt (shortL L_2) ((0 : Nat) + i)).cmd.seq),
    AV.pl (Value.string (pAt (shortL L_2) ((0 : Nat) + i)).cmd.branch),
    AV.iarr IntKind.u8 (32 : Nat) (pAt (shortL L_2) ((0 : Nat) + i)).cmd.old,
    AV.iarr IntKind.u8 (32 : Nat) (pAt (shortL L_2) ((0 : Nat) + i)).cmd.new,
    AV.rows (1 : Nat) (pAt (shortL L_2) ((0 : Nat) + i)).cmd.dn
    (pAt (shortL L_2) ((0 : Nat) + i)).cmd.df,
    AV.pl (Value.int IntKind.i64 (pAt (shortL L_2) ((0 : Nat) + i)).asked),
    AV.pl (Value.int IntKind.i64 (pAt (shortL L_2) ((0 : Nat) + i)).told),
    AV.pl (Value.int IntKind.i64 (pAt (shortL L_2) ((0 : Nat) + i)).ans.err),
    AV.iarr IntKind.u8 (32 : Nat) (pAt (shortL L_2) ((0 : Nat) + i)).ans.id])
    L_3 ∧
    (∀ (i : Nat), (0 : Int) ≤ (pAt L_3 i).cmd.seq) ∧
    True ∧
    True ∧
    ((bif (chk L).snd != (chk L_3).snd then true else (chk L).fst != (chk L_3).fst) =
    true →
    (True ∧ True) ∧ True ∧ R (AV.pl (Value.bool false)) []) ∧
    ((bif (chk L).snd != (chk L_3).snd then true else (chk L).fst != (chk L_3).fst) =
    false →
    (∃ (x : Nat),
    ((True ∧ (0 : Nat) = (0 : Nat) ∧ (shortL L_1).length = S.length) ∧
    (True ∧ (0 : Nat) = (0 : Nat) ∧ (shortL L_2).length = S.length) ∧
    ((1 : Nat) = (1 : Nat) ∧
    O.length = O.length ∧
    ∀ (i : Nat), i < O.length → ordsF O i = ordsF O i) ∧
    (↑O.length : Int) = (↑O.length : Int) ∧
    (0 : Int) = (↑x : Int) ∧ True) ∧
    (((104 : Nat) = (104 : Nat) ∧
    (64 : Nat) = (64 : Nat) ∧
    S.length.le (shortL L_1).length ∧
    ∀ (i : Nat),
    i < S.length →
    AV.agg
    [AV.pl
    (Value.int IntKind.i64 (pAt (shortL L_1) i).cmd.kind),
    AV.pl
    (Value.int IntKind.i64
    (pAt (shortL L_1) i).cmd.client),
    AV.pl
    (Value.int IntKind.u32 (pAt (shortL L_1) i).cmd.seq),
    AV.pl (Value.string (pAt (shortL L_1) i).cmd.branch),
    AV.iarr IntKind.u8 (32 : Nat)
    (pAt (shortL L_1) i).cmd.old,
    AV.iarr IntKind.u8 (32 : Nat)
    (pAt (shortL L_1) i).cmd.new,
    AV.rows (1 : Nat) (pAt (shortL L_1) i).cmd.dn
    (pAt (shortL L_1) i).cmd.df,
    AV.pl
    (Value.int IntKind.i64 (pAt (shortL L_1) i).asked),
    AV.pl (Value.int IntKind.i64 (pAt (shortL L_1) i).told),
    AV.pl
    (Value.int IntKind.i64 (pAt (shortL L_1) i).ans.err),
    AV.iarr IntKind.u8 (32 : Nat)
    (pAt (shortL L_1) i).ans.id] =
    AV.agg
    [AV.pl (Value.int IntKind.i64 (pAt S i).cmd.kind),
    AV.pl (Value.int IntKind.i64 (pAt S i).cmd.client),
    AV.pl (Value.int IntKind.u32 (pAt S i).cmd.seq),
    AV.pl (Value.string (pAt S i).cmd.branch),
    AV.iarr IntKind.u8 (32 : Nat) (pAt S i).cmd.old,
    AV.iarr IntKind.u8 (32 : Nat) (pAt S i).cmd.new,
    AV.rows (1 : Nat) (pAt S i).cmd.dn (pAt S i).cmd.df,
    AV.pl (Value.int IntKind.i64 (pAt S i).asked),
    AV.pl (Value.int IntKind.i64 (pAt S i).told),
    AV.pl (Value.int IntKind.i64 (pAt S i).ans.err),
    AV.iarr IntKind.u8 (32 : Nat) (pAt S i).ans.id]) ∧
    ((104 : Nat) = (104 : Nat) ∧
    (64 : Nat) = (64 : Nat) ∧
    S.length.le (shortL L_2).length ∧
    ∀ (i : Nat),
    i < S.length →
    AV.agg
    [AV.pl
    (Value.int IntKind.i64
    (pAt (shortL L_2) i).cmd.kind),
    AV.pl
    (Value.int IntKind.i64
    (pAt (shortL L_2) i).cmd.client),
    AV.pl
    (Value.int IntKind.u32
    (pAt (shortL L_2) i).cmd.seq),
    AV.pl (Value.string (pAt (shortL L_2) i).cmd.branch),
    AV.iarr IntKind.u8 (32 : Nat)
    (pAt (shortL L_2) i).cmd.old,
    AV.iarr IntKind.u8 (32 : Nat)
    (pAt (shortL L_2) i).cmd.new,
    AV.rows (1 : Nat) (pAt (shortL L_2) i).cmd.dn
    (pAt (shortL L_2) i).cmd.df,
    AV.pl
    (Value.int IntKind.i64 (pAt (shortL L_2) i).asked),
    AV.pl
    (Value.int IntKind.i64 (pAt (shortL L_2) i).told),
    AV.pl
    (Value.int IntKind.i64
    (pAt (shortL L_2) i).ans.err),
    AV.iarr IntKind.u8 (32 : Nat)
    (pAt (shortL L_2) i).ans.id] =
    AV.agg
    [AV.pl (Value.int IntKind.i64 (pAt S i).cmd.kind),
    AV.pl (Value.int IntKind.i64 (pAt S i).cmd.client),
    AV.pl (Value.int IntKind.u32 (pAt S i).cmd.seq),
    AV.pl (Value.string (pAt S i).cmd.branch),
    AV.iarr IntKind.u8 (32 : Nat) (pAt S i).cmd.old,
    AV.iarr IntKind.u8 (32 : Nat) (pAt S i).cmd.new,
    AV.rows (1 : Nat) (pAt S i).cmd.dn (pAt S i).cmd.df,
    AV.pl (Value.int IntKind.i64 (pAt S i).asked),
    AV.pl (Value.int IntKind.i64 (pAt S i).told),
    AV.pl (Value.int IntKind.i64 (pAt S i).ans.err),
    AV.iarr IntKind.u8 (32 : Nat) (pAt S i).ans.id]) ∧
    True) ∧
    inv x) ∧
    ∀ (x : Nat),
    inv x →
    (decide ((↑x : Int) < (↑O.length : Int)) = true →
    ((0 : Int) ≤ (↑x : Int) ∧ (↑x : Int) + (1 : Int) ≤ (↑O.length : Int)) ∧
    (((↑x : Int) == (6 : Int)) = true →
    (True ∧ True) ∧ True ∧ R (AV.pl (Value.bool true)) []) ∧
    (((↑x : Int) == (6 : Int)) = false →
    True ∧
    ((0 : Int) ≤ (0 : Int) ∧
    ((0 : Int) ≤
    if
    (60 : Int) <
    (↑(odAt O (↑x : Int).toNat).length : Int) then
    (60 : Int)
    else (↑(odAt O (↑x : Int).toNat).length : Int)) ∧
    (if
    (60 : Int) <
    (↑(odAt O (↑x : Int).toNat).length : Int) then
    (60 : Int)
    else (↑(odAt O (↑x : Int).toNat).length : Int)) ≤
    (↑(odAt O (↑x : Int).toNat).length : Int)) ∧
    (True ∧
    ((if
    (60 : Int) <
    (↑(odAt O (↑x : Int).toNat).length :
    Int) then
    (60 : Int)
    else
    (↑(odAt O (↑x : Int).toNat).length :
    Int)).toNat -
    Int.toNat (0 : Int)).le
    maxLen ∧
    (((if
    (60 : Int) <
    (↑(odAt O (↑x : Int).toNat).length :
    Int) then
    (60 : Int)
    else
    (↑(odAt O (↑x : Int).toNat).length :
    Int)).toNat -
    Int.toNat (0 : Int)) *
    (8 : Nat)).le
    (140737488355328 : Nat)) ∧
    True ∧
    (((0 : Nat) +
    ((if
    (60 : Int) <
    (↑(odAt O (↑x : Int).toNat).length :
    Int) then
    (60 : Int)
    else
    (↑(odAt O (↑x : Int).toNat).length :
    Int)).toNat -
    Int.toNat (0 : Int))).le
    ((if
    (60 : Int) <
    (↑(odAt O (↑x : Int).toNat).length :
    Int) then
    (60 : Int)
    else
    (↑(odAt O (↑x : Int).toNat).length :
    Int)).toNat -
    Int.toNat (0 : Int)) ∧
    ((if
    (60 : Int) <
    (↑(odAt O (↑x : Int).toNat).length :
    Int) then
    (60 : Int)
    else
    (↑(odAt O (↑x : Int).toNat).length :
    Int)).toNat -
    Int.toNat (0 : Int)).le
    maxLen ∧
    (((if
    (60 : Int) <
    (↑(odAt O (↑x : Int).toNat).length :
    Int) then
    (60 : Int)
    else
    (↑(odAt O (↑x : Int).toNat).length :
    Int)).toNat -
    Int.toNat (0 : Int)) *
    (8 : Nat)).le
    (140737488355328 : Nat)) ∧
    (((0 : Nat) + S.length).le S.length ∧
    ((0 : Nat) +
    ((if
    (60 : Int) <
    (↑(odAt O
    (↑x : Int).toNat).length :
    Int) then
    (60 : Int)
    else
    (↑(odAt O (↑x : Int).toNat).length :
    Int)).toNat -
    Int.toNat (0 : Int))).le
    ((if
    (60 : Int) <
    (↑(odAt O (↑x : Int).toNat).length :
    Int) then
    (60 : Int)
    else
    (↑(odAt O (↑x : Int).toNat).length :
    Int)).toNat -
    Int.toNat (0 : Int)) ∧
    True) ∧
    ∃ (L : List Past),
    ∃ (o : List Int),
    IsPasts
    (AV.rows (104 : Nat) S.length fun (i : Nat) =>
    AV.agg
    [AV.pl
    (Value.int IntKind.i64
    (pAt S ((0 : Nat) + i)).cmd.kind),
    AV.pl
    (Value.int IntKind.i64
    (pAt S ((0 : Nat) + i)).cmd.client),
    AV.pl
    (Value.int IntKind.u32
    (pAt S ((0 : Nat) + i)).cmd.seq),
    AV.pl
    (Value.string
    (pAt S ((0 : Nat) + i)).cmd.branch),
    AV.iarr IntKind.u8 (32 : Nat)
    (pAt S ((0 : Nat) + i)).cmd.old,
    AV.iarr IntKind.u8 (32 : Nat)
    (pAt S ((0 : Nat) + i)).cmd.new,
    AV.rows (1 : Nat)
    (pAt S ((0 : Nat) + i)).cmd.dn
    (pAt S ((0 : Nat) + i)).cmd.df,
    AV.pl
    (Value.int IntKind.i64
    (pAt S ((0 : Nat) + i)).asked),
    AV.pl
    (Value.int IntKind.i64
    (pAt S ((0 : Nat) + i)).told),
    AV.pl
    (Value.int IntKind.i64
    (pAt S ((0 : Nat) + i)).ans.err),
    AV.iarr IntKind.u8 (32 : Nat)
    (pAt S ((0 : Nat) + i)).ans.id])
    L ∧
    IsOrd
    (AV.rows (1 : Nat)
    ((if
    (60 : Int) <
    (↑(odAt O
    (↑x :
    Int).toNat).length :
    Int) then
    (60 : Int)
    else
    (↑(odAt O (↑x : Int).toNat).length :
    Int)).toNat -
    Int.toNat (0 : Int))
    fun (i : Nat) =>
    AV.pl
    (Value.int IntKind.i64
    (oAt (odAt O (↑x : Int).toNat)
    (Int.toNat (0 : Int) +
    ((0 : Nat) + i)))))
    o ∧
    o.length.le (1000000 : Nat) ∧
    True ∧
    True ∧
    (((0 : Nat) + S.length).le S.length ∧
    ((0 : Nat) +
    ((if
    (60 : Int) <
    (↑(odAt O
    (↑x :
    Int).toNat).length :
    Int) then
    (60 : Int)
    else
    (↑(odAt O
    (↑x :
    Int).toNat).length :
    Int)).toNat -
    Int.toNat (0 : Int))).le
    ((if
    (60 : Int) <
    (↑(odAt O
    (↑x :
    Int).toNat).length :
    Int) then
    (60 : Int)
    else
    (↑(odAt O
    (↑x :
    Int).toNat).length :
    Int)).toNat -
    Int.toNat (0 : Int)) ∧
    True) ∧
    ∃ (L_4 : List Past),
    ∃ (o_1 : List Int),
    IsPasts
    (AV.rows (104 : Nat) S.length
    fun (i : Nat) =>
    AV.agg
    [AV.pl
    (Value.int IntKind.i64
    (pAt S
    ((0 : Nat) +
    i)).cmd.kind),
    AV.pl
    (Value.int IntKind.i64
    (pAt S
    ((0 : Nat) +
    i)).cmd.client),
    AV.pl
    (Value.int IntKind.u32
    (pAt S
    ((0 : Nat) +
    i)).cmd.seq),
    AV.pl
    (Value.string
    (pAt S
    ((0 : Nat) +
    i)).cmd.branch),
    AV.iarr IntKind.u8
    (32 : Nat)
    (pAt S
    ((0 : Nat) +
    i)).cmd.old,
    AV.iarr IntKind.u8
    (32 : Nat)
    (pAt S
    ((0 : Nat) +
    i)).cmd.new,
    AV.rows (1 : Nat)
    (pAt S
    ((0 : Nat) +
    i)).cmd.dn
    (pAt S
    ((0 : Nat) +
    i)).cmd.df,
    AV.pl
    (Value.int IntKind.i64
    (pAt S
    ((0 : Nat) +
    i)).asked),
    AV.pl
    (Value.int IntKind.i64
    (pAt S
    ((0 : Nat) +
    i)).told),
    AV.pl
    (Value.int IntKind.i64
    (pAt S
    ((0 : Nat) +
    i)).ans.err),
    AV.iarr IntKind.u8
    (32 : Nat)
    (pAt S
    ((0 : Nat) +
    i)).ans.id])
    L_4 ∧
    IsOrd
    (AV.rows (1 : Nat)
    ((if
    (60 : Int) <
    (↑(odAt O
    (↑x :
    Int).toNat).length :
    Int) then
    (60 : Int)
    else
    (↑(odAt O
    (↑x :
    Int).toNat).length :
    Int)).toNat -
    Int.toNat (0 : Int))
    fun (i : Nat) =>
    AV.pl
    (Value.int IntKind.i64
    (oAt
    (odAt O
    (↑x : Int).toNat)
    (Int.toNat
    (0 : Int) +
    ((0 : Nat) +
    ((0 : Nat) +
    i))))))
    o_1 ∧
    (∀ (i : Nat),
    (0 : Int) ≤
    (pAt L_4 i).cmd.seq) ∧
    o_1.length.le
    (1000000 : Nat) ∧
    True ∧
    True ∧
    (((0 : Nat) +
    S.length).le
    S.length ∧
    ((0 : Nat) +
    ((if
    (60 :
    Int) <
    (↑(odAt
    O
    (↑x :
    Int).toNat).length :
    Int) then
    (60 :
    Int)
    else
    (↑(odAt
    O
    (↑x :
    Int).toNat).length :
    Int)).toNat -
    Int.toNat
    (0 :
    Int))).le
    ((if
    (60 :
    Int) <
    (↑(odAt
    O
    (↑x :
    Int).toNat).length :
    Int) then
    (60 :
    Int)
    else
    (↑(odAt
    O
    (↑x :
    Int).toNat).length :
    Int)).toNat -
    Int.toNat
    (0 :
    Int)) ∧
    True) ∧
    ∃ (L_5 : List Past),
    ∃ (o_2 :
    List Int),
    IsPasts
    (AV.rows
    (104 :
    Nat)
    S.length
    fun
    (i :
    Nat) =>
    AV.agg
    [AV.pl
    (Value.int
    IntKind.i64
    (pAt
    S
    ((0 :
    Nat) +
    i)).cmd.kind),
    AV.pl
    (Value.int
    IntKind.i64
    (pAt
    S
    ((0 :
    Nat) +
    i)).cmd.client),
    AV.pl
    (Value.int
    IntKind.u32
    (pAt
    S
    ((0 :
    Nat) +
    i)).cmd.seq),
    AV.pl
    (Value.string
    (pAt
    S
    ((0 :
    Nat) +
    i)).cmd.branch),
    AV.iarr
    IntKind.u8
    (32 :
    Nat)
    (pAt
    S
    ((0 :
    Nat) +
    i)).cmd.old,
    AV.iarr
    IntKind.u8
    (32 :
    Nat)
    (pAt
    S
    ((0 :
    Nat) +
    i)).cmd.new,
    AV.rows
    (1 :
    Nat)
    (pAt
    S
    ((0 :
    Nat) +
    i)).cmd.dn
    (pAt
    S
    ((0 :
    Nat) +
    i)).cmd.df,
    AV.pl
    (Value.int
    IntKind.i64
    (pAt
    S
    ((0 :
    Nat) +
    i)).asked),
    AV.pl
    (Value.int
    IntKind.i64
    (pAt
    S
    ((0 :
    Nat) +
    i)).told),
    AV.pl
    (Value.int
    IntKind.i64
    (pAt
    S
    ((0 :
    Nat) +
    i)).ans.err),
    AV.iarr
    IntKind.u8
    (32 :
    Nat)
    (pAt
    S
    ((0 :
    Nat) +
    i)).ans.id])
    L_5 ∧
    IsOrd
    (AV.rows
    (1 :
    Nat)
    ((if
    (60 :
    Int) <
    (↑(odAt
    O
    (↑x :
    Int).toNat).length :
    Int) then
    (60 :
    Int)
    else
    (↑(odAt
    O
    (↑x :
    Int).toNat).length :
    Int)).toNat -
    Int.toNat
    (0 :
    Int))
    fun
    (i :
    Nat) =>
    AV.pl
    (Value.int
    IntKind.i64
    (oAt
    (odAt
    O
    (↑x :
    Int).toNat)
    (Int.toNat
    (0 :
    Int) +
    ((0 :
    Nat) +
    i)))))
    o_2 ∧
    o_2.length.le
    (1000000 :
    Nat) ∧
    True ∧
    ((∀
    (i :
    Nat),
    i <
    (judge
    L_5
    o_2).fst.length →
    flatB
    (brsF
    (judge
    L_5
    o_2).fst
    i) =
    true) ∧
    True) ∧
    (((0 :
    Nat) +
    S.length).le
    S.length ∧
    ((0 :
    Nat) +
    ((if
    (60 :
    Int) <
    (↑(odAt
    O
    (↑x :
    Int).toNat).length :
    Int) then
    (60 :
    Int)
    else
    (↑(odAt
    O
    (↑x :
    Int).toNat).length :
    Int)).toNat -
    Int.toNat
    (0 :
    Int))).le
    ((if
    (60 :
    Int) <
    (↑(odAt
    O
    (↑x :
    Int).toNat).length :
    Int) then
    (60 :
    Int)
    else
    (↑(odAt
    O
    (↑x :
    Int).toNat).length :
    Int)).toNat -
    Int.toNat
    (0 :
    Int)) ∧
    True) ∧
    ∃
    (L_6
    :
    List
    Past),
    ∃
    (o_3
    :
    List
    Int),
    IsPasts
    (AV.rows
    (104 :
    Nat)
    S.length
    fun
    (i :
    Nat) =>
    AV.agg
    [AV.pl
    (Value.int
    IntKind.i64
    (pAt
    S
    ((0 :
    Nat) +
    i)).cmd.kind),
    AV.pl
    (Value.int
    IntKind.i64
    (pAt
    S
    ((0 :
    Nat) +
    i)).cmd.client),
    AV.pl
    (Value.int
    IntKind.u32
    (pAt
    S
    ((0 :
    Nat) +
    i)).cmd.seq),
    AV.pl
    (Value.string
    (pAt
    S
    ((0 :
    Nat) +
    i)).cmd.branch),
    AV.iarr
    IntKind.u8
    (32 :
    Nat)
    (pAt
    S
    ((0 :
    Nat) +
    i)).cmd.old,
    AV.iarr
    IntKind.u8
    (32 :
    Nat)
    (pAt
    S
    ((0 :
    Nat) +
    i)).cmd.new,
    AV.rows
    (1 :
    Nat)
    (pAt
    S
    ((0 :
    Nat) +
    i)).cmd.dn
    (pAt
    S
    ((0 :
    Nat) +
    i)).cmd.df,
    AV.pl
    (Value.int
    IntKind.i64
    (pAt
    S
    ((0 :
    Nat) +
    i)).asked),
    AV.pl
    (Value.int
    IntKind.i64
    (pAt
    S
    ((0 :
    Nat) +
    i)).told),
    AV.pl
    (Value.int
    IntKind.i64
    (pAt
    S
    ((0 :
    Nat) +
    i)).ans.err),
    AV.iarr
    IntKind.u8
    (32 :
    Nat)
    (pAt
    S
    ((0 :
    Nat) +
    i)).ans.id])
    L_6 ∧
    IsOrd
    (AV.rows
    (1 :
    Nat)
    ((if
    (60 :
    Int) <
    (↑(odAt
    O
    (↑x :
    Int).toNat).length :
    Int) then
    (60 :
    Int)
    else
    (↑(odAt
    O
    (↑x :
    Int).toNat).length :
    Int)).toNat -
    Int.toNat
    (0 :
    Int))
    fun
    (i :
    Nat) =>
    AV.pl
    (Value.int
    IntKind.i64
    (oAt
    (odAt
    O
    (↑x :
    Int).toNat)
    (Int.toNat
    (0 :
    Int) +
    ((0 :
    Nat) +
    ((0 :
    Nat) +
    i))))))
    o_3 ∧
    (∀
    (i :
    Nat),
    (0 :
    Int) ≤
    (pAt
    L_6
    i).cmd.seq) ∧
    o_3.length.le
    (1000000 :
    Nat) ∧
    True ∧
    ((∀
    (i :
    Nat),
    i <
    (judge
    L_6
    o_3).fst.length →
    flatB
    (brsF
    (judge
    L_6
    o_3).fst
    i) =
    true) ∧
    True) ∧
    ((gEq
    (bif
    bif
    bif
    (order
    L
    o).snd !=
    (order
    L_4
    o_1).snd then
    true
    else
    (order
    L
    o).fst !=
    (order
    L_4
    o_1).fst then
    true
    else
    (judge
    L_5
    o_2).snd.snd !=
    (judge
    L_6
    o_3).snd.snd then
    true
    else
    (judge
    L_5
    o_2).snd.fst !=
    (judge
    L_6
    o_3).snd.fst)
    false =
    true →
    (((0 :
    Nat) +
    (judge
    L_5
    o_2).fst.length).le
    (judge
    L_5
    o_2).fst.length ∧
    ((0 :
    Nat) +
    (judge
    L_6
    o_3).fst.length).le
    (judge
    L_6
    o_3).fst.length ∧
    True) ∧
    ∃
    (L
    :
    List
    Br),
    ∃
    (M
    :
    List
    Br),
    IsBrs
    (AV.rows
    (33 :
    Nat)
    (judge
    L_5
    o_2).fst.length
    fun
    (i :
    Nat) =>
    AV.agg
    [AV.pl
    (Value.string
    (brAt
    (judge
    L_5
    o_2).fst
    ((0 :
    Nat) +
    i)).name),
    AV.iarr
    IntKind.u8
    (32 :
    Nat)
    (brAt
    (judge
    L_5
    o_2).fst
    ((0 :
    Nat) +
    i)).id])
    L ∧
    IsBrs
    (AV.rows
    (33 :
    Nat)
    (judge
    L_6
    o_3).fst.length
    fun
    (i :
    Nat) =>
    AV.agg
    [AV.pl
    (Value.string
    (brAt
    (judge
    L_6
    o_3).fst
    ((0 :
    Nat) +
    i)).name),
    AV.iarr
    IntKind.u8
    (32 :
    Nat)
    (brAt
    (judge
    L_6
    o_3).fst
    ((0 :
    Nat) +
    i)).id])
    M ∧
    True ∧
    True ∧
    true =
    true ∧
    (gEq
    (bif
    false then
    true
    else
    !brsEq
    L
    M)
    false =
    true →
    (((0 :
    Nat) +
    S.length).le
    S.length ∧
    ((0 :
    Nat) +
    S.length).le
    S.length ∧
    True) ∧
    ∃
    (L
    :
    List
    Past),
    IsPasts
    (AV.rows
    (104 :
    Nat)
    S.length
    fun
    (i :
    Nat) =>
    AV.agg
    [AV.pl
    (Value.int
    IntKind.i64
    (pAt
    S
    ((0 :
    Nat) +
    i)).cmd.kind),
    AV.pl
    (Value.int
    IntKind.i64
    (pAt
    S
    ((0 :
    Nat) +
    i)).cmd.client),
    AV.pl
    (Value.int
    IntKind.u32
    (pAt
    S
    ((0 :
    Nat) +
    i)).cmd.seq),
    AV.pl
    (Value.string
    (pAt
    S
    ((0 :
    Nat) +
    i)).cmd.branch),
    AV.iarr
    IntKind.u8
    (32 :
    Nat)
    (pAt
    S
    ((0 :
    Nat) +
    i)).cmd.old,
    AV.iarr
    IntKind.u8
    (32 :
    Nat)
    (pAt
    S
    ((0 :
    Nat) +
    i)).cmd.new,
    AV.rows
    (1 :
    Nat)
    (pAt
    S
    ((0 :
    Nat) +
    i)).cmd.dn
    (pAt
    S
    ((0 :
    Nat) +
    i)).cmd.df,
    AV.pl
    (Value.int
    IntKind.i64
    (pAt
    S
    ((0 :
    Nat) +
    i)).asked),
    AV.pl
    (Value.int
    IntKind.i64
    (pAt
    S
    ((0 :
    Nat) +
    i)).told),
    AV.pl
    (Value.int
    IntKind.i64
    (pAt
    S
    ((0 :
    Nat) +
    i)).ans.err),
    AV.iarr
    IntKind.u8
    (32 :
    Nat)
    (pAt
    S
    ((0 :
    Nat) +
    i)).ans.id])
    L ∧
    IsPasts
    (AV.rows
    (104 :
    Nat)
    S.length
    fun
    (i :
    Nat) =>
    AV.agg
    [AV.pl
    (Value.int
    IntKind.i64
    (pAt
    S
    ((0 :
    Nat) +
    i)).cmd.kind),
    AV.pl
    (Value.int
    IntKind.i64
    (pAt
    S
    ((0 :
    Nat) +
    i)).cmd.client),
    AV.pl
    (Value.int
    IntKind.u32
    (pAt
    S
    ((0 :
    Nat) +
    i)).cmd.seq),
    AV.pl
    (Value.string
    (pAt
    S
    ((0 :
    Nat) +
    i)).cmd.branch),
    AV.iarr
    IntKind.u8
    (32 :
    Nat)
    (pAt
    S
    ((0 :
    Nat) +
    i)).cmd.old,
    AV.iarr
    IntKind.u8
    (32 :
    Nat)
    (pAt
    S
    ((0 :
    Nat) +
    i)).cmd.new,
    AV.rows
    (1 :
    Nat)
    (pAt
    S
    ((0 :
    Nat) +
    i)).cmd.dn
    (pAt
    S
    ((0 :
    Nat) +
    i)).cmd.df,
    AV.pl
    (Value.int
    IntKind.i64
    (pAt
    S
    ((0 :
    Nat) +
    i)).asked),
    AV.pl
    (Value.int
    IntKind.i64
    (pAt
    S
    ((0 :
    Nat) +
    i)).told),
    AV.pl
    (Value.int
    IntKind.i64
    (pAt
    S
    ((0 :
    Nat) +
    i)).ans.err),
    AV.iarr
    IntKind.u8
    (32 :
    Nat)
    (pAt
    S
    ((0 :
    Nat) +
    i)).ans.id])
    L ∧
    (∀
    (i :
    Nat),
    IsKnown
    (pAt
    L
    i).cmd.dn
    (pAt
    L
    i).cmd.df) ∧
    True ∧
    True ∧
    true =
    true ∧
    ((bif
    false then
    true
    else
    !true) =
    true →
    (True ∧
    True) ∧
    True ∧
    R
    (AV.pl
    (Value.bool
    false))
    []) ∧
    ((bif
    false then
    true
    else
    !true) =
    false →
    ∃
    (x_1
    :
    List
    Int),
    ((True ∧
    (0 :
    Nat) =
    (0 :
    Nat) ∧
    S.length =
    S.length) ∧
    (True ∧
    (0 :
    Nat) =
    (0 :
    Nat) ∧
    S.length =
    S.length) ∧
    (True ∧
    (0 :
    Nat) =
    (0 :
    Nat) ∧
    (if
    (60 :
    Int) <
    (↑(odAt
    O
    (↑x :
    Int).toNat).length :
    Int) then
    (60 :
    Int)
    else
    (↑(odAt
    O
    (↑x :
    Int).toNat).length :
    Int)).toNat -
    Int.toNat
    (0 :
    Int) =
    x_1.length) ∧
    (True ∧
    (0 :
    Nat) =
    (0 :
    Nat) ∧
    (if
    (60 :
    Int) <
    (↑(odAt
    O
    (↑x :
    Int).toNat).length :
    Int) then
    (60 :
    Int)
    else
    (↑(odAt
    O
    (↑x :
    Int).toNat).length :
    Int)).toNat -
    Int.toNat
    (0 :
    Int) =
    x_1.length) ∧
    ((1 :
    Nat) =
    (1 :
    Nat) ∧
    O.length =
    O.length ∧
    ∀
    (i :
    Nat),
    i <
    O.length →
    ordsF
    O
    i =
    ordsF
    O
    i) ∧
    (↑O.length :
    Int) =
    (↑O.length :
    Int) ∧
    (↑x :
    Int) =
    (↑x :
    Int) ∧
    True) ∧
    (((104 :
    Nat) =
    (104 :
    Nat) ∧
    (64 :
    Nat) =
    (64 :
    Nat) ∧
    S.length.le
    S.length ∧
    ∀
    (i :
    Nat),
    i <
    S.length →
    pastF
    S
    i =
    pastF
    S
    i) ∧
    ((104 :
    Nat) =
    (104 :
    Nat) ∧
    (64 :
    Nat) =
    (64 :
    Nat) ∧
    S.length.le
    S.length ∧
    ∀
    (i :
    Nat),
    i <
    S.length →
    pastF
    S
    i =
    pastF
    S
    i) ∧
    ((1 :
    Nat) =
    (1 :
    Nat) ∧
    (3 :
    Nat) =
    (3 :
    Nat) ∧
    x_1.length.le
    ((if
    (60 :
    Int) <
    (↑(odAt
    O
    (↑x :
    Int).toNat).length :
    Int) then
    (60 :
    Int)
    else
    (↑(odAt
    O
    (↑x :
    Int).toNat).length :
    Int)).toNat -
    Int.toNat
    (0 :
    Int)) ∧
    ∀
    (i :
    Nat),
    i <
    x_1.length →
    AV.pl
    (Value.int
    IntKind.i64
    (oAt
    (odAt
    O
    (↑x :
    Int).toNat)
    (Int.toNat
    (0 :
    Int) +
    i))) =
    AV.pl
    (Value.int
    IntKind.i64
    (oAt
    x_1
    i))) ∧
    ((1 :
    Nat) =
    (1 :
    Nat) ∧
    (3 :
    Nat) =
    (3 :
    Nat) ∧
    x_1.length.le
    ((if
    (60 :
    Int) <
    (↑(odAt
    O
    (↑x :
    Int).toNat).length :
    Int) then
    (60 :
    Int)
    else
    (↑(odAt
    O
    (↑x :
    Int).toNat).length :
    Int)).toNat -
    Int.toNat
    (0 :
    Int)) ∧
    ∀
    (i :
    Nat),
    i <
    x_1.length →
    AV.pl
    (Value.int
    IntKind.i64
    (oAt
    (odAt
    O
    (↑x :
    Int).toNat)
    (Int.toNat
    (0 :
    Int) +
    ((0 :
    Nat) +
    i)))) =
    AV.pl
    (Value.int
    IntKind.i64
    (oAt
    x_1
    i))) ∧
    True) ∧
    inv2
    x
    x_1)) ∧
    (gEq
    (bif
    false then
    true
    else
    !brsEq
    L
    M)
    false =
    false →
    true =
    true ∧
    (true =
    true →
    (True ∧
    True) ∧
    True ∧
    R
    (AV.pl
    (Value.bool
    false))
    []) ∧
    (true =
    false →
    ∃
    (x_1
    :
    List
    Int),
    ((True ∧
    (0 :
    Nat) =
    (0 :
    Nat) ∧
    S.length =
    S.length) ∧
    (True ∧
    (0 :
    Nat) =
    (0 :
    Nat) ∧
    S.length =
    S.length) ∧
    (True ∧
    (0 :
    Nat) =
    (0 :
    Nat) ∧
    (if
    (60 :
    Int) <
    (↑(odAt
    O
    (↑x :
    Int).toNat).length :
    Int) then
    (60 :
    Int)
    else
    (↑(odAt
    O
    (↑x :
    Int).toNat).length :
    Int)).toNat -
    Int.toNat
    (0 :
    Int) =
    x_1.length) ∧
    (True ∧
    (0 :
    Nat) =
    (0 :
    Nat) ∧
    (if
    (60 :
    Int) <
    (↑(odAt
    O
    (↑x :
    Int).toNat).length :
    Int) then
    (60 :
    Int)
    else
    (↑(odAt
    O
    (↑x :
    Int).toNat).length :
    Int)).toNat -
    Int.toNat
    (0 :
    Int) =
    x_1.length) ∧
    ((1 :
    Nat) =
    (1 :
    Nat) ∧
    O.length =
    O.length ∧
    ∀
    (i :
    Nat),
    i <
    O.length →
    ordsF
    O
    i =
    ordsF
    O
    i) ∧
    (↑O.length :
    Int) =
    (↑O.length :
    Int) ∧
    (↑x :
    Int) =
    (↑x :
    Int) ∧
    True) ∧
    (((104 :
    Nat) =
    (104 :
    Nat) ∧
    (64 :
    Nat) =
    (64 :
    Nat) ∧
    S.length.le
    S.length ∧
    ∀
    (i :
    Nat),
    i <
    S.length →
    pastF
    S
    i =
    pastF
    S
    i) ∧
    ((104 :
    Nat) =
    (104 :
    Nat) ∧
    (64 :
    Nat) =
    (64 :
    Nat) ∧
    S.length.le
    S.length ∧
    ∀
    (i :
    Nat),
    i <
    S.length →
    pastF
    S
    i =
    pastF
    S
    i) ∧
    ((1 :
    Nat) =
    (1 :
    Nat) ∧
    (3 :
    Nat) =
    (3 :
    Nat) ∧
    x_1.length.le
    ((if
    (60 :
    Int) <
    (↑(odAt
    O
    (↑x :
    Int).toNat).length :
    Int) then
    (60 :
    Int)
    else
    (↑(odAt
    O
    (↑x :
    Int).toNat).length :
    Int)).toNat -
    Int.toNat
    (0 :
    Int)) ∧
    ∀
    (i :
    Nat),
    i <
    x_1.length →
    AV.pl
    (Value.int
    IntKind.i64
    (oAt
    (odAt
    O
    (↑x :
    Int).toNat)
    (Int.toNat
    (0 :
    Int) +
    i))) =
    AV.pl
    (Value.int
    IntKind.i64
    (oAt
    x_1
    i))) ∧
    ((1 :
    Nat) =
    (1 :
    Nat) ∧
    (3 :
    Nat) =
    (3 :
    Nat) ∧
    x_1.length.le
    ((if
    (60 :
    Int) <
    (↑(odAt
    O
    (↑x :
    Int).toNat).length :
    Int) then
    (60 :
    Int)
    else
    (↑(odAt
    O
    (↑x :
    Int).toNat).length :
    Int)).toNat -
    Int.toNat
    (0 :
    Int)) ∧
    ∀
    (i :
    Nat),
    i <
    x_1.length →
    AV.pl
    (Value.int
    IntKind.i64
    (oAt
    (odAt
    O
    (↑x :
    Int).toNat)
    (Int.toNat
    (0 :
    Int) +
    ((0 :
    Nat) +
    i)))) =
    AV.pl
    (Value.int
    IntKind.i64
    (oAt
    x_1
    i))) ∧
    True) ∧
    inv2
    x
    x_1))) ∧
    (gEq
    (bif
    bif
    bif
    (order
    L
    o).snd !=
    (order
    L_4
    o_1).snd then
    true
    else
    (order
    L
    o).fst !=
    (order
    L_4
    o_1).fst then
    true
    else
    (judge
    L_5
    o_2).snd.snd !=
    (judge
    L_6
    o_3).snd.snd then
    true
    else
    (judge
    L_5
    o_2).snd.fst !=
    (judge
    L_6
    o_3).snd.fst)
    false =
    false →
    true =
    true ∧
    (gEq
    true
    false =
    true →
    (((0 :
    Nat) +
    S.length).le
    S.length ∧
    ((0 :
    Nat) +
    S.length).le
    S.length ∧
    True) ∧
    ∃
    (L
    :
    List
    Past),
    IsPasts
    (AV.rows
    (104 :
    Nat)
    S.length
    fun
    (i :
    Nat) =>
    AV.agg
    [AV.pl
    (Value.int
    IntKind.i64
    (pAt
    S
    ((0 :
    Nat) +
    i)).cmd.kind),
    AV.pl
    (Value.int
    IntKind.i64
    (pAt
    S
    ((0 :
    Nat) +
    i)).cmd.client),
    AV.pl
    (Value.int
    IntKind.u32
    (pAt
    S
    ((0 :
    Nat) +
    i)).cmd.seq),
    AV.pl
    (Value.string
    (pAt
    S
    ((0 :
    Nat) +
    i)).cmd.branch),
    AV.iarr
    IntKind.u8
    (32 :
    Nat)
    (pAt
    S
    ((0 :
    Nat) +
    i)).cmd.old,
    AV.iarr
    IntKind.u8
    (32 :
    Nat)
    (pAt
    S
    ((0 :
    Nat) +
    i)).cmd.new,
    AV.rows
    (1 :
    Nat)
    (pAt
    S
    ((0 :
    Nat) +
    i)).cmd.dn
    (pAt
    S
    ((0 :
    Nat) +
    i)).cmd.df,
    AV.pl
    (Value.int
    IntKind.i64
    (pAt
    S
    ((0 :
    Nat) +
    i)).asked),
    AV.pl
    (Value.int
    IntKind.i64
    (pAt
    S
    ((0 :
    Nat) +
    i)).told),
    AV.pl
    (Value.int
    IntKind.i64
    (pAt
    S
    ((0 :
    Nat) +
    i)).ans.err),
    AV.iarr
    IntKind.u8
    (32 :
    Nat)
    (pAt
    S
    ((0 :
    Nat) +
    i)).ans.id])
    L ∧
    IsPasts
    (AV.rows
    (104 :
    Nat)
    S.length
    fun
    (i :
    Nat) =>
    AV.agg
    [AV.pl
    (Value.int
    IntKind.i64
    (pAt
    S
    ((0 :
    Nat) +
    i)).cmd.kind),
    AV.pl
    (Value.int
    IntKind.i64
    (pAt
    S
    ((0 :
    Nat) +
    i)).cmd.client),
    AV.pl
    (Value.int
    IntKind.u32
    (pAt
    S
    ((0 :
    Nat) +
    i)).cmd.seq),
    AV.pl
    (Value.string
    (pAt
    S
    ((0 :
    Nat) +
    i)).cmd.branch),
    AV.iarr
    IntKind.u8
    (32 :
    Nat)
    (pAt
    S
    ((0 :
    Nat) +
    i)).cmd.old,
    AV.iarr
    IntKind.u8
    (32 :
    Nat)
    (pAt
    S
    ((0 :
    Nat) +
    i)).cmd.new,
    AV.rows
    (1 :
    Nat)
    (pAt
    S
    ((0 :
    Nat) +
    i)).cmd.dn
    (pAt
    S
    ((0 :
    Nat) +
    i)).cmd.df,
    AV.pl
    (Value.int
    IntKind.i64
    (pAt
    S
    ((0 :
    Nat) +
    i)).asked),
    AV.pl
    (Value.int
    IntKind.i64
    (pAt
    S
    ((0 :
    Nat) +
    i)).told),
    AV.pl
    (Value.int
    IntKind.i64
    (pAt
    S
    ((0 :
    Nat) +
    i)).ans.err),
    AV.iarr
    IntKind.u8
    (32 :
    Nat)
    (pAt
    S
    ((0 :
    Nat) +
    i)).ans.id])
    L ∧
    (∀
    (i :
    Nat),
    IsKnown
    (pAt
    L
    i).cmd.dn
    (pAt
    L
    i).cmd.df) ∧
    True ∧
    True ∧
    true =
    true ∧
    ((bif
    false then
    true
    else
    !true) =
    true →
    (True ∧
    True) ∧
    True ∧
    R
    (AV.pl
    (Value.bool
    false))
    []) ∧
    ((bif
    false then
    true
    else
    !true) =
    false →
    ∃
    (x_1
    :
    List
    Int),
    ((True ∧
    (0 :
    Nat) =
    (0 :
    Nat) ∧
    S.length =
    S.length) ∧
    (True ∧
    (0 :
    Nat) =
    (0 :
    Nat) ∧
    S.length =
    S.length) ∧
    (True ∧
    (0 :
    Nat) =
    (0 :
    Nat) ∧
    (if
    (60 :
    Int) <
    (↑(odAt
    O
    (↑x :
    Int).toNat).length :
    Int) then
    (60 :
    Int)
    else
    (↑(odAt
    O
    (↑x :
    Int).toNat).length :
    Int)).toNat -
    Int.toNat
    (0 :
    Int) =
    x_1.length) ∧
    (True ∧
    (0 :
    Nat) =
    (0 :
    Nat) ∧
    (if
    (60 :
    Int) <
    (↑(odAt
    O
    (↑x :
    Int).toNat).length :
    Int) then
    (60 :
    Int)
    else
    (↑(odAt
    O
    (↑x :
    Int).toNat).length :
    Int)).toNat -
    Int.toNat
    (0 :
    Int) =
    x_1.length) ∧
    ((1 :
    Nat) =
    (1 :
    Nat) ∧
    O.length =
    O.length ∧
    ∀
    (i :
    Nat),
    i <
    O.length →
    ordsF
    O
    i =
    ordsF
    O
    i) ∧
    (↑O.length :
    Int) =
    (↑O.length :
    Int) ∧
    (↑x :
    Int) =
    (↑x :
    Int) ∧
    True) ∧
    (((104 :
    Nat) =
    (104 :
    Nat) ∧
    (64 :
    Nat) =
    (64 :
    Nat) ∧
    S.length.le
    S.length ∧
    ∀
    (i :
    Nat),
    i <
    S.length →
    pastF
    S
    i =
    pastF
    S
    i) ∧
    ((104 :
    Nat) =
    (104 :
    Nat) ∧
    (64 :
    Nat) =
    (64 :
    Nat) ∧
    S.length.le
    S.length ∧
    ∀
    (i :
    Nat),
    i <
    S.length →
    pastF
    S
    i =
    pastF
    S
    i) ∧
    ((1 :
    Nat) =
    (1 :
    Nat) ∧
    (3 :
    Nat) =
    (3 :
    Nat) ∧
    x_1.length.le
    ((if
    (60 :
    Int) <
    (↑(odAt
    O
    (↑x :
    Int).toNat).length :
    Int) then
    (60 :
    Int)
    else
    (↑(odAt
    O
    (↑x :
    Int).toNat).length :
    Int)).toNat -
    Int.toNat
    (0 :
    Int)) ∧
    ∀
    (i :
    Nat),
    i <
    x_1.length →
    AV.pl
    (Value.int
    IntKind.i64
    (oAt
    (odAt
    O
    (↑x :
    Int).toNat)
    (Int.toNat
    (0 :
    Int) +
    i))) =
    AV.pl
    (Value.int
    IntKind.i64
    (oAt
    x_1
    i))) ∧
    ((1 :
    Nat) =
    (1 :
    Nat) ∧
    (3 :
    Nat) =
    (3 :
    Nat) ∧
    x_1.length.le
    ((if
    (60 :
    Int) <
    (↑(odAt
    O
    (↑x :
    Int).toNat).length :
    Int) then
    (60 :
    Int)
    else
    (↑(odAt
    O
    (↑x :
    Int).toNat).length :
    Int)).toNat -
    Int.toNat
    (0 :
    Int)) ∧
    ∀
    (i :
    Nat),
    i <
    x_1.length →
    AV.pl
    (Value.int
    IntKind.i64
    (oAt
    (odAt
    O
    (↑x :
    Int).toNat)
    (Int.toNat
    (0 :
    Int) +
    ((0 :
    Nat) +
    i)))) =
    AV.pl
    (Value.int
    IntKind.i64
    (oAt
    x_1
    i))) ∧
    True) ∧
    inv2
    x
    x_1)) ∧
    (gEq
    true
    false =
    false →
    true =
    true ∧
    (true =
    true →
    (True ∧
    True) ∧
    True ∧
    R
    (AV.pl
    (Value.bool
    false))
    []) ∧
    (true =
    false →
    ∃
    (x_1
    :
    List
    Int),
    ((True ∧
    (0 :
    Nat) =
    (0 :
    Nat) ∧
    S.length =
    S.length) ∧
    (True ∧
    (0 :
    Nat) =
    (0 :
    Nat) ∧
    S.length =
    S.length) ∧
    (True ∧
    (0 :
    Nat) =
    (0 :
    Nat) ∧
    (if
    (60 :
    Int) <
    (↑(odAt
    O
    (↑x :
    Int).toNat).length :
    Int) then
    (60 :
    Int)
    else
    (↑(odAt
    O
    (↑x :
    Int).toNat).length :
    Int)).toNat -
    Int.toNat
    (0 :
    Int) =
    x_1.length) ∧
    (True ∧
    (0 :
    Nat) =
    (0 :
    Nat) ∧
    (if
    (60 :
    Int) <
    (↑(odAt
    O
    (↑x :
    Int).toNat).length :
    Int) then
    (60 :
    Int)
    else
    (↑(odAt
    O
    (↑x :
    Int).toNat).length :
    Int)).toNat -
    Int.toNat
    (0 :
    Int) =
    x_1.length) ∧
    ((1 :
    Nat) =
    (1 :
    Nat) ∧
    O.length =
    O.length ∧
    ∀
    (i :
    Nat),
    i <
    O.length →
    ordsF
    O
    i =
    ordsF
    O
    i) ∧
    (↑O.length :
    Int) =
    (↑O.length :
    Int) ∧
    (↑x :
    Int) =
    (↑x :
    Int) ∧
    True) ∧
    (((104 :
    Nat) =
    (104 :
    Nat) ∧
    (64 :
    Nat) =
    (64 :
    Nat) ∧
    S.length.le
    S.length ∧
    ∀
    (i :
    Nat),
    i <
    S.length →
    pastF
    S
    i =
    pastF
    S
    i) ∧
    ((104 :
    Nat) =
    (104 :
    Nat) ∧
    (64 :
    Nat) =
    (64 :
    Nat) ∧
    S.length.le
    S.length ∧
    ∀
    (i :
    Nat),
    i <
    S.length →
    pastF
    S
    i =
    pastF
    S
    i) ∧
    ((1 :
    Nat) =
    (1 :
    Nat) ∧
    (3 :
    Nat) =
    (3 :
    Nat) ∧
    x_1.length.le
    ((if
    (60 :
    Int) <
    (↑(odAt
    O
    (↑x :
    Int).toNat).length :
    Int) then
    (60 :
    Int)
    else
    (↑(odAt
    O
    (↑x :
    Int).toNat).length :
    Int)).toNat -
    Int.toNat
    (0 :
    Int)) ∧
    ∀
    (i :
    Nat),
    i <
    x_1.length →
    AV.pl
    (Value.int
    IntKind.i64
    (oAt
    (odAt
    O
    (↑x :
    Int).toNat)
    (Int.toNat
    (0 :
    Int) +
    i))) =
    AV.pl
    (Value.int
    IntKind.i64
    (oAt
    x_1
    i))) ∧
    ((1 :
    Nat) =
    (1 :
    Nat) ∧
    (3 :
    Nat) =
    (3 :
    Nat) ∧
    x_1.length.le
    ((if
    (60 :
    Int) <
    (↑(odAt
    O
    (↑x :
    Int).toNat).length :
    Int) then
    (60 :
    Int)
    else
    (↑(odAt
    O
    (↑x :
    Int).toNat).length :
    Int)).toNat -
    Int.toNat
    (0 :
    Int)) ∧
    ∀
    (i :
    Nat),
    i <
    x_1.length →
    AV.pl
    (Value.int
    IntKind.i64
    (oAt
    (odAt
    O
    (↑x :
    Int).toNat)
    (Int.toNat
    (0 :
    Int) +
    ((0 :
    Nat) +
    i)))) =
    AV.pl
    (Value.int
    IntKind.i64
    (oAt
    x_1
    i))) ∧
    True) ∧
    inv2
    x
    x_1)))) ∧
    ∀
    (x_1 :
    List
    Int),
    inv2
    x
    x_1 →
    (∃
    (x_2
    :
    Nat),
    ((True ∧
    (0 :
    Nat) =
    (0 :
    Nat) ∧
    S.length =
    S.length) ∧
    (True ∧
    (0 :
    Nat) =
    (0 :
    Nat) ∧
    S.length =
    S.length) ∧
    (True ∧
    (0 :
    Nat) =
    (0 :
    Nat) ∧
    x_1.length =
    x_1.length) ∧
    (True ∧
    (0 :
    Nat) =
    (0 :
    Nat) ∧
    x_1.length =
    x_1.length) ∧
    ((1 :
    Nat) =
    (1 :
    Nat) ∧
    O.length =
    O.length ∧
    ∀
    (i :
    Nat),
    i <
    O.length →
    ordsF
    O
    i =
    ordsF
    O
    i) ∧
    (↑O.length :
    Int) =
    (↑O.length :
    Int) ∧
    (↑x :
    Int) =
    (↑x :
    Int) ∧
    (↑x_1.length :
    Int) =
    (↑x_1.length :
    Int) ∧
    (0 :
    Int) =
    (↑x_2 :
    Int) ∧
    True) ∧
    (((104 :
    Nat) =
    (104 :
    Nat) ∧
    (64 :
    Nat) =
    (64 :
    Nat) ∧
    S.length.le
    S.length ∧
    ∀
    (i :
    Nat),
    i <
    S.length →
    pastF
    S
    i =
    pastF
    S
    i) ∧
    ((104 :
    Nat) =
    (104 :
    Nat) ∧
    (64 :
    Nat) =
    (64 :
    Nat) ∧
    S.length.le
    S.length ∧
    ∀
    (i :
    Nat),
    i <
    S.length →
    pastF
    S
    i =
    pastF
    S
    i) ∧
    ((1 :
    Nat) =
    (1 :
    Nat) ∧
    (3 :
    Nat) =
    (3 :
    Nat) ∧
    x_1.length.le
    x_1.length ∧
    ∀
    (i :
    Nat),
    i <
    x_1.length →
    ordF
    x_1
    i =
    ordF
    x_1
    i) ∧
    ((1 :
    Nat) =
    (1 :
    Nat) ∧
    (3 :
    Nat) =
    (3 :
    Nat) ∧
    x_1.length.le
    x_1.length ∧
    ∀
    (i :
    Nat),
    i <
    x_1.length →
    ordF
    x_1
    i =
    ordF
    x_1
    i) ∧
    True) ∧
    inv3
    x
    x_1
    x_2) ∧
    ∀
    (x_2 :
    Nat),
    inv3
    x
    x_1
    x_2 →
    (decide
    ((↑x_2 :
    Int) <
    (↑x_1.length :
    Int)) =
    true →
    ((0 :
    Int) ≤
    (↑x_2 :
    Int) ∧
    (↑x_2 :
    Int) +
    (1 :
    Int) ≤
    (↑x_1.length :
    Int)) ∧
    ((0 :
    Int) ≤
    (↑x_2 :
    Int) ∧
    (↑x_2 :
    Int) +
    (1 :
    Int) ≤
    (↑x_1.length :
    Int)) ∧
    (((0 :
    Nat) +
    (↑x_2 :
    Int).toNat).succ.le
    x_1.length ∧
    True) ∧
    (((0 :
    Nat) +
    (↑x_2 :
    Int).toNat).succ.le
    x_1.length ∧
    True) ∧
    ((0 :
    Int) ≤
    (↑x_2 :
    Int) ∧
    (↑x_2 :
    Int) +
    (1 :
    Int) ≤
    (↑x_1.length :
    Int)) ∧
    ((0 :
    Int) ≤
    (↑x_2 :
    Int) ∧
    (↑x_2 :
    Int) +
    (1 :
    Int) ≤
    (↑x_1.length :
    Int)) ∧
    (((0 :
    Nat) +
    (↑x_2 :
    Int).toNat).succ.le
    x_1.length ∧
    True) ∧
    (((0 :
    Nat) +
    (↑x_2 :
    Int).toNat).succ.le
    x_1.length ∧
    True) ∧
    ((oAt
    x_1
    ((0 :
    Nat) +
    (↑x_2 :
    Int).toNat) !=
    oAt
    x_1
    ((0 :
    Nat) +
    (↑x_2 :
    Int).toNat)) =
    true →
    (True ∧
    True) ∧
    True ∧
    R
    (AV.pl
    (Value.bool
    false))
    []) ∧
    ((oAt
    x_1
    ((0 :
    Nat) +
    (↑x_2 :
    Int).toNat) !=
    oAt
    x_1
    ((0 :
    Nat) +
    (↑x_2 :
    Int).toNat)) =
    false →
    ∃
    (y
    :
    Nat),
    ((True ∧
    (0 :
    Nat) =
    (0 :
    Nat) ∧
    S.length =
    S.length) ∧
    (True ∧
    (0 :
    Nat) =
    (0 :
    Nat) ∧
    S.length =
    S.length) ∧
    (True ∧
    (0 :
    Nat) =
    (0 :
    Nat) ∧
    x_1.length =
    x_1.length) ∧
    (True ∧
    (0 :
    Nat) =
    (0 :
    Nat) ∧
    x_1.length =
    x_1.length) ∧
    ((1 :
    Nat) =
    (1 :
    Nat) ∧
    O.length =
    O.length ∧
    ∀
    (i :
    Nat),
    i <
    O.length →
    ordsF
    O
    i =
    ordsF
    O
    i) ∧
    (↑O.length :
    Int) =
    (↑O.length :
    Int) ∧
    (↑x :
    Int) =
    (↑x :
    Int) ∧
    (↑x_1.length :
    Int) =
    (↑x_1.length :
    Int) ∧
    IntKind.i64.wrap
    ((↑x_2 :
    Int) +
    (1 :
    Int)) =
    (↑y :
    Int) ∧
    True) ∧
    (((104 :
    Nat) =
    (104 :
    Nat) ∧
    (64 :
    Nat) =
    (64 :
    Nat) ∧
    S.length.le
    S.length ∧
    ∀
    (i :
    Nat),
    i <
    S.length →
    pastF
    S
    i =
    pastF
    S
    i) ∧
    ((104 :
    Nat) =
    (104 :
    Nat) ∧
    (64 :
    Nat) =
    (64 :
    Nat) ∧
    S.length.le
    S.length ∧
    ∀
    (i :
    Nat),
    i <
    S.length →
    pastF
    S
    i =
    pastF
    S
    i) ∧
    ((1 :
    Nat) =
    (1 :
    Nat) ∧
    (3 :
    Nat) =
    (3 :
    Nat) ∧
    x_1.length.le
    x_1.length ∧
    ∀
    (i :
    Nat),
    i <
    x_1.length →
    ordF
    x_1
    i =
    ordF
    x_1
    i) ∧
    ((1 :
    Nat) =
    (1 :
    Nat) ∧
    (3 :
    Nat) =
    (3 :
    Nat) ∧
    x_1.length.le
    x_1.length ∧
    ∀
    (i :
    Nat),
    i <
    x_1.length →
    ordF
    x_1
    i =
    ordF
    x_1
    i) ∧
    True) ∧
    inv3
    x
    x_1
    y ∧
    (x_1.length -
    y).succ.le
    (x_1.length -
    x_2))) ∧
    (decide
    ((↑x_2 :
    Int) <
    (↑x_1.length :
    Int)) =
    false →
    ∃
    (y
    :
    Nat),
    ((True ∧
    (0 :
    Nat) =
    (0 :
    Nat) ∧
    S.length =
    S.length) ∧
    (True ∧
    (0 :
    Nat) =
    (0 :
    Nat) ∧
    S.length =
    S.length) ∧
    ((1 :
    Nat) =
    (1 :
    Nat) ∧
    O.length =
    O.length ∧
    ∀
    (i :
    Nat),
    i <
    O.length →
    ordsF
    O
    i =
    ordsF
    O
    i) ∧
    (↑O.length :
    Int) =
    (↑O.length :
    Int) ∧
    IntKind.i64.wrap
    ((↑x :
    Int) +
    (1 :
    Int)) =
    (↑y :
    Int) ∧
    True) ∧
    (((104 :
    Nat) =
    (104 :
    Nat) ∧
    (64 :
    Nat) =
    (64 :
    Nat) ∧
    S.length.le
    S.length ∧
    ∀
    (i :
    Nat),
    i <
    S.length →
    pastF
    S
    i =
    pastF
    S
    i) ∧
    ((104 :
    Nat) =
    (104 :
    Nat) ∧
    (64 :
    Nat) =
    (64 :
    Nat) ∧
    S.length.le
    S.length ∧
    ∀
    (i :
    Nat),
    i <
    S.length →
    pastF
    S
    i =
    pastF
    S
    i) ∧
    True) ∧
    inv
    y ∧
    (O.length -
    y).succ.le
    (O.length -
    x)))) ∧
    (decide ((↑x : Int) < (↑O.length : Int)) = false →
    (True ∧ True) ∧ True ∧ R (AV.pl (Value.bool true)) [])))) := by kernel_rfl
theorem pAt_short (L : List Past) (i : Nat) : (pAt (shortL L) i).cmd = cutC (pAt L i).cmd ∨ (pAt (shortL L) i).cmd = (default : Past).cmd := by
  unfold shortL pAt
  simp only [List.getD_eq_getElem?_getD, List.getElem?_map]
  rcases Nat.lt_or_ge i (limP L.length) with h | h
  · rw [List.getElem?_take_of_lt h]
    cases L[i]? with
    | none => exact .inr rfl
    | some p => exact .inl rfl
  · rw [List.getElem?_take_eq_none h]
    exact .inr rfl
theorem short_seq {L : List Past} (hs : ∀ i, 0 ≤ (pAt L i).cmd.seq) (i : Nat) : 0 ≤ (pAt (shortL L) i).cmd.seq := by
  rcases pAt_short L i with h | h <;> rw [h]
  · exact hs i
  · exact Int.le_refl _
theorem short_known {L : List Past} (hd : ∀ i, IsKnown (pAt L i).cmd.dn (pAt L i).cmd.df) (i : Nat) : IsKnown (pAt (shortL L) i).cmd.dn (pAt (shortL L) i).cmd.df := by
  rcases pAt_short L i with h | h <;> rw [h]
  · obtain ⟨u, hu⟩ := hd i
    exact ⟨u, fun j hj => hu j (Nat.lt_of_lt_of_le hj (Nat.min_le_left _ _))⟩
  · exact ⟨fun _ => 0, fun j hj => absurd hj (Nat.not_lt_zero j)⟩
theorem X4 : EntOk Try.prog 4 (.lend T4) := by
  refine ⟨enters_of (fn := Try.f4) rfl rfl (by kernel_rfl), fun args R h => ?_⟩
  unfold T4 at h
  split at h
  case h_2 => exact h.elim
  obtain ⟨L, O, hx, hy, hs, hd, h⟩ := h
  refine Spec.argsR (args' := [pasts L, ordss O]) ⟨hx, hy, trivial⟩ (Spec.given fun hg => mkS (v4 L (shortL L) O (fun i => i ≤ O.length) (fun i o => i < O.length ∧ o.length ≤ 60) (fun i o k => (i < O.length ∧ o.length ≤ 60) ∧ k ≤ o.length) R) (tb (ac X6 (ac X16 (ac X17 (ac X18 (ac X19 (ac X20 (ac X21 (ac X22 (ac X11 (ac X23 az))))))))))) rfl rfl ?_)
  simp only [true_and, and_true, and_self, implies_true, forall_const, gEq_false, natle_iff, decide_eq_true_eq, decide_eq_false_iff_not, Int.toNat_natCast, cond_bt, Bool.cond_false, Bool.not_true, false_implies, implies_true, Bool.true_eq_false, Bool.false_eq_true, Bool.not_eq_true', Bool.not_eq_false']
  have hO : O.length ≤ 9223372036854775807 := by rw [← maxLen_eq]; exact hg.2.1
  have hmax : 2000000 ≤ maxLen := by rw [maxLen_eq]; omega
  have e0 : Int.toNat 0 = 0 := rfl
  refine ⟨L, isPasts_self L, L, isPasts_self L, ?_⟩
  have hsq := short_seq hs
  have hkn := short_known hd
  generalize shortL L = S at hsq hkn
  simp only [Nat.zero_add]
  refine ⟨Nat.le_refl _, S, isPasts_self S, Nat.le_refl _, S, isPasts_self S, hsq, fun hb => (by simp at hb), fun _ => ⟨⟨0, ⟨trivial, trivial, rfl⟩, ⟨⟨Nat.le_refl _, fun _ _ => trivial⟩, Nat.le_refl _, fun _ _ => trivial⟩, Nat.zero_le _⟩, fun x hx => ⟨fun hlt => ⟨⟨by omega, by omega⟩, fun _ => h, fun _ => ?_⟩, fun _ => h⟩⟩⟩
  have hxl : x < O.length := by omega
  have e60 : (if (60 : Int) < ((odAt O x).length : Int) then (60 : Int) else ((odAt O x).length : Int)) = ((((odAt O x).take 60).length : Nat) : Int) := by rw [List.length_take]; split <;> omega
  have hw : ((odAt O x).take 60).length ≤ 60 := by rw [List.length_take]; omega
  have hwl : ((odAt O x).take 60).length ≤ (odAt O x).length := by rw [List.length_take]; omega
  have hat : ∀ i, i < ((odAt O x).take 60).length → oAt (odAt O x) i = oAt ((odAt O x).take 60) i := fun i hi => (oAt_take _ 60 i (by omega)).symm
  simp only [e60, Int.toNat_natCast, e0, Nat.sub_zero, Nat.zero_add]
  generalize (odAt O x).take 60 = w at hw hwl hat
  have hord : IsOrd (AV.rows 1 w.length fun i => AV.pl (Value.int IntKind.i64 (oAt (odAt O x) i))) w := ⟨rfl, rfl, fun i hi => by dsimp only; rw [hat i hi]; rfl⟩
  refine ⟨⟨Int.le_refl _, by omega, by omega⟩, ⟨by omega, by omega⟩, ⟨Nat.le_refl _, by omega, by omega⟩, ⟨Nat.le_refl _, Nat.le_refl _⟩, S, w, isPasts_self S, hord, by omega, ⟨Nat.le_refl _, Nat.le_refl _⟩, S, w, isPasts_self S, hord, hsq, by omega, ⟨Nat.le_refl _, Nat.le_refl _⟩, S, w, isPasts_self S, hord, by omega, fun _ _ => rfl, ⟨Nat.le_refl _, Nat.le_refl _⟩, S, w, isPasts_self S, hord, hsq, by omega, fun _ _ => rfl, ⟨fun _ => ⟨⟨Nat.le_refl _, Nat.le_refl _⟩, (judge S w).1, (judge S w).1, isBrs_self _, isBrs_self _, fun _ => ⟨Nat.le_refl _, S, isPasts_self S, isPasts_self S, hkn, w, rfl, ⟨Nat.le_refl _, Nat.le_refl _, ⟨Nat.le_refl _, fun i hi => by rw [hat i hi]⟩, Nat.le_refl _, fun i hi => by rw [hat i hi]⟩, hxl, hw⟩, fun hb => (by rw [brsEq_self] at hb; cases hb)⟩, fun hb => (by simp at hb)⟩, ?_⟩
  clear hord hat hwl hw e60 w
  intro w hw
  refine ⟨⟨0, rfl, ⟨Nat.le_refl _, Nat.le_refl _, Nat.le_refl _⟩, hw, Nat.zero_le _⟩, fun k hk => ⟨fun hlt => ⟨⟨by omega, by omega⟩, ⟨by omega, by omega⟩, by omega, by omega, ⟨by omega, by omega⟩, ⟨by omega, by omega⟩, by omega, by omega, fun hb => (by simp at hb), fun _ => ⟨k + 1, by rw [wrap64] <;> omega, ⟨Nat.le_refl _, Nat.le_refl _, Nat.le_refl _⟩, ⟨hw, by omega⟩, by omega⟩⟩, fun hge => ⟨x + 1, by rw [wrap64] <;> omega, ⟨Nat.le_refl _, by omega, by omega⟩⟩⟩⟩
end Go.Proofs.R1

namespace Go.Proofs.R1
open Go Go.Am

theorem g47 : goodT Try.prog 6 47 = true := by kernel_rfl
theorem g48 : goodT Try.prog 6 48 = true := by kernel_rfl
theorem c64 : Try.prog.cellsOf 64 = 104 := by kernel_rfl
theorem c52 : Try.prog.cellsOf 52 = 1 := by kernel_rfl
theorem c3 : Try.prog.cellsOf 3 = 1 := by kernel_rfl
theorem partsKnown {n : Nat} {Xs : List AV} (h : Parts Try.prog (n + 2) 29 Xs) : ∃ m f, Xs = [.rows 1 m f] ∧ IsKnown m f := by
  obtain ⟨m, f, rfl, _, h1⟩ := Parts.slice Try.underlying29 h
  refine ⟨m, f, by rw [c5], ?_⟩
  refine ⟨fun i => match f i with | .pl (.int _ z) => z | _ => 0, fun i hi => ?_⟩
  obtain ⟨Ys, hp, hf⟩ := h1 i hi
  obtain ⟨z, rfl, _⟩ := Parts.int Try.underlying5 hp
  rw [wrapE_int Try.underlying5] at hf
  dsimp only
  rw [hf]
theorem partsCmdK {n : Nat} {Xs : List AV} (h : Parts Try.prog (n + 3) 31 Xs) : ∃ c : Cmd, Xs = partsL c.av ∧ 0 ≤ c.seq ∧ IsKnown c.dn c.df := by
  obtain ⟨_, _, rfl, h1, _, _, rfl, h2, _, _, rfl, h3, _, _, rfl, h4, _, _, rfl, h5, _, _, rfl, h6, _, _, rfl, h7, rfl⟩ := Parts.struct Try.underlying31 h
  obtain ⟨k, rfl, _⟩ := Parts.int Try.underlying3 h1
  obtain ⟨cl, rfl, _⟩ := Parts.int Try.underlying3 h2
  obtain ⟨sq, rfl, hw⟩ := Parts.int Try.underlying26 h3
  obtain ⟨s, rfl, _⟩ := Parts.string Try.underlying9 h4
  obtain ⟨o, rfl⟩ := partsId h5
  obtain ⟨w, rfl⟩ := partsId h6
  obtain ⟨m, f, rfl, hk⟩ := partsKnown h7
  refine ⟨⟨k, cl, sq, s, o, w, m, f⟩, rfl, ?_, hk⟩
  simp only [Lit.wf, Bool.and_eq_true, decide_eq_true_eq] at hw
  exact hw.1
theorem partsPasts {Xs : List AV} (h : Parts Try.prog 6 47 Xs) : ∃ L : List Past, IsPasts (wrapV Try.prog 47 Xs) L ∧ (∀ i, 0 ≤ (pAt L i).cmd.seq) ∧ ∀ i, IsKnown (pAt L i).cmd.dn (pAt L i).cmd.df := by
  obtain ⟨m, f, rfl, _, h1⟩ := Parts.slice Try.underlying47 h
  obtain ⟨L, hl, hL⟩ := list_of (fun i (p : Past) => f i = p.av ∧ 0 ≤ p.cmd.seq ∧ IsKnown p.cmd.dn p.cmd.df) m (fun i hi => by
    obtain ⟨Ys, hp, hf⟩ := h1 i hi
    rw [wrapE_struct Try.underlying64] at hf
    obtain ⟨_, _, rfl, h2, _, _, rfl, h3, _, _, rfl, h4, _, _, rfl, h5, rfl⟩ := Parts.struct Try.underlying64 hp
    obtain ⟨c, rfl, hc, hk⟩ := partsCmdK h2
    obtain ⟨a1, rfl, _⟩ := Parts.int Try.underlying3 h3
    obtain ⟨a2, rfl, _⟩ := Parts.int Try.underlying3 h4
    obtain ⟨a, rfl⟩ := partsAns h5
    exact ⟨⟨c, a1, a2, a⟩, hf, hc, hk⟩)
  have hat : ∀ i (h : i < L.length), pAt L i = L[i] := fun i h => by simp [pAt, h]
  have hout : ∀ i, L.length ≤ i → pAt L i = default := fun i h => by simp [pAt, h]
  refine ⟨L, ?_, fun i => ?_, fun i => ?_⟩
  · rw [wrapV_slice Try.underlying47, c64]
    have : AV.rows 104 m f = AV.rows 104 L.length f := by rw [hl]
    rw [this]
    refine ⟨rfl, rfl, fun i hi => ?_⟩
    have e : f i = (pAt L i).av := by rw [hat i hi]; exact (hL i hi).1
    show leA [] (f i) (pAt L i).av
    rw [e]
    exact (isPasts_self L).2.2 i hi
  · rcases Nat.lt_or_ge i L.length with h2 | h2
    · rw [hat i h2]; exact (hL i h2).2.1
    · rw [hout i h2]; exact Int.le_refl _
  · rcases Nat.lt_or_ge i L.length with h2 | h2
    · rw [hat i h2]; exact (hL i h2).2.2
    · rw [hout i h2]; exact ⟨fun _ => 0, fun j hj => absurd hj (Nat.not_lt_zero j)⟩
theorem partsOrds {Xs : List AV} (h : Parts Try.prog 6 48 Xs) : ∃ O : List (List Int), IsOrds (wrapV Try.prog 48 Xs) O := by
  obtain ⟨m, f, rfl, _, h1⟩ := Parts.slice Try.underlying48 h
  obtain ⟨O, hl, hO⟩ := list_of (fun i (o : List Int) => ∃ g, f i = .rows 1 o.length g ∧ ∀ j, j < o.length → g j = ordF o j) m (fun i hi => by
    obtain ⟨Ys, hp, hf⟩ := h1 i hi
    obtain ⟨k, g, rfl, _, h2⟩ := Parts.slice Try.underlying52 hp
    obtain ⟨o, ho, hoo⟩ := list_of (fun j (z : Int) => g j = nm z) k (fun j hj => by
      obtain ⟨Zs, hq, hg⟩ := h2 j hj
      obtain ⟨z, rfl, _⟩ := Parts.int Try.underlying3 hq
      rw [wrapE_int Try.underlying3] at hg
      exact ⟨z, hg⟩)
    refine ⟨o, g, ?_, fun j hj => ?_⟩
    · rw [hf, c3, ho]
      simp only [wrapE, Try.underlying52]
      rfl
    · rw [hoo j hj]
      simp [ordF, oAt, hj])
  refine ⟨O, ?_⟩
  rw [wrapV_slice Try.underlying48, c52]
  have : AV.rows 1 m f = AV.rows 1 O.length f := by rw [hl]
  rw [this]
  refine ⟨rfl, rfl, fun i hi => ?_⟩
  obtain ⟨g, hg, hgg⟩ := hO i hi
  have e : odAt O i = O[i] := by simp [odAt, hi]
  show leA [] (f i) (ords (odAt O i))
  rw [e, hg]
  exact ⟨rfl, rfl, hgg⟩
/-- What IdealJudges computes of all that it may be given: true. -/
theorem judges_spec (xs : List AV) (h : ArgsOf Try.prog 6 Try.f4.params.toList xs) : Am.Spec Try.prog 4 xs fun y _ => y = .pl (.bool true) := by
  rw [Try.params4] at h
  obtain ⟨Ys, xs, rfl, hp, h⟩ := args_cons h
  obtain ⟨Zs, xs, rfl, hq, h⟩ := args_cons h
  obtain rfl := args_nil h
  obtain ⟨L, hL, hs, hk⟩ := partsPasts hp
  obtain ⟨O, hO⟩ := partsOrds hq
  exact X4.2 _ _ ⟨L, O, hL, hO, hs, hk, rfl⟩
end Go.Proofs.R1
namespace Go.Proofs.Ytbjonljojnjceaa
open Go Go.Am Go.ChangeShapes Go.WideShapes Go.ChangeAt Go.RowKit Go.Proofs.R1

theorem judges_types : ∀ t ∈ Try.f4.params.toList, goodT Try.prog 6 t = true ∧ Try.prog.readableRec t = true ∧ t < Try.prog.types.size := by
  rw [Try.params4]
  intro t ht
  rcases List.mem_cons.1 ht with rfl | ht
  · exact ⟨g47, by kernel_rfl, of_decide_eq_true (by kernel_rfl)⟩
  rcases List.mem_cons.1 ht with rfl | ht
  · exact ⟨g48, by kernel_rfl, of_decide_eq_true (by kernel_rfl)⟩
  cases ht
theorem judges_fn {H : Type} (ds : List (DataW H)) (h : ds.length = Try.f4.params.toList.length) : Rows.idealJudgesSpec.fn H (ds ++ []) = { results := [.lit (.bool true)], args := ds, vars := [] } := by
  rw [Try.params4] at h
  match ds, h with
  | [d1, d2], _ => rfl

set_option maxRecDepth 100000 in
theorem idealJudges_lifted (os : Os) (started : os.Started) (H : Type) (enc : TypeId × Value → H) :
    ReturnsInHanded {} Try.checked os 4 .any (Rows.idealJudgesSpec.pre6 enc Try.prog Try.f4 Rows.idealJudgesRow.domain false) (Rows.idealJudgesSpec.post enc Try.prog Try.f4 false true false false) := by
  refine returnsInHanded_of_change (C := Try.checked) Try.own started (by kernel_rfl) Try.func4
    (ChangeSpec.witness6 (enc := enc) (C := Try.checked) false ⟨#[], #[.slice none 0 0, .slice none 0 0], []⟩ 8 (by kernel_rfl) (by kernel_rfl) (by kernel_rfl) (by kernel_rfl)) ?_
  intro W base args ds gs before hval hW _ _
  exact law_post (tb := 4) (n := 6) Try.laidOut judges_types rfl (fun ds h => judges_fn ds h) rfl (by kernel_rfl) judges_spec hval hW

theorem idealJudges_holds : Rows.IdealJudgesSaid :=
  OpenClaim.holds_of_wide 4 Try.f4 rfl rfl rfl rfl rfl rfl rfl ⟨rfl, rfl, rfl, rfl, rfl⟩ rfl rfl rfl rfl rfl (by kernel_rfl) Try.func4 (by kernel_rfl)
    (of_decide_eq_true (by kernel_rfl)) (by unfold Func.isWrapper; first | (rw [if_pos (by decide +kernel)]; kernel_rfl) | (rw [if_neg (by decide +kernel)]; exact ⟨rfl, rfl⟩))
    (fun os started H enc _ => idealJudges_lifted os started H enc)
end Go.Proofs.Ytbjonljojnjceaa
