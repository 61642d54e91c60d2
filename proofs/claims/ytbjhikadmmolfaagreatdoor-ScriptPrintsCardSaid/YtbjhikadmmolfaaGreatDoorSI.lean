/- Proved: whatever the input, ScriptPrints returns true and its argument reads as it did (Rows.ScriptPrintsCardSaid); under no condition beside those of the row and the card: the listed package variables hold what the program's text lays, which the card ties. -/
import Derived.Test.YtbjhikadmmolfaaGreatDoorSH
import Derived.Test.YtbjhikadmmolfaaGreatDoorCards
import Derived.Test.YtbjhikadmmolfaaGreatDoorTie
import Derived.SevenTiedAt
set_option linter.unusedSectionVars false
set_option linter.unusedVariables false
set_option linter.unusedSimpArgs false
namespace Go.Proofs.Sz
open Go Go.Am Go.SP
set_option maxRecDepth 20000
def ScOk (s : Sc) : Prop := Int64 s.servers /\ Int64 s.clients /\ Int64 s.area /\ ∀ e ∈ s.evs, EvOk e
theorem cS : Tryz.prog.cellsOf 28 = 4 := by kernel_rfl
theorem pScripts {n : Nat} {Xs : List AV} (h : Parts Tryz.prog (n + 8) 22 Xs) : ∃ (x : AV) (l : List Sc), Xs = [x] /\ LeD x (scsAV l) /\ ∀ s ∈ l, ScOk s := by
 obtain ⟨m, f, rfl, _, h3⟩ := Parts.slice Tryz.underlying22 h
 obtain ⟨L, hl, hL⟩ := list_of (λ i (d : Sc) => LeD (f i) (scAV d) /\ ScOk d) m (λ i hi => by
  obtain ⟨Ys, hp, hf⟩ := h3 i hi
  obtain ⟨a, b, c, x, l, rfl, hx, h1, h2, h3, h4⟩ := pScript hp
  rw [wrapE_struct Tryz.underlying28] at hf
  exact ⟨⟨a, b, c, l⟩, by rw [hf]; exact .cons (.pl _) rfl (.cons (.pl _) rfl (.cons (.pl _) rfl (.cons (.of_leR hx) (evs_cw hx) .nil))), h1, h2, h3, h4⟩)
 refine ⟨_, L, rfl, ?_, λ d hd => ?_⟩
 ·rw [cS, scsAV, <- hl]
  refine .rows λ i hi => ?_
  have := (hL i (by omega)).1
  rw [scF, getD_of (by omega)]
  exact this
 ·obtain ⟨i, hi, rfl⟩ := List.mem_iff_getElem.1 hd
  exact (hL i hi).2
theorem prints_spec0 (l : List Sc) (hok : ∀ s ∈ l, ScOk s) : Am.Spec Tryz.prog 3 [scsAV l] λ y _ => y = .pl (.bool true) := by
 refine mkSo (vPrints l (λ i => i <= (l.take 6).length) _) (tb (ac XWakes (ac XFew (ac XPrint (ac XCheck (ac XRight (ac XTextR (ac XSameScR az)))))))) Tryz.func3 (by kernel_rfl) ?_
 simp only [true_and, and_true, and_self, implies_true, forall_const, gEq_true, gEq_false, nonneg_iff, natle_iff, decide_eq_true_eq, decide_eq_false_iff_not, Int.toNat_natCast, cond_bt, cond_bf, Bool.cond_true, Bool.cond_false, Bool.not_true, Bool.not_false, reduceCtorEq, false_implies, implies_true, Bool.true_eq_false, Bool.false_eq_true, Bool.not_eq_true', Bool.not_eq_false', bs_size, bs_data, bs_toList, bs_extract, bs_append, bs_mk, byteF, true_imp_iff]
 have hlen : (if (6 : Int) < (l.length : Int) then (6 : Int) else (l.length : Int)).toNat - Int.toNat 0 = (l.take 6).length := by
  rw [List.length_take]
  split <;> omega
 have hcut : 0 <= (0 : Int) /\ 0 <= (if (6 : Int) < (l.length : Int) then (6 : Int) else (l.length : Int)) /\ (if (6 : Int) < (l.length : Int) then (6 : Int) else (l.length : Int)) <= (l.length : Int) := by
  split <;> omega
 have hget : ∀ i, i < (l.take 6).length -> l.getD i sc0 = (l.take 6).getD i sc0 := λ i hi => by
  rw [List.getD_eq_getElem?_getD, List.getD_eq_getElem?_getD, List.getElem?_take, if_pos (by rw [List.length_take] at hi; omega)]
 rw [hlen]
 refine ⟨hcut, ⟨0, ⟨⟨rfl, λ i hi => ?_⟩, rfl, rfl⟩, Nat.zero_le _⟩, λ x hx hlt => ?_⟩
 ·rw [show Int.toNat 0 + i = i from Nat.zero_add i, hget i hi]
 ·have hlt' : x < (l.take 6).length := by omega
  have hmem : (l.take 6).getD x sc0 ∈ l := List.mem_of_mem_take (getD_mem hlt')
  obtain ⟨g1, g2, g3, g4⟩ := hok _ hmem
  have gE : ∀ e ∈ (fewS (l.take 6) x).evs, EvOk e := few_ok g4
  have hs := isEvs_self (fewS (l.take 6) x).evs
  refine ⟨⟨by omega, by omega⟩, ⟨((l.take 6).getD x sc0).evs, isEvs_self _, ((l.take 6).getD x sc0).evs, isEvs_self _, (), ⟨rfl, rfl, rfl, rfl, λ _ _ => rfl⟩, rfl, rfl, rfl, rfl, λ _ _ => rfl⟩, ?_⟩
  replace g1 : Int64 (fewS (l.take 6) x).servers := g1
  replace g2 : Int64 (fewS (l.take 6) x).clients := g2
  replace g3 : Int64 (fewS (l.take 6) x).area := g3
  generalize fewS (l.take 6) x = s at *
  obtain ⟨a, b, c, evs⟩ := s
  dsimp only at g1 g2 g3 gE hs ⊢
  have hsame : (a == a && b == b && c == c && sameEvs evs evs) = true := by simp [sameEvs_self]
  have fin : ∃ m n : List Ev, (IsEvs (.rows 80 evs.length (evF evs)) m /\ IsEvs (.rows 80 evs.length (evF evs)) n) /\ ((a == a && b == b && c == c && sameEvs m n) = false -> bl false = .pl (.bool true)) /\ ((a == a && b == b && c == c && sameEvs m n) = true -> ∃ y : Nat, IntKind.i64.wrap ((x : Int) + 1) = (y : Int) /\ y <= (l.take 6).length /\ ((l.take 6).length - y).succ <= (l.take 6).length - x) :=
   ⟨evs, evs, ⟨hs, hs⟩, λ q => by (rw [hsame] at q; cases q), λ _ => ⟨x + 1, by (rw [List.length_take] at hlt'; rw [wrap64 (by omega) (by omega)]; omega), hlt', by omega⟩⟩
  refine ⟨evs, ⟨hs, g1, g2, g3, gE⟩, evs, hs, evs, ⟨hs, gE⟩, λ hc => ?_, λ hc => ?_⟩
  ·have hc0 : checkE evs = 0 := eq_of_beq hc
   have hall : evs.length <= 300 /\ ∀ v ∈ evs, wrongE v = false := by
    unfold checkE at hc0
    cases hd : decide (300 < evs.length) || evs.any wrongE with
    | true => rw [hd] at hc0; cases hc0
    | false =>
     rw [Bool.or_eq_false_iff] at hd
     refine ⟨by simpa using hd.1, λ v hv => ?_⟩
     have := hd.2
     rw [List.any_eq_false] at this
     simpa using this v hv
   refine ⟨evs, ⟨hs, g1, g2, g3, hall.1, λ e he => ⟨gE e he, hall.2 e he⟩⟩, λ hL => ?_, λ hL => ?_⟩
   ·have hp : printR ⟨a, b, c, evs⟩ = ([], 3) := by
     rw [printR, hc, decide_eq_true (show 262144 < (printL ⟨a, b, c, evs⟩).length by omega)]
     rfl
    rw [hp, hc0]
    exact ⟨λ q => by simp at q, λ _ => ⟨λ q => by simp at q, λ _ => ⟨λ _ => fin, λ q => by simp at q⟩⟩⟩
   ·have hp : printR ⟨a, b, c, evs⟩ = (printL ⟨a, b, c, evs⟩, 0) := by
     rw [printR, hc, decide_eq_false (show ¬ 262144 < (printL ⟨a, b, c, evs⟩).length by omega)]
     rfl
    rw [hp, hc0]
    exact ⟨λ q => by simp at q, λ _ => ⟨λ q => by simp at q, λ _ => ⟨λ _ => fin, λ q => by simp at q⟩⟩⟩
  ·have h2 : checkE evs = 2 := by
    unfold checkE at hc ⊢
    cases hd : decide (300 < evs.length) || evs.any wrongE with
    | true => rfl
    | false => rw [hd] at hc; cases hc
   have hp : printR ⟨a, b, c, evs⟩ = ([], 2) := by
    rw [printR, hc, h2]
    rfl
   rw [hp, h2]
   exact ⟨λ _ => ⟨evs, hs, λ _ => fin, λ q => by rw [h2] at q; simp at q⟩, λ q => by simp at q⟩
theorem prints_spec (xs : List AV) (h : ArgsOf Tryz.prog 9 Tryz.f3.params.toList xs) : Am.Spec Tryz.prog 3 xs λ y _ => y = .pl (.bool true) := by
 rw [Tryz.params3] at h
 obtain ⟨Ys, xs, rfl, hp, h⟩ := args_cons h
 obtain rfl := args_nil h
 obtain ⟨x, l, rfl, hx, hl⟩ := pScripts hp
 rw [wrapV_slice Tryz.underlying22]
 exact Spec.argsD (args' := [scsAV l]) ⟨hx, trivial⟩ (prints_spec0 l hl)
end Go.Proofs.Sz

namespace Go.Proofs.Sz
open Go Go.Am Go.SP
set_option maxRecDepth 100000
end Go.Proofs.Sz
namespace Go.Proofs.YtbjhikadmmolfaaGreatDoor
open Go Go.Am Go.ChangeShapes Go.WideShapes Go.ChangeAt Go.RowKit Go.Proofs.Sz
set_option maxRecDepth 100000
theorem prints_types : ∀ t ∈ Tryz.f3.params.toList, goodT Tryz.prog 9 t = true /\ Tryz.prog.readableRec t = true /\ t < Tryz.prog.types.size := by
 rw [Tryz.params3]
 intro t ht
 rcases List.mem_cons.1 ht with rfl | ht
 ·exact ⟨by kernel_rfl, by kernel_rfl, of_decide_eq_true (by kernel_rfl)⟩
 cases ht
theorem prints_fn {H : Type} (ds : List (DataW H)) (h : ds.length = Tryz.f3.params.toList.length) : Rows.scriptPrintsSpec.fn H (ds ++ []) = { results := [.lit (.bool true)], args := ds, vars := [] } := by
 rw [Tryz.params3] at h
 match ds, h with
 | [d1], _ => rfl
theorem prints_lifted (os : Os) (started : os.Started) (H : Type) (enc : TypeId × Value -> H) :
  ReturnsInHanded {} Tryz.checked os 3 .any (λ w args => (Rows.scriptPrintsSpec.pre enc Tryz.prog Tryz.f3 Rows.scriptPrintsRow.domain false w args /\ laidMet Tryz.prog laidL w) /\ sizedMet enc Tryz.prog Tryz.f3 (OpenSpec.ofChange Rows.scriptPrintsSpec) false w args)
   (Rows.scriptPrintsSpec.post enc Tryz.prog Tryz.f3 false true false false) := by
 refine returnsInHanded_of_change_and (C := Tryz.checked) (X := λ w _ => laidMet Tryz.prog laidL w) (λ _ _ _ hh h => h.of_heap hh) own started (by kernel_rfl) Tryz.func3
  (ChangeSpec.witness_at (enc := enc) (C := Tryz.checked) (os := os) (X := λ w _ => laidMet Tryz.prog laidL w) false (laidWorld os) #[.slice none 0 0] 9 rfl (by kernel_rfl) (by kernel_rfl) (by kernel_rfl) (by kernel_rfl) (by kernel_rfl) (laidWorld_met os _)) ?_
 intro W base args ds gs before hval hW _ _ hL _
 exact law_post (tb := 4) (n := 9) laidOut prints_types rfl (λ ds h => prints_fn ds h) rfl (by kernel_rfl) prints_spec hval hW (glo_of_laid hL)
theorem prints_said : Rows.ScriptPrintsSaid :=
 OpenClaim.holds_of_wide 3 Tryz.f3 rfl rfl rfl rfl rfl rfl rfl ⟨rfl, rfl, rfl, rfl, rfl⟩ rfl rfl rfl rfl rfl (by kernel_rfl) Tryz.func3 (by kernel_rfl)
  (of_decide_eq_true (by kernel_rfl)) (by unfold Func.isWrapper; first | (rw [if_pos (by decide +kernel)]; kernel_rfl) | (rw [if_neg (by decide +kernel)]; exact ⟨rfl, rfl⟩))
  (λ os started H enc _ => prints_lifted os started H enc)
theorem scriptPrints_holds : Rows.ScriptPrintsCardSaid :=
 Claim7.holds_tied_plain_at .later [] [.data, .data, .data, .sentinel, .sentinel] true (true, "2d04775125214b8113d4c6c0e9782569a6f98b726a884e79399530077250a89c") true
  prints_said (λ _ h => by cases h) (by kernel_rfl) (λ _ h => by cases h) scriptPrints_row_tie rfl ⟨rfl, rfl⟩ (by kernel_rfl) rfl
  (λ f fn hf hfn => by
   obtain rfl : f = 3 := Option.some.inj ((show Tryz.prog.funcNamed "confluence/confluencelaw26.ScriptPrints" = some 3 by kernel_rfl).symm.trans hf) |>.symm
   obtain rfl : fn = Tryz.f3 := (Option.some.inj (Tryz.func3.symm.trans hfn)).symm
   exact ⟨by kernel_rfl, λ j t ht => by
    rw [Tryz.params3] at ht
    have h3 : t = 22 := by
     rcases j with _ | j
     ·simpa using ht.symm
     ·simp at ht
    subst h3
    exact (show Tryz.prog.wantsStandIn 22 = false by kernel_rfl)⟩)
  (by kernel_rfl)
end Go.Proofs.YtbjhikadmmolfaaGreatDoor
