/- Proved: whatever the input, ScriptLines returns true and each argument reads as it did (Rows.ScriptLinesCardSaid); under no condition beside those of the row and the card: the listed package variables hold what the program's text lays, which the card ties. -/
import Derived.Test.YtbjhikadmmolfaaDoorMG
import Derived.Test.YtbjhikadmmolfaaDoorRows
import Derived.Stop.LaidErr
import Derived.LaidLaws
import Derived.Test.YtbjhikadmmolfaaDoorCards
import Derived.Test.YtbjhikadmmolfaaDoorTie
import Derived.SevenTiedAt
set_option linter.unusedSectionVars false
set_option linter.unusedVariables false
set_option linter.unusedSimpArgs false
namespace Go.Proofs.Sd
open Go Go.Am Go.SP
theorem XJoin : EntOk Tryd.prog 11 (.lend TJoin) := by
 refine ⟨Am.enters_of Tryd.func11 (by kernel_rfl) (by kernel_rfl), fun args R h => ?_⟩
 unfold TJoin at h
 split at h
 ·rename_i x p
  obtain ⟨ls, ⟨hx, h0, h1, h2⟩, h⟩ := h
  refine spec_of_calls fun E0 vs hG hF hl hr => ?_
  match vs, hl with
  | [v, u], _ =>
   obtain rfl := repV_pl (hr 1 u _ rfl rfl)
   unfold IsTexts at hx
   split at hx
   ·rename_i k n f _
    obtain ⟨rfl, rfl, hf⟩ := hx
    obtain ⟨A, cap, ws, a, hc, hm, ha, hl, hcell, hrep, rfl⟩ := Rep.rows_inv (show Rep E0 [v] (.rows 1 ls.length f) from hr 0 v _ rfl rfl)
    obtain ⟨rfl, hFa⟩ := ha h0
    have hws : ∀ i, i < ls.length -> ws i = [.string (bs (ls.getD i []))] := fun i hi => by
     have := hrep i hi
     rw [hf i hi] at this
     exact this.pl_inv'
    have hcells : ∀ j, j < ls.length -> E0.w.cell? (a.add (j * 1 + 0)) = some (.string (bs (ls.getD j []))) := fun j hj => hcell j hj 0 _ (by rw [hws j hj]; rfl)
    have hsp : a.spot = none := by
     have := hcells 0 h0
     simp only [Nat.zero_mul, Nat.add_zero, Addr.add, if_true] at this
     unfold World.cell? at this
     split at this
     ·split at this
      ·cases this
      ·rename_i hn; simpa using hn
     ·cases this
    obtain ⟨bk, o, sp⟩ := a
    dsimp only at hsp
    subst hsp
    have e1 : (ls.map bs).map (·.data.toList) = ls := by rw [List.map_map]; exact (List.map_congr_left fun a _ => bs_data a).trans (List.map_id _)
    have hcl : ∀ (j : Nat) x, (ls.map bs)[j]? = some x -> E0.w.cell? ⟨bk, o + j, none⟩ = some (.string x) := fun j x hj => by
     rw [List.getElem?_map, Option.map_eq_some_iff] at hj
     obtain ⟨y, hy, rfl⟩ := hj
     have hlt := (List.getElem?_eq_some_iff.1 hy).1
     have := hcells j hlt
     rw [List.getD_eq_getElem?_getD, hy, Option.getD_some] at this
     rw [<- this]
     congr 1
     simp only [Addr.add, Nat.mul_one, Nat.add_zero]
     split
     ·rename_i hz; rw [hz]; rfl
     ·rfl
    have key := Tryd.strings_Join bk o cap (ls.map bs) p E0.w hcl (hF _ hFa) (by simp; omega) (by simpa using hc) (by rw [e1]; omega)
    rw [e1, List.length_map] at key
    refine key.mono ?_
    rintro e w' ⟨rfl, hb⟩
    exact ⟨_, _, rfl, h, hb, fun E => Rep.pl _ rfl⟩
   ·exact hx.elim
 ·exact h.elim
instance (e : Ev) : Decidable (EvOk e) := by unfold EvOk Int64; infer_instance
def wls : List Bs := [[119, 111, 114, 108, 100, 32, 49, 32, 49, 32, 51, 48, 48], [99, 111, 109, 109, 105, 116, 32, 54, 32, 55, 32, 34, 109, 34, 32, 34, 34, 32, 34, 97, 34, 32, 34, 49, 92, 110, 34, 32, 34, 98, 34, 32, 45], [99, 104, 97, 110, 103, 101, 32, 49, 32, 49, 32, 50], [99, 114, 97, 115, 104, 32, 54, 32, 61, 49, 48], []]
def wtx : Bs := Lib.join wls [10]
theorem w1 : (parseR wtx).2.2 = 0 := by decide +kernel
theorem w2 : (parseR wtx).2.1 = 0 := by decide +kernel
theorem w3 : (parseR wtx).1.evs.length = 3 := by decide +kernel
theorem w4 : (printR (parseR wtx).1) = (wtx, 0) := by decide +kernel
theorem w5 : ∀ e ∈ (parseR wtx).1.evs, EvOk e := by decide +kernel
theorem w6 : Int64 (parseR wtx).1.servers /\ Int64 (parseR wtx).1.clients /\ Int64 (parseR wtx).1.area := by unfold Int64; decide +kernel
theorem w7 : (evAt (parseR wtx).1.evs 0).edit = [([97], true, [49, 10]), ([98], false, [])] := by decide +kernel
theorem w8 : (evAt (parseR wtx).1.evs 2).keep = [true, false] := by decide +kernel
theorem w9 : (parseR (wtx ++ [115, 111, 10])).2 = (wtx.length, 360) := by decide +kernel
theorem w4' : printR (Sc.mk (parseR wtx).1.servers (parseR wtx).1.clients (parseR wtx).1.area (parseR wtx).1.evs) = (wtx, 0) := w4
theorem XWakes : EntOk Tryd.prog 5 (.lend TWakes) := by
 refine ⟨Am.enters_of Tryd.func5 (by kernel_rfl) (by kernel_rfl), fun args R h => ?_⟩
 unfold TWakes at h
 split at h
 ·refine mkSo (vWakes R) (tb (ac XJoin (ac XParse (ac XPrint (ac XEqBool az))))) Tryd.func5 (by kernel_rfl) ?_
  simp only [true_and, and_true, and_self, implies_true, forall_const, gEq_true, gEq_false, nonneg_iff, natle_iff, decide_eq_true_eq, decide_eq_false_iff_not, Int.toNat_natCast, cond_bt, cond_bf, Bool.cond_true, Bool.cond_false, Bool.not_true, Bool.not_false, reduceCtorEq, false_implies, implies_true, Bool.true_eq_false, Bool.false_eq_true, Bool.not_eq_true', Bool.not_eq_false', bs_size, bs_data, bs_toList, bs_extract, bs_append, bs_mk, byteF]
  refine ⟨Nat.le_refl _, wls, ⟨⟨rfl, rfl, fun i hi => ?_⟩, by decide, by decide, by decide⟩, ?_⟩
  ·match i, hi with
   | 0, _ => rfl
   | 1, _ => rfl
   | 2, _ => rfl
   | 3, _ => rfl
   | 4, _ => rfl
  simp only [show Lib.join wls [10] = wtx from rfl, w1, w2, w3, true_and, and_true, and_self, implies_true, forall_const, gEq_true, gEq_false, nonneg_iff, natle_iff, decide_eq_true_eq, decide_eq_false_iff_not, Int.toNat_natCast, cond_bt, cond_bf, Bool.cond_true, Bool.cond_false, Bool.not_true, Bool.not_false, reduceCtorEq, false_implies, implies_true, Bool.true_eq_false, Bool.false_eq_true, Bool.not_eq_true', Bool.not_eq_false', bs_size, bs_data, bs_toList, bs_extract, bs_append, bs_mk, byteF]
  refine ⟨fun h => absurd h (by decide), fun _ => ⟨by decide, by decide, by decide, by decide, (parseR wtx).1.evs, ⟨⟨rfl, w3.symm, (isEvs_self _).2.2⟩, w6.1, w6.2.1, w6.2.2, w5⟩, by decide, ?_⟩⟩
  simp only [w4', show (evAt (parseR wtx).1.evs (Int.toNat 0)).edit = _ from w7, show (evAt (parseR wtx).1.evs (Int.toNat 2)).keep = _ from w8, w9]
  refine ⟨fun _ => by decide, fun _ => by decide, fun _ => by decide, fun _ => ⟨by decide, [true, false], [true, false], ⟨⟨rfl, rfl, fun i hi => ?_⟩, ⟨rfl, rfl, fun i hi => ?_⟩⟩, ?_⟩, fun h => absurd h (by decide)⟩
  ·match i, hi with
   | 0, _ => rfl
   | 1, _ => rfl
  ·match i, hi with
   | 0, _ => rfl
   | 1, _ => rfl
  ·have e1 : (bl ([true, false] == [true, false] && (360 : Int) == 360 && (wtx.length : Int) == (wtx.length : Int))) = bl true := by
    rw [beq_self_eq_true (wtx.length : Int)]; rfl
   rw [e1]
   exact h
 ·exact h.elim
theorem XIdxS : EntOk Tryd.prog 7 (.lend TIdxS) := by
 refine ⟨Am.enters_of Tryd.func7 (by kernel_rfl) (by kernel_rfl), fun args R h => ?_⟩
 unfold TIdxS at h
 split at h
 ·obtain ⟨⟨h0, h1⟩, h⟩ := h
  rename_i s c
  obtain ⟨l, rfl⟩ : ∃ l, s = bs l := ⟨_, bs_of s⟩
  rw [bs_data] at h
  refine mkSo (vIdxS l c R) (tb (ac XIdxB az)) Tryd.func7 (by kernel_rfl) ?_
  simp only [true_and, and_true, and_self, implies_true, forall_const, gEq_true, gEq_false, nonneg_iff, natle_iff, decide_eq_true_eq, decide_eq_false_iff_not, Int.toNat_natCast, cond_bt, cond_bf, Bool.cond_true, Bool.cond_false, Bool.not_true, Bool.not_false, reduceCtorEq, false_implies, implies_true, Bool.true_eq_false, Bool.false_eq_true, Bool.not_eq_true', Bool.not_eq_false', bs_size, bs_data, bs_toList, bs_extract, bs_append, bs_mk, byteF]
  exact ⟨⟨h0, by omega⟩, h⟩
 ·exact h.elim
theorem XLinesLaw : EntOk Tryd.prog 3 (.lend TLinesLaw) := by
 refine ⟨Am.enters_of Tryd.func3 (by kernel_rfl) (by kernel_rfl), fun args R h => ?_⟩
 unfold TLinesLaw at h
 split at h
 ·rename_i s m
  obtain ⟨l, rfl⟩ : ∃ l, s = bs l := ⟨_, bs_of s⟩
  obtain ⟨k, rfl⟩ : ∃ k, m = bs k := ⟨_, bs_of m⟩
  refine mkSo (vLinesLaw l k R) (tb (ac XWakes (ac XParse (ac XIdxS az)))) Tryd.func3 (by kernel_rfl) ?_
  obtain ⟨n, hn, hnl, hn9⟩ : ∃ n : Nat, (if (20000 : Int) < (List.length l : Int) then (20000 : Int) else (List.length l : Int)) = (n : Int) /\ n <= l.length /\ n <= 20000 := by
   split
   ·exact ⟨20000, rfl, by omega, Nat.le_refl _⟩
   ·exact ⟨l.length, rfl, Nat.le_refl _, by omega⟩
  obtain ⟨n2, hn2, hml, hm9⟩ : ∃ n : Nat, (if (1000 : Int) < (List.length k : Int) then (1000 : Int) else (List.length k : Int)) = (n : Int) /\ n <= k.length /\ n <= 1000 := by
   split
   ·exact ⟨1000, rfl, by omega, Nat.le_refl _⟩
   ·exact ⟨k.length, rfl, Nat.le_refl _, by omega⟩
  have h0 : Int.toNat (0 : Int) = 0 := rfl
  have e1 : (bs l).extract 0 n = bs (l.take n) := by rw [bs_extract]; rfl
  have e2 : (bs k).extract 0 n2 = bs (k.take n2) := by rw [bs_extract]; rfl
  have hs : (l.take n).length <= 20000 := by rw [List.length_take]; omega
  have hm : (k.take n2).length <= 1000 := by rw [List.length_take]; omega
  simp only [hn, hn2, h0, Int.toNat_natCast, e1, e2]
  simp only [true_and, and_true, and_self, implies_true, forall_const, gEq_true, gEq_false, nonneg_iff, natle_iff, decide_eq_true_eq, decide_eq_false_iff_not, Int.toNat_natCast, cond_bt, cond_bf, Bool.cond_true, Bool.cond_false, Bool.not_true, Bool.not_false, reduceCtorEq, false_implies, implies_true, Bool.true_eq_false, Bool.false_eq_true, Bool.not_eq_true', Bool.not_eq_false', bs_size, bs_data, bs_toList, bs_extract, bs_append, bs_mk, byteF]
  generalize l.take n = S at *
  generalize k.take n2 = M at *
  refine ⟨⟨by omega, by omega, by omega⟩, ⟨by omega, by omega, by omega⟩, ⟨by omega, by omega, by omega⟩, ⟨by omega, by omega, by omega⟩, fun _ => h, fun he => ?_⟩
  have he' : (parseR S).2.2 ≠ 0 := fun hc => by rw [hc] at he; cases he
  obtain ⟨hc, hle, h10, hlast⟩ := lines_law hs hm he'
  obtain ⟨p, hp⟩ : ∃ p, (parseR S).2.1 = p := ⟨_, rfl⟩
  rw [hp] at hle h10 hlast
  have hb : ∀ q, (parseR q).2 = (parseR S).2 -> ((parseR q).2.2 == (360 : Int) && ((parseR q).2.1 : Int) == (p : Int)) = true := fun q hq => by
   rw [hq, hc, hp, beq_self_eq_true (p : Int)]; rfl
  have u10 : UInt8.ofNat (Int.toNat 10) = 10 := by decide
  simp only [hp, hc, u10, List.take_length, List.drop_zero]
  have hX : ((360 : Int) != 360 || decide ((p : Int) < 0) || decide ((p : Int) > (S.length : Int)) || decide ((p : Int) > 0) && ((S.getD (IntKind.i64.wrap ((p : Int) - 1)).toNat 0).toNat : Int) != 10) = false := by
   rw [show decide ((p : Int) < 0) = false from decide_eq_false (by omega), show decide ((p : Int) > (S.length : Int)) = false from decide_eq_false (by omega)]
   rcases Nat.eq_zero_or_pos p with hz | hz
   ·rw [show decide ((p : Int) > 0) = false from decide_eq_false (by omega)]; rfl
   ·rw [wrap64 (by omega) (by omega), show ((p : Int) - 1).toNat = p - 1 by omega, h10 hz]
    cases decide ((p : Int) > 0) <;> rfl
  rw [hX]
  refine ⟨fun hq => ?_, fun hq => (by cases hq), fun _ => ⟨⟨by omega, by omega, by omega⟩, ⟨by omega, by omega⟩, fun _ => h, fun hi => ?_⟩⟩
  ·have hz : 0 < p := (by simpa using hq : p <= S.length /\ 0 < p).2
   rw [wrap64 (by omega) (by omega)]
   omega
  ·cases hf : (cutL 10 (S.drop p)).2.2 with
   | false => rw [idxL_none hf] at hi; exact absurd (by decide) hi
   | true =>
    have hlast := hlast hf
    have hcl := cut_len hf
    rw [List.length_drop] at hcl
    rw [idxL_found hf]
    generalize (cutL 10 (S.drop p)).1.length = q at *
    have hw : IntKind.i64.wrap (IntKind.i64.wrap ((p : Int) + (q : Int)) + 1) = ((p + q + 1 : Nat) : Int) := by
     rw [show IntKind.i64.wrap ((p : Int) + (q : Int)) = (p : Int) + (q : Int) from wrap64 (by omega) (by omega), wrap64 (by omega) (by omega)]; omega
    rw [hw, Int.toNat_natCast]
    refine ⟨⟨by omega, by omega, by omega⟩, by rw [List.length_take]; omega, ?_⟩
    rw [hb _ hlast]
    exact h
 ·exact h.elim
end Go.Proofs.Sd

namespace Go.Proofs.Sd
open Go Go.Am Go.SP
theorem star : "*" ++ "errors.errorString" = "*errors.errorString" := by decide
theorem rowES (u : TypeId) (h : Tryd.prog.typeName? 3 u = some "*errors.errorString") : u = 165 :=
 typeName_ptr_named (nm := "errors.errorString") (by rw [star]; kernel_rfl) (by kernel_rfl) (by decide) u (by rw [star]; exact h)
def laidL : List (String × DataW Unit) := [("math/bits.deBruijn32tab", Go.Proofs.YtbjhikadmmolfaaDoor.Rows.laid_math_bits_deBruijn32tab), ("math/bits.deBruijn64tab", Go.Proofs.YtbjhikadmmolfaaDoor.Rows.laid_math_bits_deBruijn64tab), ("internal/strconv.uint64pow10", Go.Proofs.YtbjhikadmmolfaaDoor.Rows.laid_internal_strconv_uint64pow10), ("strconv.ErrRange", Go.Proofs.YtbjhikadmmolfaaDoor.Rows.laid_strconv_ErrRange), ("strconv.ErrSyntax", Go.Proofs.YtbjhikadmmolfaaDoor.Rows.laid_strconv_ErrSyntax)]
def pow10s : List Int := (List.range 20).map fun i => (10 : Int) ^ i
theorem pow_data : (Go.Proofs.YtbjhikadmmolfaaDoor.Rows.laid_internal_strconv_uint64pow10 : DataW Unit) = Lib.tabData .u64 pow10s := by kernel_rfl
theorem cell_lt {W : World} {g i : Nat} {v : Value} (h : W.cell? ⟨g, i, none⟩ = some v) : g < W.heap.size := by
 unfold World.cell? at h
 split at h
 ·rename_i hh
  exact (Array.getElem?_eq_some_iff.1 hh).1
 ·cases h
theorem glo_err {W : World} {g : Nat} {n : String} (hg : Tryd.prog.globalNamed n = some g) {a : Addr} (hv : W.var? Tryd.prog n = some #[.iface 165 (.pointer (some a))]) :
  (startE W).F g /\ ∃ us : List Value, Rep (startE W).imm us (.ifc 165 .any) /\ ∀ i, (startE W).w.cell? ⟨g, i, none⟩ = us[i]? := by
 have hc := World.var?_cell hg hv
 refine ⟨cell_lt (i := 0) (v := .iface 165 (.pointer (some a))) (by rw [hc 0]; rfl), [.iface 165 (.pointer (some a))], Rep.ifc rfl (.any _ rfl), fun i => ?_⟩
 show W.cell? _ = _
 rw [hc i]
 simp
theorem glo_of_laid {W : World} (h : laidMet Tryd.prog laidL W) : GloE (startE W) := by
 have h3 := h.tail.tail
 have h4 := h3.tail
 have h5 := h4.tail
 intro g x hx
 match g, hx with
 | 1, hx =>
  injection hx with hx
  subst hx
  rw [pow_data] at h3
  have ht := Lib.tabIs_of_head (k := .u64) (zs := pow10s) (g := 1) (by kernel_rfl) (by kernel_rfl) Tryd.underlying156 Tryd.underlying101 (by kernel_rfl) (by kernel_rfl) h3
  unfold Lib.TabIs at ht
  have hc := World.var?_cell (g := 1) (by kernel_rfl) ht
  refine ⟨cell_lt (i := 0) (v := .int .u64 1) (by rw [hc 0]; rfl), pow10s.map fun z => Value.int .u64 z, ?_, fun i => ?_⟩
  ·refine rep_one (by rfl) (.iarr (by rfl) fun i hi => ?_)
   rw [List.getElem?_map]
   simp [pow10s, hi, pow10]
  ·show W.cell? _ = _
   rw [hc i]
   simp
 | 2, hx =>
  injection hx with hx
  subst hx
  obtain ⟨a, _, hv, _⟩ := laid_sentinel h5 (g := 2) (by kernel_rfl) (ti := 80) (by kernel_rfl) Tryd.underlying80 rowES Tryd.underlying165 Tryd.underlying167 rfl rfl Tryd.underlying9 (by kernel_rfl) (by kernel_rfl)
  exact glo_err (by kernel_rfl) hv
 | 3, hx =>
  injection hx with hx
  subst hx
  obtain ⟨a, _, hv, _⟩ := laid_sentinel h4 (g := 3) (by kernel_rfl) (ti := 80) (by kernel_rfl) Tryd.underlying80 rowES Tryd.underlying165 Tryd.underlying167 rfl rfl Tryd.underlying9 (by kernel_rfl) (by kernel_rfl)
  exact glo_err (by kernel_rfl) hv
 | 0, hx => cases hx
 | _ + 4, hx => cases hx
end Go.Proofs.Sd

namespace Go.Proofs.Sd
open Go Go.Am Go.SP
set_option maxRecDepth 100000
def valsOf : DataW Unit -> Array Value
 | .agg ps => (ps.map fun d => match d with | .lit (.int k z) => Value.int k z | _ => Value.int .u8 0).toArray
 | _ => #[]
abbrev synS : ByteArray := { data := #[105, 110, 118, 97, 108, 105, 100, 32, 115, 121, 110, 116, 97, 120] }
abbrev rngS : ByteArray := { data := #[118, 97, 108, 117, 101, 32, 111, 117, 116, 32, 111, 102, 32, 114, 97, 110, 103, 101] }
noncomputable def low : Nat := (World.holding Tryd.prog default ⟨#[], #[], []⟩).heap.size
def putC (cs : Array Value) : Obj -> Obj
 | .cells _ t frozen => .cells cs t frozen
 | o => o
noncomputable def laidWorld (os : Os) : World :=
 let w0 := World.holding Tryd.prog os ⟨#[.cells #[.string rngS] 167, .cells #[.string synS] 167], #[], []⟩
 { w0 with heap := ((((w0.heap.modify 1 (putC (valsOf Go.Proofs.YtbjhikadmmolfaaDoor.Rows.laid_internal_strconv_uint64pow10))).modify 2 (putC #[.iface 165 (.pointer (some ⟨low + 1, 0, none⟩))])).modify 3 (putC #[.iface 165 (.pointer (some ⟨low, 0, none⟩))])).modify 4 (putC (valsOf Go.Proofs.YtbjhikadmmolfaaDoor.Rows.laid_math_bits_deBruijn32tab))).modify 5 (putC (valsOf Go.Proofs.YtbjhikadmmolfaaDoor.Rows.laid_math_bits_deBruijn64tab)) }
theorem laidWorld_met (os : Os) (args : Array Value) : laidMet Tryd.prog laidL ((laidWorld os).forCall (fun _ _ => 0) ⟨#[], args, []⟩).memory :=
 laidMet_of_run' 8 (by kernel_rfl) (by kernel_rfl)
theorem own : ownKnob Tryd.prog.godebug = none := by kernel_rfl
theorem laidOut : laidOutB Tryd.prog = true := by kernel_rfl
theorem pStr {n : Nat} {Xs : List AV} (h : Parts Tryd.prog (n + 1) 9 Xs) : ∃ l : Bs, Xs = [sl l] /\ l.length <= maxLen := by
 obtain ⟨s, rfl, hs⟩ := Parts.string Tryd.underlying9 h
 exact ⟨s.data.toList, congrArg (fun v => [AV.pl (.string v)]) (bs_of s), by simpa using hs⟩
theorem c5 : Tryd.prog.cellsOf 5 = 1 := by kernel_rfl
theorem c46 : Tryd.prog.cellsOf 46 = 103 := by kernel_rfl
end Go.Proofs.Sd

namespace Go.Proofs.Sd
open Go Go.Am Go.SP
set_option maxRecDepth 100000
theorem linesl_spec (xs : List AV) (h : ArgsOf Tryd.prog 8 Tryd.f3.params.toList xs) : Am.Spec Tryd.prog 3 xs fun y _ => y = .pl (.bool true) := by
 rw [Tryd.params3] at h
 obtain ⟨Ys, xs, rfl, hp, h⟩ := args_cons h
 obtain ⟨Zs, xs, rfl, hq, h⟩ := args_cons h
 obtain rfl := args_nil h
 obtain ⟨s, rfl, _⟩ := pStr hp
 obtain ⟨m, rfl, _⟩ := pStr hq
 have e : ∀ l : Bs, wrapV Tryd.prog 9 [sl l] = sl l := fun l => by
  have hu : ∃ x, Tryd.prog.underlying 9 = some x /\ (match x with | .string => True | _ => False) := ⟨_, Tryd.underlying9, trivial⟩
  simp only [wrapV, Tryd.underlying9]
  rfl
 rw [e, e]
 exact XLinesLaw.2 _ _ rfl
end Go.Proofs.Sd
namespace Go.Proofs.YtbjhikadmmolfaaDoor
open Go Go.Am Go.ChangeShapes Go.WideShapes Go.ChangeAt Go.RowKit Go.Proofs.Sd
set_option maxRecDepth 100000
theorem linesl_types : ∀ t ∈ Tryd.f3.params.toList, goodT Tryd.prog 8 t = true /\ Tryd.prog.readableRec t = true /\ t < Tryd.prog.types.size := by
 rw [Tryd.params3]
 intro t ht
 rcases List.mem_cons.1 ht with rfl | ht
 ·exact ⟨by kernel_rfl, by kernel_rfl, of_decide_eq_true (by kernel_rfl)⟩
 rcases List.mem_cons.1 ht with rfl | ht
 ·exact ⟨by kernel_rfl, by kernel_rfl, of_decide_eq_true (by kernel_rfl)⟩
 cases ht
theorem linesl_fn {H : Type} (ds : List (DataW H)) (h : ds.length = Tryd.f3.params.toList.length) : Rows.scriptLinesSpec.fn H (ds ++ []) = { results := [.lit (.bool true)], args := ds, vars := [] } := by
 rw [Tryd.params3] at h
 match ds, h with
 | [d1, d2], _ => rfl
theorem linesl_lifted (os : Os) (started : os.Started) (H : Type) (enc : TypeId × Value -> H) :
  ReturnsInHanded {} Tryd.checked os 3 .any (fun w args => (Rows.scriptLinesSpec.pre enc Tryd.prog Tryd.f3 Rows.scriptLinesRow.domain false w args /\ laidMet Tryd.prog laidL w) /\ sizedMet enc Tryd.prog Tryd.f3 (OpenSpec.ofChange Rows.scriptLinesSpec) false w args)
   (Rows.scriptLinesSpec.post enc Tryd.prog Tryd.f3 false true false false) := by
 refine returnsInHanded_of_change_and (C := Tryd.checked) (X := fun w _ => laidMet Tryd.prog laidL w) (fun _ _ _ hh h => h.of_heap hh) own started (by kernel_rfl) Tryd.func3
  (ChangeSpec.witness_at (enc := enc) (C := Tryd.checked) (os := os) (X := fun w _ => laidMet Tryd.prog laidL w) false (laidWorld os) #[.string ByteArray.empty, .string ByteArray.empty] 8 rfl (by kernel_rfl) (by kernel_rfl) (by kernel_rfl) (by kernel_rfl) (by kernel_rfl) (laidWorld_met os _)) ?_
 intro W base args ds gs before hval hW _ _ hL _
 exact law_post (tb := 4) (n := 8) laidOut linesl_types rfl (fun ds h => linesl_fn ds h) rfl (by kernel_rfl) linesl_spec hval hW (glo_of_laid hL)
theorem linesl_said : Rows.ScriptLinesSaid :=
 OpenClaim.holds_of_wide 3 Tryd.f3 rfl rfl rfl rfl rfl rfl rfl ⟨rfl, rfl, rfl, rfl, rfl⟩ rfl rfl rfl rfl rfl (by kernel_rfl) Tryd.func3 (by kernel_rfl)
  (of_decide_eq_true (by kernel_rfl)) (by unfold Func.isWrapper; first | (rw [if_pos (by decide +kernel)]; kernel_rfl) | (rw [if_neg (by decide +kernel)]; exact ⟨rfl, rfl⟩))
  (fun os started H enc _ => linesl_lifted os started H enc)
theorem scriptLines_holds : Rows.ScriptLinesCardSaid :=
 Claim7.holds_tied_plain_at .later [] [.data, .data, .data, .sentinel, .sentinel] true (true, "626e0783f60b1c4e4739fb13ff957191473e83f934879c0c35add392ae639f8f") true
  linesl_said (fun _ h => by cases h) (by kernel_rfl) (fun _ h => by cases h) scriptLines_row_tie rfl ⟨rfl, rfl⟩ (by kernel_rfl) rfl
  (fun f fn hf hfn => by
   obtain rfl : f = 3 := Option.some.inj ((show Tryd.prog.funcNamed "confluence/confluencelaw26.ScriptLines" = some 3 by kernel_rfl).symm.trans hf) |>.symm
   obtain rfl : fn = Tryd.f3 := (Option.some.inj (Tryd.func3.symm.trans hfn)).symm
   exact ⟨by kernel_rfl, fun j t ht => by
    rw [Tryd.params3] at ht
    have h3 : t = 9 := by
     rcases j with _ | _ | j
     ·simpa using ht.symm
     ·simpa using ht.symm
     ·simp at ht
    subst h3
    exact (show Tryd.prog.wantsStandIn 9 = false by kernel_rfl)⟩)
  (by kernel_rfl)
end Go.Proofs.YtbjhikadmmolfaaDoor
