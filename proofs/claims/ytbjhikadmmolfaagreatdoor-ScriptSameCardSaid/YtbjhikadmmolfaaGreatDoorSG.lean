/- Proved: whatever the input, ScriptSame returns true and each argument reads as it did (Rows.ScriptSameCardSaid); under no condition beside those of the row and the card: the listed package variables hold what the program's text lays, which the card ties. -/
import Derived.Test.YtbjhikadmmolfaaGreatDoorSF
import Derived.Test.YtbjhikadmmolfaaGreatDoorRows
import Derived.Stop.LaidErr
import Derived.LaidLaws
import Derived.Test.YtbjhikadmmolfaaGreatDoorCards
import Derived.Test.YtbjhikadmmolfaaGreatDoorTie
import Derived.SevenTiedAt
set_option linter.unusedSectionVars false
set_option linter.unusedVariables false
set_option linter.unusedSimpArgs false
namespace Go.Proofs.Sz
open Go Go.Am Go.SP
theorem star : "*" ++ "errors.errorString" = "*errors.errorString" := by decide
theorem rowES (u : TypeId) (h : Tryz.prog.typeName? 3 u = some "*errors.errorString") : u = 177 :=
 typeName_ptr_named (nm := "errors.errorString") (by rw [star]; kernel_rfl) (by kernel_rfl) (by decide) u (by rw [star]; exact h)
def laidL : List (String × DataW Unit) := [("math/bits.deBruijn32tab", Go.Proofs.YtbjhikadmmolfaaGreatDoor.Rows.laid_math_bits_deBruijn32tab), ("math/bits.deBruijn64tab", Go.Proofs.YtbjhikadmmolfaaGreatDoor.Rows.laid_math_bits_deBruijn64tab), ("internal/strconv.uint64pow10", Go.Proofs.YtbjhikadmmolfaaGreatDoor.Rows.laid_internal_strconv_uint64pow10), ("strconv.ErrRange", Go.Proofs.YtbjhikadmmolfaaGreatDoor.Rows.laid_strconv_ErrRange), ("strconv.ErrSyntax", Go.Proofs.YtbjhikadmmolfaaGreatDoor.Rows.laid_strconv_ErrSyntax)]
def pow10s : List Int := (List.range 20).map λ i => (10 : Int) ^ i
theorem pow_data : (Go.Proofs.YtbjhikadmmolfaaGreatDoor.Rows.laid_internal_strconv_uint64pow10 : DataW Unit) = Lib.tabData .u64 pow10s := by kernel_rfl
theorem cell_lt {W : World} {g i : Nat} {v : Value} (h : W.cell? ⟨g, i, none⟩ = some v) : g < W.heap.size := by
 unfold World.cell? at h
 split at h
 ·rename_i hh
  exact (Array.getElem?_eq_some_iff.1 hh).1
 ·cases h
theorem glo_err {W : World} {g : Nat} {n : String} (hg : Tryz.prog.globalNamed n = some g) {a : Addr} (hv : W.var? Tryz.prog n = some #[.iface 177 (.pointer (some a))]) :
  (startE W).F g /\ ∃ us : List Value, Rep (startE W).imm us (.ifc 177 .any) /\ ∀ i, (startE W).w.cell? ⟨g, i, none⟩ = us[i]? := by
 have hc := World.var?_cell hg hv
 refine ⟨cell_lt (i := 0) (v := .iface 177 (.pointer (some a))) (by rw [hc 0]; rfl), [.iface 177 (.pointer (some a))], Rep.ifc rfl (.any _ rfl), λ i => ?_⟩
 show W.cell? _ = _
 rw [hc i]
 simp
theorem glo_of_laid {W : World} (h : laidMet Tryz.prog laidL W) : GloE (startE W) := by
 have h3 := h.tail.tail
 have h4 := h3.tail
 have h5 := h4.tail
 intro g x hx
 match g, hx with
 | 1, hx =>
  injection hx with hx
  subst hx
  rw [pow_data] at h3
  have ht := Lib.tabIs_of_head (k := .u64) (zs := pow10s) (g := 1) (by kernel_rfl) (by kernel_rfl) Tryz.underlying162 Tryz.underlying115 (by kernel_rfl) (by kernel_rfl) h3
  unfold Lib.TabIs at ht
  have hc := World.var?_cell (g := 1) (by kernel_rfl) ht
  refine ⟨cell_lt (i := 0) (v := .int .u64 1) (by rw [hc 0]; rfl), pow10s.map λ z => Value.int .u64 z, ?_, λ i => ?_⟩
  ·refine rep_one (by rfl) (.iarr (by rfl) λ i hi => ?_)
   rw [List.getElem?_map]
   simp [pow10s, hi, pow10]
  ·show W.cell? _ = _
   rw [hc i]
   simp
 | 2, hx =>
  injection hx with hx
  subst hx
  obtain ⟨a, _, hv, _⟩ := laid_sentinel h5 (g := 2) (by kernel_rfl) (ti := 73) (by kernel_rfl) Tryz.underlying73 rowES Tryz.underlying177 Tryz.underlying179 rfl rfl Tryz.underlying9 (by kernel_rfl) (by kernel_rfl)
  exact glo_err (by kernel_rfl) hv
 | 3, hx =>
  injection hx with hx
  subst hx
  obtain ⟨a, _, hv, _⟩ := laid_sentinel h4 (g := 3) (by kernel_rfl) (ti := 73) (by kernel_rfl) Tryz.underlying73 rowES Tryz.underlying177 Tryz.underlying179 rfl rfl Tryz.underlying9 (by kernel_rfl) (by kernel_rfl)
  exact glo_err (by kernel_rfl) hv
 | 0, hx => cases hx
 | _ + 4, hx => cases hx
end Go.Proofs.Sz

namespace Go.Proofs.Sz
open Go Go.Am Go.SP
set_option maxRecDepth 100000
def valsOf : DataW Unit -> Array Value
 | .agg ps => (ps.map λ d => match d with | .lit (.int k z) => Value.int k z | _ => Value.int .u8 0).toArray
 | _ => #[]
abbrev synS : ByteArray := { data := #[105, 110, 118, 97, 108, 105, 100, 32, 115, 121, 110, 116, 97, 120] }
abbrev rngS : ByteArray := { data := #[118, 97, 108, 117, 101, 32, 111, 117, 116, 32, 111, 102, 32, 114, 97, 110, 103, 101] }
noncomputable def low : Nat := (World.holding Tryz.prog default ⟨#[], #[], []⟩).heap.size
def putC (cs : Array Value) : Obj -> Obj
 | .cells _ t frozen => .cells cs t frozen
 | o => o
noncomputable def laidWorld (os : Os) : World :=
 let w0 := World.holding Tryz.prog os ⟨#[.cells #[.string rngS] 179, .cells #[.string synS] 179], #[], []⟩
 { w0 with heap := ((((w0.heap.modify 1 (putC (valsOf Go.Proofs.YtbjhikadmmolfaaGreatDoor.Rows.laid_internal_strconv_uint64pow10))).modify 2 (putC #[.iface 177 (.pointer (some ⟨low + 1, 0, none⟩))])).modify 3 (putC #[.iface 177 (.pointer (some ⟨low, 0, none⟩))])).modify 4 (putC (valsOf Go.Proofs.YtbjhikadmmolfaaGreatDoor.Rows.laid_math_bits_deBruijn32tab))).modify 5 (putC (valsOf Go.Proofs.YtbjhikadmmolfaaGreatDoor.Rows.laid_math_bits_deBruijn64tab)) }
theorem laidWorld_met (os : Os) (args : Array Value) : laidMet Tryz.prog laidL ((laidWorld os).forCall (λ _ _ => 0) ⟨#[], args, []⟩).memory :=
 laidMet_of_run' 8 (by kernel_rfl) (by kernel_rfl)
theorem own : ownKnob Tryz.prog.godebug = none := by kernel_rfl
theorem laidOut : laidOutB Tryz.prog = true := by kernel_rfl
theorem wf64 {z : Int} (h : (Lit.int .i64 z).wf = true) : Int64 z := by
 have e1 : IntKind.i64.min = -9223372036854775808 := rfl
 have e2 : IntKind.i64.max = 9223372036854775807 := rfl
 simp [Lit.wf, e1, e2] at h
 exact h
theorem wfu8 {z : Int} (h : (Lit.int .u8 z).wf = true) : 0 <= z /\ z < 256 := by
 have e1 : IntKind.u8.min = 0 := rfl
 have e2 : IntKind.u8.max = 255 := rfl
 simp [Lit.wf, e1, e2] at h
 omega
theorem wfu32 {z : Int} (h : (Lit.int .u32 z).wf = true) : 0 <= z /\ z < 4294967296 := by
 have e1 : IntKind.u32.min = 0 := rfl
 have e2 : IntKind.u32.max = 4294967295 := rfl
 simp [Lit.wf, e1, e2] at h
 omega
theorem pInt {n : Nat} {Xs : List AV} (h : Parts Tryz.prog (n + 1) 3 Xs) : ∃ z, Xs = [nm z] /\ Int64 z := by
 obtain ⟨z, rfl, hw⟩ := Parts.int Tryz.underlying3 h
 exact ⟨z, rfl, wf64 hw⟩
theorem pU32 {n : Nat} {Xs : List AV} (h : Parts Tryz.prog (n + 1) 53 Xs) : ∃ z, Xs = [.pl (.int .u32 z)] /\ 0 <= z /\ z < 4294967296 := by
 obtain ⟨z, rfl, hw⟩ := Parts.int Tryz.underlying53 h
 exact ⟨z, rfl, wfu32 hw⟩
theorem pStr {n : Nat} {Xs : List AV} (h : Parts Tryz.prog (n + 1) 9 Xs) : ∃ l : Bs, Xs = [sl l] /\ l.length <= maxLen := by
 obtain ⟨s, rfl, hs⟩ := Parts.string Tryz.underlying9 h
 exact ⟨s.data.toList, congrArg (λ v => [AV.pl (.string v)]) (bs_of s), by simpa using hs⟩
theorem pId {n : Nat} {Xs : List AV} (h : Parts Tryz.prog (n + 1) 57 Xs) : ∃ f, Xs = [.iarr .u8 32 f] /\ ∀ i, i < 32 -> 0 <= f i /\ f i < 256 := by
 obtain ⟨f, rfl, hf⟩ := Parts.array Tryz.underlying57 Tryz.underlying5 h
 exact ⟨f, rfl, λ i hi => wfu8 (hf i hi)⟩
theorem c5 : Tryz.prog.cellsOf 5 = 1 := by kernel_rfl
theorem pData {n : Nat} {Xs : List AV} (h : Parts Tryz.prog (n + 2) 58 Xs) : ∃ (l : Bs) (f : Nat -> AV), Xs = [.rows 1 l.length f] /\ ∀ i, i < l.length -> f i = byteF (bs l) i := by
 obtain ⟨m, f, rfl, _, h1⟩ := Parts.slice Tryz.underlying58 h
 obtain ⟨L, hl, hL⟩ := list_of (λ i (c : UInt8) => f i = u8 c) m (λ i hi => by
  obtain ⟨Ys, hp, hf⟩ := h1 i hi
  obtain ⟨z, rfl, hw⟩ := Parts.int Tryz.underlying5 hp
  rw [wrapE_int Tryz.underlying5] at hf
  have hz := wfu8 hw
  refine ⟨UInt8.ofNat z.toNat, ?_⟩
  rw [hf]
  have : ((UInt8.ofNat z.toNat).toNat : Int) = z := by
   rw [UInt8.toNat_ofNat']
   omega
  show AV.pl (.int .u8 z) = AV.pl (.int .u8 _)
  rw [this])
 refine ⟨L, f, by rw [c5, hl], λ i hi => ?_⟩
 rw [hL i hi, byteF, bs_data, List.getD_eq_getElem?_getD, List.getElem?_eq_getElem hi]
 rfl
end Go.Proofs.Sz

namespace Go.Proofs.Sz
open Go Go.Am Go.SP
set_option maxRecDepth 100000
theorem getD_of {α : Type} {L : List α} {i : Nat} (h : i < L.length) (d : α) : L.getD i d = L[i] := by
 rw [List.getD_eq_getElem?_getD, List.getElem?_eq_getElem h]
 rfl
theorem cB : Tryz.prog.cellsOf 4 = 1 := by kernel_rfl
theorem cI : Tryz.prog.cellsOf 3 = 1 := by kernel_rfl
theorem cR : Tryz.prog.cellsOf 96 = 2 := by kernel_rfl
theorem cC : Tryz.prog.cellsOf 64 = 3 := by kernel_rfl
theorem cE : Tryz.prog.cellsOf 62 = 80 := by kernel_rfl
theorem pBools {n : Nat} {Xs : List AV} (h : Parts Tryz.prog (n + 2) 46 Xs) : ∃ (l : List Bool) (f : Nat -> AV), Xs = [.rows 1 l.length f] /\ ∀ i, i < l.length -> f i = boolF l i := by
 obtain ⟨m, f, rfl, _, h1⟩ := Parts.slice Tryz.underlying46 h
 obtain ⟨L, hl, hL⟩ := list_of (λ i (c : Bool) => f i = bl c) m (λ i hi => by
  obtain ⟨Ys, hp, hf⟩ := h1 i hi
  obtain ⟨z, rfl⟩ := Parts.bool Tryz.underlying4 hp
  exact ⟨z, by rw [hf]; simp only [wrapE, Tryz.underlying4]; rfl⟩)
 exact ⟨L, f, by rw [cB, hl], λ i hi => by rw [hL i hi, boolF, getD_of hi]⟩
theorem pIntsS {n : Nat} {Xs : List AV} (h : Parts Tryz.prog (n + 2) 47 Xs) : ∃ (l : List Int) (f : Nat -> AV), Xs = [.rows 1 l.length f] /\ (∀ i, i < l.length -> f i = intF l i) /\ ∀ z ∈ l, Int64 z := by
 obtain ⟨m, f, rfl, _, h1⟩ := Parts.slice Tryz.underlying47 h
 obtain ⟨L, hl, hL⟩ := list_of (λ i (c : Int) => f i = nm c /\ Int64 c) m (λ i hi => by
  obtain ⟨Ys, hp, hf⟩ := h1 i hi
  obtain ⟨z, rfl, hz⟩ := pInt hp
  rw [wrapE_int Tryz.underlying3] at hf
  exact ⟨z, hf, hz⟩)
 refine ⟨L, f, by rw [cI, hl], λ i hi => by rw [(hL i hi).1, intF, getD_of hi], λ z hz => ?_⟩
 obtain ⟨i, hi, rfl⟩ := List.mem_iff_getElem.1 hz
 exact (hL i hi).2
theorem pRows {n : Nat} {Xs : List AV} (h : Parts Tryz.prog (n + 3) 50 Xs) : ∃ (l : List (Bs × Bs)) (f : Nat -> AV), Xs = [.rows 2 l.length f] /\ ∀ i, i < l.length -> f i = rowF l i := by
 obtain ⟨m, f, rfl, _, h1⟩ := Parts.slice Tryz.underlying50 h
 obtain ⟨L, hl, hL⟩ := list_of (λ i (c : Bs × Bs) => f i = .agg [sl c.1, sl c.2]) m (λ i hi => by
  obtain ⟨Ys, hp, hf⟩ := h1 i hi
  obtain ⟨_, _, rfl, a1, _, _, rfl, a2, rfl⟩ := Parts.struct Tryz.underlying96 hp
  obtain ⟨p, rfl, _⟩ := pStr a1
  obtain ⟨q, rfl, _⟩ := pStr a2
  rw [wrapE_struct Tryz.underlying96] at hf
  exact ⟨(p, q), hf⟩)
 exact ⟨L, f, by rw [cR, hl], λ i hi => by rw [hL i hi, rowF, getD_of hi]⟩
theorem pChgs {n : Nat} {Xs : List AV} (h : Parts Tryz.prog (n + 3) 43 Xs) : ∃ (l : List (Bs × Bool × Bs)) (f : Nat -> AV), Xs = [.rows 3 l.length f] /\ ∀ i, i < l.length -> f i = chgF l i := by
 obtain ⟨m, f, rfl, _, h1⟩ := Parts.slice Tryz.underlying43 h
 obtain ⟨L, hl, hL⟩ := list_of (λ i (c : Bs × Bool × Bs) => f i = .agg [sl c.1, bl c.2.1, sl c.2.2]) m (λ i hi => by
  obtain ⟨Ys, hp, hf⟩ := h1 i hi
  obtain ⟨_, _, rfl, a1, _, _, rfl, a2, _, _, rfl, a3, rfl⟩ := Parts.struct Tryz.underlying64 hp
  obtain ⟨p, rfl, _⟩ := pStr a1
  obtain ⟨b, rfl⟩ := Parts.bool Tryz.underlying4 a2
  obtain ⟨q, rfl, _⟩ := pStr a3
  rw [wrapE_struct Tryz.underlying64] at hf
  exact ⟨(p, b, q), hf⟩)
 exact ⟨L, f, by rw [cC, hl], λ i hi => by rw [hL i hi, chgF, getD_of hi]⟩
theorem pEvent {n : Nat} {Xs : List AV} (h : Parts Tryz.prog (n + 5) 62 Xs) : ∃ e : Ev, leA [] (.agg Xs) e.av /\ EvOk e := by
 obtain ⟨_, _, rfl, h1, _, _, rfl, h2, _, _, rfl, h3, _, _, rfl, h4, _, _, rfl, h5, _, _, rfl, h6, _, _, rfl, h7, _, _, rfl, h8, _, _, rfl, h9, _, _, rfl, h10, _, _, rfl, h11, rfl⟩ := Parts.struct Tryz.underlying62 h
 obtain ⟨_, _, rfl, a1, _, _, rfl, a2, _, _, rfl, a3, _, _, rfl, a4, _, _, rfl, a5, _, _, rfl, a6, _, _, rfl, a7, rfl⟩ := Parts.struct Tryz.underlying60 h11
 obtain ⟨_, _, rfl, b1, _, _, rfl, b2, rfl⟩ := Parts.struct Tryz.underlying55 h10
 obtain ⟨_, _, rfl, c1, rfl⟩ := Parts.struct Tryz.underlying49 h6
 obtain ⟨_, _, rfl, d1, rfl⟩ := Parts.struct Tryz.underlying52 h8
 obtain ⟨_, _, rfl, e1, rfl⟩ := Parts.struct Tryz.underlying45 h9
 obtain ⟨kd, rfl, w1⟩ := pInt h1
 obtain ⟨nd, rfl, w2⟩ := pInt h2
 obtain ⟨to, rfl, w3⟩ := pInt h3
 obtain ⟨nn, rfl, w4⟩ := pInt h4
 obtain ⟨kp, fk, rfl, w5⟩ := pBools h5
 obtain ⟨cf, fc, rfl, w6, w7⟩ := pIntsS c1
 obtain ⟨br, rfl, _⟩ := pStr h7
 obtain ⟨mp, fm, rfl, w8⟩ := pRows d1
 obtain ⟨ed, fe, rfl, w9⟩ := pChgs e1
 obtain ⟨au, rfl, w10⟩ := pU32 b1
 obtain ⟨no, rfl, _⟩ := pStr b2
 obtain ⟨ck, rfl, w11⟩ := pInt a1
 obtain ⟨cl, rfl, _⟩ := pInt a2
 obtain ⟨sq, rfl, _⟩ := pU32 a3
 obtain ⟨cb, rfl, _⟩ := pStr a4
 obtain ⟨o, rfl, _⟩ := pId a5
 obtain ⟨w, rfl, w12⟩ := pId a6
 obtain ⟨dt, fd, rfl, w13⟩ := pData a7
 exact ⟨⟨kd, nd, to, nn, kp, cf, br, mp, ed, au, no, ck, cl, sq, cb, o, w, dt⟩, ⟨rfl, rfl, rfl, rfl, ⟨rfl, rfl, w5⟩, ⟨rfl, rfl, w6⟩, rfl, ⟨rfl, rfl, w8⟩, ⟨rfl, rfl, w9⟩, rfl, rfl, rfl, rfl, rfl, rfl, ⟨rfl, rfl, λ _ _ => rfl⟩, ⟨rfl, rfl, λ _ _ => rfl⟩, ⟨rfl, rfl, w13⟩, trivial⟩, w1, w2, w3, w4, w7, w11, w10, w12⟩
theorem pEvents {n : Nat} {Xs : List AV} (h : Parts Tryz.prog (n + 6) 26 Xs) : ∃ (x : AV) (l : List Ev), Xs = [x] /\ IsEvs x l /\ ∀ e ∈ l, EvOk e := by
 obtain ⟨m, f, rfl, _, h3⟩ := Parts.slice Tryz.underlying26 h
 obtain ⟨L, hl, hL⟩ := list_of (λ i (d : Ev) => leA [] (f i) d.av /\ EvOk d) m (λ i hi => by
  obtain ⟨Ys, hp, hf⟩ := h3 i hi
  obtain ⟨d, hd, ok⟩ := pEvent hp
  rw [wrapE_struct Tryz.underlying62] at hf
  exact ⟨d, by rw [hf]; exact hd, ok⟩)
 refine ⟨_, L, rfl, ?_, λ d hd => ?_⟩
 ·rw [cE]
  refine ⟨rfl, hl.symm, λ i hi => ?_⟩
  have := (hL i hi).1
  show leA [] (f i) (evAt L i).av
  rw [evAt, getD_of hi]
  exact this
 ·obtain ⟨i, hi, rfl⟩ := List.mem_iff_getElem.1 hd
  exact (hL i hi).2
theorem pScript {n : Nat} {Xs : List AV} (h : Parts Tryz.prog (n + 7) 28 Xs) : ∃ (a b c : Int) (x : AV) (l : List Ev), Xs = [nm a, nm b, nm c, x] /\ IsEvs x l /\ Int64 a /\ Int64 b /\ Int64 c /\ ∀ e ∈ l, EvOk e := by
 obtain ⟨_, _, rfl, h1, _, _, rfl, h2, rfl⟩ := Parts.struct Tryz.underlying28 h
 obtain ⟨_, _, rfl, a1, _, _, rfl, a2, _, _, rfl, a3, rfl⟩ := Parts.struct Tryz.underlying25 h1
 obtain ⟨a, rfl, w1⟩ := pInt a1
 obtain ⟨b, rfl, w2⟩ := pInt a2
 obtain ⟨c, rfl, w3⟩ := pInt a3
 obtain ⟨x, l, rfl, hx, hl⟩ := pEvents h2
 exact ⟨a, b, c, x, l, rfl, hx, w1, w2, w3, hl⟩
end Go.Proofs.Sz

namespace Go.Proofs.Sz
open Go Go.Am Go.SP
set_option maxRecDepth 100000
theorem same_spec (xs : List AV) (h : ArgsOf Tryz.prog 8 Tryz.f4.params.toList xs) : Am.Spec Tryz.prog 4 xs λ y _ => y = .pl (.bool true) := by
 rw [Tryz.params4] at h
 obtain ⟨Ys, xs, rfl, hp, h⟩ := args_cons h
 obtain ⟨Zs, xs, rfl, hq, h⟩ := args_cons h
 obtain rfl := args_nil h
 obtain ⟨a, b, c, x, l, rfl, hl, _⟩ := pScript hp
 obtain ⟨d, e, f, y, m, rfl, hm, _⟩ := pScript hq
 rw [wrapV_struct Tryz.underlying28, wrapV_struct Tryz.underlying28]
 exact XSameLaw.2 _ _ ⟨l, m, ⟨hl, hm⟩, rfl⟩
end Go.Proofs.Sz
namespace Go.Proofs.YtbjhikadmmolfaaGreatDoor
open Go Go.Am Go.ChangeShapes Go.WideShapes Go.ChangeAt Go.RowKit Go.Proofs.Sz
set_option maxRecDepth 100000
theorem same_types : ∀ t ∈ Tryz.f4.params.toList, goodT Tryz.prog 8 t = true /\ Tryz.prog.readableRec t = true /\ t < Tryz.prog.types.size := by
 rw [Tryz.params4]
 intro t ht
 rcases List.mem_cons.1 ht with rfl | ht
 ·exact ⟨by kernel_rfl, by kernel_rfl, of_decide_eq_true (by kernel_rfl)⟩
 rcases List.mem_cons.1 ht with rfl | ht
 ·exact ⟨by kernel_rfl, by kernel_rfl, of_decide_eq_true (by kernel_rfl)⟩
 cases ht
theorem same_fn {H : Type} (ds : List (DataW H)) (h : ds.length = Tryz.f4.params.toList.length) : Rows.scriptSameSpec.fn H (ds ++ []) = { results := [.lit (.bool true)], args := ds, vars := [] } := by
 rw [Tryz.params4] at h
 match ds, h with
 | [d1, d2], _ => rfl
theorem same_lifted (os : Os) (started : os.Started) (H : Type) (enc : TypeId × Value -> H) :
  ReturnsInHanded {} Tryz.checked os 4 .any (λ w args => (Rows.scriptSameSpec.pre enc Tryz.prog Tryz.f4 Rows.scriptSameRow.domain false w args /\ laidMet Tryz.prog laidL w) /\ sizedMet enc Tryz.prog Tryz.f4 (OpenSpec.ofChange Rows.scriptSameSpec) false w args)
   (Rows.scriptSameSpec.post enc Tryz.prog Tryz.f4 false true false false) := by
 refine returnsInHanded_of_change_and (C := Tryz.checked) (X := λ w _ => laidMet Tryz.prog laidL w) (λ _ _ _ hh h => h.of_heap hh) own started (by kernel_rfl) Tryz.func4
  (ChangeSpec.witness_at (enc := enc) (C := Tryz.checked) (os := os) (X := λ w _ => laidMet Tryz.prog laidL w) false (laidWorld os) #[.agg #[.int .i64 0, .int .i64 0, .int .i64 0, .slice none 0 0], .agg #[.int .i64 0, .int .i64 0, .int .i64 0, .slice none 0 0]] 8 rfl (by kernel_rfl) (by kernel_rfl) (by kernel_rfl) (by kernel_rfl) (by kernel_rfl) (laidWorld_met os _)) ?_
 intro W base args ds gs before hval hW _ _ hL _
 exact law_post (tb := 4) (n := 8) laidOut same_types rfl (λ ds h => same_fn ds h) rfl (by kernel_rfl) same_spec hval hW (glo_of_laid hL)
theorem same_said : Rows.ScriptSameSaid :=
 OpenClaim.holds_of_wide 4 Tryz.f4 rfl rfl rfl rfl rfl rfl rfl ⟨rfl, rfl, rfl, rfl, rfl⟩ rfl rfl rfl rfl rfl (by kernel_rfl) Tryz.func4 (by kernel_rfl)
  (of_decide_eq_true (by kernel_rfl)) (by unfold Func.isWrapper; first | (rw [if_pos (by decide +kernel)]; kernel_rfl) | (rw [if_neg (by decide +kernel)]; exact ⟨rfl, rfl⟩))
  (λ os started H enc _ => same_lifted os started H enc)
theorem scriptSame_holds : Rows.ScriptSameCardSaid :=
 Claim7.holds_tied_plain_at .later [] [.data, .data, .data, .sentinel, .sentinel] true (true, "2d04775125214b8113d4c6c0e9782569a6f98b726a884e79399530077250a89c") true
  same_said (λ _ h => by cases h) (by kernel_rfl) (λ _ h => by cases h) scriptSame_row_tie rfl ⟨rfl, rfl⟩ (by kernel_rfl) rfl
  (λ f fn hf hfn => by
   obtain rfl : f = 4 := Option.some.inj ((show Tryz.prog.funcNamed "confluence/confluencelaw26.ScriptSame" = some 4 by kernel_rfl).symm.trans hf) |>.symm
   obtain rfl : fn = Tryz.f4 := (Option.some.inj (Tryz.func4.symm.trans hfn)).symm
   exact ⟨by kernel_rfl, λ j t ht => by
    rw [Tryz.params4] at ht
    have h3 : t = 28 := by
     rcases j with _ | _ | j
     ·simpa using ht.symm
     ·simpa using ht.symm
     ·simp at ht
    subst h3
    exact (show Tryz.prog.wantsStandIn 28 = false by kernel_rfl)⟩)
  (by kernel_rfl)
end Go.Proofs.YtbjhikadmmolfaaGreatDoor
