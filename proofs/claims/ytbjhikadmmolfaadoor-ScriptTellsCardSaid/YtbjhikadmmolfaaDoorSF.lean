/- Proved: whatever the input, ScriptTells returns true and each argument reads as it did (Rows.ScriptTellsCardSaid); under no condition beside those of the row and the card: the listed package variables hold what the program's text lays, which the card ties. -/
import Derived.Test.YtbjhikadmmolfaaDoorMG
import Derived.Test.YtbjhikadmmolfaaDoorRows
import Derived.Stop.LaidErr
import Derived.LaidLaws
import Derived.Test.YtbjhikadmmolfaaDoorCards
import Derived.Test.YtbjhikadmmolfaaDoorTie
import Derived.SevenTiedAt
set_option linter.unusedSectionVars false
set_option linter.unusedVariables false
set_option linter.unusedSimpArgs false
namespace Go.Proofs.Sd
open Go Go.Am Go.SP
theorem XJoin : EntOk Tryd.prog 11 (.lend TJoin) := by
 refine ⟨Am.enters_of Tryd.func11 (by kernel_rfl) (by kernel_rfl), fun args R h => ?_⟩
 unfold TJoin at h
 split at h
 ·rename_i x p
  obtain ⟨ls, ⟨hx, h0, h1, h2⟩, h⟩ := h
  refine spec_of_calls fun E0 vs hG hF hl hr => ?_
  match vs, hl with
  | [v, u], _ =>
   obtain rfl := repV_pl (hr 1 u _ rfl rfl)
   unfold IsTexts at hx
   split at hx
   ·rename_i k n f _
    obtain ⟨rfl, rfl, hf⟩ := hx
    obtain ⟨A, cap, ws, a, hc, hm, ha, hl, hcell, hrep, rfl⟩ := Rep.rows_inv (show Rep E0 [v] (.rows 1 ls.length f) from hr 0 v _ rfl rfl)
    obtain ⟨rfl, hFa⟩ := ha h0
    have hws : ∀ i, i < ls.length -> ws i = [.string (bs (ls.getD i []))] := fun i hi => by
     have := hrep i hi
     rw [hf i hi] at this
     exact this.pl_inv'
    have hcells : ∀ j, j < ls.length -> E0.w.cell? (a.add (j * 1 + 0)) = some (.string (bs (ls.getD j []))) := fun j hj => hcell j hj 0 _ (by rw [hws j hj]; rfl)
    have hsp : a.spot = none := by
     have := hcells 0 h0
     simp only [Nat.zero_mul, Nat.add_zero, Addr.add, if_true] at this
     unfold World.cell? at this
     split at this
     ·split at this
      ·cases this
      ·rename_i hn; simpa using hn
     ·cases this
    obtain ⟨bk, o, sp⟩ := a
    dsimp only at hsp
    subst hsp
    have e1 : (ls.map bs).map (·.data.toList) = ls := by rw [List.map_map]; exact (List.map_congr_left fun a _ => bs_data a).trans (List.map_id _)
    have hcl : ∀ (j : Nat) x, (ls.map bs)[j]? = some x -> E0.w.cell? ⟨bk, o + j, none⟩ = some (.string x) := fun j x hj => by
     rw [List.getElem?_map, Option.map_eq_some_iff] at hj
     obtain ⟨y, hy, rfl⟩ := hj
     have hlt := (List.getElem?_eq_some_iff.1 hy).1
     have := hcells j hlt
     rw [List.getD_eq_getElem?_getD, hy, Option.getD_some] at this
     rw [<- this]
     congr 1
     simp only [Addr.add, Nat.mul_one, Nat.add_zero]
     split
     ·rename_i hz; rw [hz]; rfl
     ·rfl
    have key := Tryd.strings_Join bk o cap (ls.map bs) p E0.w hcl (hF _ hFa) (by simp; omega) (by simpa using hc) (by rw [e1]; omega)
    rw [e1, List.length_map] at key
    refine key.mono ?_
    rintro e w' ⟨rfl, hb⟩
    exact ⟨_, _, rfl, h, hb, fun E => Rep.pl _ rfl⟩
   ·exact hx.elim
 ·exact h.elim
instance (e : Ev) : Decidable (EvOk e) := by unfold EvOk Int64; infer_instance
def wls : List Bs := [[119, 111, 114, 108, 100, 32, 49, 32, 49, 32, 51, 48, 48], [99, 111, 109, 109, 105, 116, 32, 54, 32, 55, 32, 34, 109, 34, 32, 34, 34, 32, 34, 97, 34, 32, 34, 49, 92, 110, 34, 32, 34, 98, 34, 32, 45], [99, 104, 97, 110, 103, 101, 32, 49, 32, 49, 32, 50], [99, 114, 97, 115, 104, 32, 54, 32, 61, 49, 48], []]
def wtx : Bs := Lib.join wls [10]
theorem w1 : (parseR wtx).2.2 = 0 := by decide +kernel
theorem w2 : (parseR wtx).2.1 = 0 := by decide +kernel
theorem w3 : (parseR wtx).1.evs.length = 3 := by decide +kernel
theorem w4 : (printR (parseR wtx).1) = (wtx, 0) := by decide +kernel
theorem w5 : ∀ e ∈ (parseR wtx).1.evs, EvOk e := by decide +kernel
theorem w6 : Int64 (parseR wtx).1.servers /\ Int64 (parseR wtx).1.clients /\ Int64 (parseR wtx).1.area := by unfold Int64; decide +kernel
theorem w7 : (evAt (parseR wtx).1.evs 0).edit = [([97], true, [49, 10]), ([98], false, [])] := by decide +kernel
theorem w8 : (evAt (parseR wtx).1.evs 2).keep = [true, false] := by decide +kernel
theorem w9 : (parseR (wtx ++ [115, 111, 10])).2 = (wtx.length, 360) := by decide +kernel
theorem w4' : printR (Sc.mk (parseR wtx).1.servers (parseR wtx).1.clients (parseR wtx).1.area (parseR wtx).1.evs) = (wtx, 0) := w4
theorem XWakes : EntOk Tryd.prog 5 (.lend TWakes) := by
 refine ⟨Am.enters_of Tryd.func5 (by kernel_rfl) (by kernel_rfl), fun args R h => ?_⟩
 unfold TWakes at h
 split at h
 ·refine mkSo (vWakes R) (tb (ac XJoin (ac XParse (ac XPrint (ac XEqBool az))))) Tryd.func5 (by kernel_rfl) ?_
  simp only [true_and, and_true, and_self, implies_true, forall_const, gEq_true, gEq_false, nonneg_iff, natle_iff, decide_eq_true_eq, decide_eq_false_iff_not, Int.toNat_natCast, cond_bt, cond_bf, Bool.cond_true, Bool.cond_false, Bool.not_true, Bool.not_false, reduceCtorEq, false_implies, implies_true, Bool.true_eq_false, Bool.false_eq_true, Bool.not_eq_true', Bool.not_eq_false', bs_size, bs_data, bs_toList, bs_extract, bs_append, bs_mk, byteF]
  refine ⟨Nat.le_refl _, wls, ⟨⟨rfl, rfl, fun i hi => ?_⟩, by decide, by decide, by decide⟩, ?_⟩
  ·match i, hi with
   | 0, _ => rfl
   | 1, _ => rfl
   | 2, _ => rfl
   | 3, _ => rfl
   | 4, _ => rfl
  simp only [show Lib.join wls [10] = wtx from rfl, w1, w2, w3, true_and, and_true, and_self, implies_true, forall_const, gEq_true, gEq_false, nonneg_iff, natle_iff, decide_eq_true_eq, decide_eq_false_iff_not, Int.toNat_natCast, cond_bt, cond_bf, Bool.cond_true, Bool.cond_false, Bool.not_true, Bool.not_false, reduceCtorEq, false_implies, implies_true, Bool.true_eq_false, Bool.false_eq_true, Bool.not_eq_true', Bool.not_eq_false', bs_size, bs_data, bs_toList, bs_extract, bs_append, bs_mk, byteF]
  refine ⟨fun h => absurd h (by decide), fun _ => ⟨by decide, by decide, by decide, by decide, (parseR wtx).1.evs, ⟨⟨rfl, w3.symm, (isEvs_self _).2.2⟩, w6.1, w6.2.1, w6.2.2, w5⟩, by decide, ?_⟩⟩
  simp only [w4', show (evAt (parseR wtx).1.evs (Int.toNat 0)).edit = _ from w7, show (evAt (parseR wtx).1.evs (Int.toNat 2)).keep = _ from w8, w9]
  refine ⟨fun _ => by decide, fun _ => by decide, fun _ => by decide, fun _ => ⟨by decide, [true, false], [true, false], ⟨⟨rfl, rfl, fun i hi => ?_⟩, ⟨rfl, rfl, fun i hi => ?_⟩⟩, ?_⟩, fun h => absurd h (by decide)⟩
  ·match i, hi with
   | 0, _ => rfl
   | 1, _ => rfl
  ·match i, hi with
   | 0, _ => rfl
   | 1, _ => rfl
  ·have e1 : (bl ([true, false] == [true, false] && (360 : Int) == 360 && (wtx.length : Int) == (wtx.length : Int))) = bl true := by
    rw [beq_self_eq_true (wtx.length : Int)]; rfl
   rw [e1]
   exact h
 ·exact h.elim
theorem enc_dig (x : Nat) : Utf8.encode (IntKind.i32.wrap (IntKind.u64.wrap (48 + (x : Int).tmod (Int.ofNat (9 + 1))))) = bs [UInt8.ofNat (48 + x % 10)] := by
 have e : (x : Int).tmod (Int.ofNat (9 + 1)) = ((x % 10 : Nat) : Int) := rfl
 rw [e]
 have h : x % 10 < 10 := Nat.mod_lt _ (by omega)
 match x % 10, h with
 | 0, _ => rfl
 | 1, _ => rfl
 | 2, _ => rfl
 | 3, _ => rfl
 | 4, _ => rfl
 | 5, _ => rfl
 | 6, _ => rfl
 | 7, _ => rfl
 | 8, _ => rfl
 | 9, _ => rfl
theorem u64_of {x : Int} (h0 : 0 <= x) (h1 : x < 18446744073709551616) : IntKind.u64.wrap x = x := by
 show x % 18446744073709551616 = x
 exact Int.emod_eq_of_lt h0 h1
theorem quo_dig {x : Nat} (h : x < 18446744073709551616) : IntKind.u64.wrap ((x : Int).tdiv (Int.ofNat (9 + 1))) = ((x / 10 : Nat) : Int) := by
 have e : (x : Int).tdiv (Int.ofNat (9 + 1)) = ((x / 10 : Nat) : Int) := rfl
 rw [e]
 exact u64_of (by omega) (by omega)
def NumInv (n : Int) (x : Nat × Bs) : Prop := x.1 < 18446744073709551616 /\ Lib.decDigits x.1 ++ x.2 = Lib.decDigits n.natAbs
theorem XNum : EntOk Tryd.prog 22 (.lend TNum) := by
 refine ⟨Am.enters_of Tryd.func22 (by kernel_rfl) (by kernel_rfl), fun args R h => ?_⟩
 unfold TNum at h
 split at h
 ·obtain ⟨h0, h⟩ := h
  rename_i n
  have hlen : (Lib.itoa n).length <= 21 := itoa_len n h0
  have hN : (Lib.decDigits n.natAbs).length <= 21 := by
   unfold Lib.itoa at hlen
   split at hlen
   ·rw [List.length_cons] at hlen; omega
   ·rw [show n.natAbs = n.toNat by omega]; exact hlen
  have hn := h0
  unfold Int64 at hn
  have inv0 : NumInv n (n.natAbs, []) := ⟨by dsimp only; omega, List.append_nil _⟩
  refine mkSo (vNum n (NumInv n) R) (tb az) Tryd.func22 (by kernel_rfl) ?_
  simp only [true_and, and_true, and_self, implies_true, forall_const, gEq_true, gEq_false, nonneg_iff, natle_iff, decide_eq_true_eq, decide_eq_false_iff_not, Int.toNat_natCast, cond_bt, cond_bf, Bool.cond_true, Bool.cond_false, Bool.not_true, Bool.not_false, reduceCtorEq, false_implies, implies_true, Bool.true_eq_false, Bool.false_eq_true, Bool.not_eq_true', Bool.not_eq_false', bs_size, bs_data, bs_toList, bs_extract, bs_append, bs_mk, byteF, enc_dig]
  have hb : ∀ x, NumInv n x -> List.length x.2 <= 21 := fun x hx => by
   have := congrArg List.length hx.2
   rw [List.length_append] at this
   omega
  have hfin : ∀ x, NumInv n x -> x.1 / 10 = 0 -> [UInt8.ofNat (48 + x.1 % 10)] ++ x.2 = Lib.decDigits n.natAbs := fun x hx hz => by
   have h10 : x.1 < 10 := by omega
   rw [<- hx.2, Lib.decDigits_one h10, Nat.mod_eq_of_lt h10]
  have hstep : ∀ x, NumInv n x -> ¬ x.1 / 10 = 0 -> NumInv n (x.1 / 10, [UInt8.ofNat (48 + x.1 % 10)] ++ x.2) := fun x hx hz => by
   refine ⟨by have := hx.1; dsimp only; omega, ?_⟩
   rw [<- hx.2]
   conv => rhs; rw [Lib.decDigits, dif_neg (by omega)]
   rw [List.append_assoc]
  refine ⟨fun hs => ⟨⟨(n.natAbs, []), ⟨?_, rfl⟩, inv0⟩, fun x hx => ?_⟩, fun hs => ⟨⟨(n.natAbs, []), ⟨?_, rfl⟩, inv0⟩, fun x hx => ?_⟩⟩
  ·have e1 : IntKind.u64.wrap n = n + 18446744073709551616 := by
    show n % 18446744073709551616 = _
    omega
   rw [e1]
   show (0 - (n + 18446744073709551616)) % 18446744073709551616 = ((n.natAbs : Nat) : Int)
   omega
  rotate_left 1
  ·rw [u64_of (by omega) (by omega)]
   show n = ((n.natAbs : Nat) : Int)
   omega
  all_goals
   rw [quo_dig hx.1]
   have hl := hb x hx
   refine ⟨by rw [List.length_singleton]; omega, fun hz => ?_, fun hz => ⟨(x.1 / 10, [UInt8.ofNat (48 + x.1 % 10)] ++ x.2), ⟨rfl, rfl⟩, ?_⟩⟩
   ·have hz : x.1 / 10 = 0 := by have := eq_of_beq hz; omega
    rw [hfin x hx hz]
    refine ⟨fun hs => ⟨by rw [List.length_singleton]; omega, ?_⟩, fun hs => ?_⟩
    ·have : Lib.itoa n = [45] ++ Lib.decDigits n.natAbs := by unfold Lib.itoa; rw [if_pos hs]; rfl
     rw [this] at h; exact h
    ·have : Lib.itoa n = Lib.decDigits n.natAbs := by unfold Lib.itoa; rw [if_neg hs, show n.toNat = n.natAbs by omega]
     rw [this] at h; exact h
   ·have hz : ¬ x.1 / 10 = 0 := fun hc => by rw [hc] at hz; cases hz
    exact ⟨hstep x hx hz, by show x.1 / 10 + 1 <= x.1; omega⟩
 ·exact h.elim
theorem sign_lo : ∀ k : Fin 16, (k.1 : Int) < 10 -> IntKind.u8.wrap (48 + (k.1 : Int)) = ((hexD k.1).toNat : Int) := by decide +kernel
theorem sign_hi : ∀ k : Fin 16, ¬ (k.1 : Int) < 10 -> IntKind.u8.wrap (IntKind.u8.wrap (97 + (k.1 : Int)) - 10) = ((hexD k.1).toNat : Int) := by decide +kernel
theorem XSign : EntOk Tryd.prog 35 (.lend TSign) := by
 refine ⟨Am.enters_of Tryd.func35 (by kernel_rfl) (by kernel_rfl), fun args R h => ?_⟩
 unfold TSign at h
 split at h
 ·obtain ⟨⟨h0, h1⟩, h⟩ := h
  rename_i c
  refine mkSo (vSign c R) (tb az) Tryd.func35 (by kernel_rfl) ?_
  simp only [true_and, and_true, and_self, implies_true, forall_const, gEq_true, gEq_false, nonneg_iff, natle_iff, decide_eq_true_eq, decide_eq_false_iff_not, Int.toNat_natCast, cond_bt, cond_bf, Bool.cond_true, Bool.cond_false, Bool.not_true, Bool.not_false, reduceCtorEq, false_implies, implies_true, Bool.true_eq_false, Bool.false_eq_true, Bool.not_eq_true', Bool.not_eq_false', bs_size, bs_data, bs_toList, bs_extract, bs_append, bs_mk, byteF]
  obtain ⟨k, rfl⟩ := Int.eq_ofNat_of_zero_le h0
  have hk : k < 16 := by omega
  rw [Int.toNat_natCast] at h
  refine ⟨fun hc => ?_, fun hc => ?_⟩
  ·rw [sign_lo ⟨k, hk⟩ hc]; exact h
  ·rw [sign_hi ⟨k, hk⟩ hc]; exact h
 ·exact h.elim
theorem XIdT3 : EntOk Tryd.prog 23 (.lend TIdT) := by
 refine ⟨Am.enters_of Tryd.func23 (by kernel_rfl) (by kernel_rfl), fun args R h => ?_⟩
 unfold TIdT at h
 split at h
 ·rename_i f
  obtain ⟨hf, h⟩ := h
  refine mkSo (vIdT3 f R (fun i => i <= 32)) (tb (ac XSign az)) Tryd.func23 (by kernel_rfl) ?_
  have t2 : Int.ofNat (nat_lit 15 + 1) = 16 := rfl
  simp only [true_and, and_true, and_self, implies_true, forall_const, gEq_true, gEq_false, nonneg_iff, natle_iff, decide_eq_true_eq, decide_eq_false_iff_not, Int.toNat_natCast, cond_bt, cond_bf, Bool.cond_true, Bool.cond_false, Bool.not_true, Bool.not_false, reduceCtorEq, false_implies, implies_true, Bool.true_eq_false, Bool.false_eq_true, Bool.not_eq_true', Bool.not_eq_false', bs_size, bs_data, bs_toList, bs_extract, bs_append, bs_mk, byteF, t2]
  have hmx := maxLen_eq
  refine ⟨⟨0, ⟨rfl, rfl⟩, rfl, Nat.zero_le _⟩, fun x hx => ⟨fun hlt => ?_, fun hge => ?_⟩⟩
  ·obtain ⟨g0, g1⟩ := hf x (by omega)
   obtain ⟨q, hq⟩ := Int.eq_ofNat_of_zero_le g0
   have hx1 := hx1 ⟨q, by omega⟩
   dsimp only at hx1
   rw [hq, hx1.1, hx1.2, Int.toNat_natCast, Int.toNat_natCast]
   refine ⟨⟨by omega, by omega⟩, ⟨by omega, by omega⟩, by omega, by omega, ⟨by omega, by omega⟩, ⟨by omega, by omega⟩, by omega, by omega, ⟨by omega, by omega⟩, ⟨by omega, by omega⟩, ⟨by omega, by omega, by omega⟩, x + 1, ⟨by omega, by rw [wrap64] <;> omega⟩, ⟨by omega, fun i hi => ?_⟩, by omega, by omega⟩
   rw [idTk_succ, getD_app, idTk_len, hq, Int.toNat_natCast]
   split
   ·rfl
   ·have : i - 2 * x = 0 ∨ i - 2 * x = 1 := by omega
    rcases this with e | e <;> (rw [e]; rfl)
  ·have : x = 32 := by omega
   subst this
   exact ⟨by omega, bs (idL f), by rw [bs_size]; exact idTk_len f 32, fun i _ => by rw [Nat.zero_add, bs_data]; rfl, h⟩
 ·exact h.elim
theorem XCloneD : EntOk Tryd.prog 8 (.lend TCloneD) := by
 refine ⟨Am.enters_of Tryd.func8 (by kernel_rfl) (by kernel_rfl), fun args R h => ?_⟩
 unfold TCloneD at h
 split at h
 ·rename_i x
  obtain ⟨l, ⟨hx, hl⟩, h⟩ := h
  refine Spec.argsD (args' := [dnsAV l]) ⟨.of_leR hx, trivial⟩ ?_
  refine Spec.weak (Z := Unit) (X := fun _ => .own 0 0 l.length) (HH := fun _ => [.row 103 tyDone l.length (dnF l)]) (mkSo (vCloneD l R) (tb az) Tryd.func8 (by kernel_rfl) ?_)
  simp only [true_and, and_true, and_self, implies_true, forall_const, gEq_true, gEq_false, nonneg_iff, natle_iff, decide_eq_true_eq, decide_eq_false_iff_not, Int.toNat_natCast, cond_bt, cond_bf, Bool.cond_true, Bool.cond_false, Bool.not_true, Bool.not_false, reduceCtorEq, false_implies, implies_true, Bool.true_eq_false, Bool.false_eq_true, Bool.not_eq_true', Bool.not_eq_false', bs_size, bs_data, bs_toList, bs_extract, bs_append, bs_mk, byteF]
  have hmx := maxLen_eq
  exact fun b hb => ⟨fun hbt => by
   have h0 : l.length = 0 := by
    rcases Nat.eq_zero_or_pos l.length with h0 | h0
    ·exact h0
    ·rw [hb h0] at hbt; cases hbt
   exact ⟨(), h0, h0, h⟩, fun _ => ⟨⟨by omega, by omega⟩, (), Nat.le_refl _, h⟩⟩
 ·exact h.elim
theorem linesLen {e : Int} {l : List Dn} (he : Int64 e) (hl : l.length <= 1000000) (hd : ∀ d ∈ l, DnOk d) (i : Nat) : (linesL e (l.take i)).length <= 158000100 := by
 have hen := l22e he
 have hdl : ∀ d ∈ l, (doneL d).length <= 158 := fun d hd' => by
  obtain ⟨h1, h2, h3, h4, h5⟩ := hd d hd'
  have h6 := nums_len [d.client, d.ck, d.seq, d.err] (by intro n hn; simp at hn; rcases hn with rfl | rfl | rfl | rfl; exact h1; exact h2; exact ⟨by omega, by omega⟩; exact h4)
  have h7 := idL_len d.id
  simp only [doneL, List.length_append, List.length_cons, List.length_nil] at h6 ⊢
  omega
 have h1 := rows_len (l.take i) doneL 158 fun d hd' => hdl d (List.mem_of_mem_take hd')
 have h2 : (l.take i).length <= 1000000 := by simp; omega
 unfold linesL
 cases e == 0 <;> simp only [cond_true, cond_false, List.length_append, List.length_cons, List.length_nil] <;> omega
theorem XRLines : EntOk Tryd.prog 10 (.lend TLines) := by
 refine ⟨Am.enters_of Tryd.func10 (by kernel_rfl) (by kernel_rfl), fun args R h => ?_⟩
 unfold TLines at h
 split at h
 ·rename_i e x
  obtain ⟨l, ⟨hx, he, hl, hd⟩, h⟩ := h
  refine Spec.argsD (args' := [.agg [nm e, dnsAV l]]) ⟨.cons (.pl _) rfl (.cons (.of_leR hx) (dns_cw hx) .nil), trivial⟩ ?_
  refine mkSo (vRLines e l (fun i => i <= l.length) R) (tb (ac XNum (ac XIdT3 az))) Tryd.func10 (by kernel_rfl) ?_
  simp only [true_and, and_true, and_self, implies_true, forall_const, gEq_true, gEq_false, nonneg_iff, natle_iff, decide_eq_true_eq, decide_eq_false_iff_not, Int.toNat_natCast, cond_bt, cond_bf, Bool.cond_true, Bool.cond_false, Bool.not_true, Bool.not_false, reduceCtorEq, false_implies, implies_true, Bool.true_eq_false, Bool.false_eq_true, Bool.not_eq_true', Bool.not_eq_false', bs_size, bs_data, bs_toList, bs_extract, bs_append, bs_mk, byteF]
  have hmx := maxLen_eq
  have hll : ∀ i, (linesL e (l.take i)).length <= 158000100 := fun i => linesLen he hl hd i
  have hen := itoa_len e he
  refine ⟨⟨fun q => ⟨he, by simp only [List.length_cons, List.length_nil]; omega, by simp only [List.length_append, List.length_cons, List.length_nil]; omega, (), ?_⟩, fun q => ⟨(), ?_⟩⟩, ⟨0, ⟨rfl, rfl⟩, Nat.zero_le _⟩, fun x hx => ⟨fun hlt => ?_, fun hge => ?_⟩⟩
  ·have e0 : (e == 0) = false := by simpa using q
   rw [linesL, e0]
   simp [nums, numL]
  ·have e0 : (e == 0) = true := by simpa using q
   rw [linesL, e0]
   rfl
  ·have hlt' : x < l.length := by omega
   have hmem : dnAt l x ∈ l := by
    rw [dnAt, List.getD_eq_getElem?_getD, List.getElem?_eq_getElem hlt']
    exact List.getElem_mem _
   obtain ⟨h1, h2, h3, h4, h5⟩ := hd _ hmem
   have hsw : IntKind.i64.wrap (dnAt l x).seq = (dnAt l x).seq := wrap64 (by omega) (by omega)
   have hs64 : Int64 (dnAt l x).seq := ⟨by omega, by omega⟩
   have k1 := itoa_len _ h1
   have k2 := itoa_len _ h2
   have k3 := itoa_len _ hs64
   have k4 := itoa_len _ h4
   have k5 := idL_len (dnAt l x).id
   have k6 := hll x
   rw [hsw]
   have step : linesL e (l.take (x + 1)) = linesL e (l.take x) ++ ([100, 111, 110, 101, 32] ++ Lib.itoa (dnAt l x).client ++ [32] ++ Lib.itoa (dnAt l x).ck ++ [32] ++ Lib.itoa (dnAt l x).seq ++ [32] ++ Lib.itoa (dnAt l x).err ++ [32] ++ idL (dnAt l x).id ++ [10]) := by
    simp only [linesL]
    rw [flat_take l dn0 doneL x hlt']
    simp [doneL, dnAt, nums, numL]
   rw [<- step]
   simp only [List.length_append, List.length_cons, List.length_nil]
   exact ⟨⟨by omega, by omega⟩, h1, by omega, by omega, by omega, by omega, h2, by omega, by omega, by omega, by omega, hs64, by omega, by omega, by omega, by omega, h4, by omega, by omega, by omega, by omega, fun i hi => by have := h5 i hi; omega, by omega, by omega, by omega, x + 1, ⟨rfl, by rw [wrap64] <;> omega⟩, by omega, by omega⟩
  ·rw [show x = l.length by omega, List.take_length]
   exact h
 ·exact h.elim
theorem dns_rows {n : Nat} {f : Nat -> AV} {m : List Dn} (hn : n = m.length) (hf : ∀ i, i < n -> f i = (dnAt m i).av) : IsDns (.rows 103 n f) m :=
 ⟨rfl, hn, fun i hi => by rw [hf i (by omega)]; exact (⟨rfl, rfl, rfl, rfl, rfl, ⟨rfl, rfl, fun _ _ => rfl⟩, ⟨rfl, rfl, fun _ _ => rfl⟩, ⟨rfl, rfl, fun _ _ => rfl⟩, rfl, ⟨rfl, rfl, fun _ _ => rfl⟩, trivial⟩ : leA [] (dnAt m i).av (dnAt m i).av)⟩
theorem XTells : EntOk Tryd.prog 4 (.lend TTells) := by
 refine ⟨Am.enters_of Tryd.func4 (by kernel_rfl) (by kernel_rfl), fun args R h => ?_⟩
 unfold TTells at h
 split at h
 ·rename_i e x
  obtain ⟨l, ⟨hx, he, hd⟩, h⟩ := h
  refine Spec.argsD (args' := [.agg [nm e, dnsAV l]]) ⟨.cons (.pl _) rfl (.cons (.of_leR hx) (dns_cw hx) .nil), trivial⟩ ?_
  refine mkSo (vTells e l R) (tb (ac XWakes (ac XCloneD (ac XLines (ac XRLines az))))) Tryd.func4 (by kernel_rfl) ?_
  simp only [true_and, and_true, and_self, implies_true, forall_const, gEq_true, gEq_false, nonneg_iff, natle_iff, decide_eq_true_eq, decide_eq_false_iff_not, Int.toNat_natCast, cond_bt, cond_bf, Bool.cond_true, Bool.cond_false, Bool.not_true, Bool.not_false, reduceCtorEq, false_implies, implies_true, Bool.true_eq_false, Bool.false_eq_true, Bool.not_eq_true', Bool.not_eq_false', bs_size, bs_data, bs_toList, bs_extract, bs_append, bs_mk, byteF]
  have h0 : Int.toNat (0 : Int) = 0 := rfl
  obtain ⟨n, hn, hnl, hn9⟩ : ∃ n : Nat, (if (9 : Int) < (l.length : Int) then (9 : Int) else (l.length : Int)) = (n : Int) /\ n <= l.length /\ n <= 9 := by
   split
   ·exact ⟨9, rfl, by omega, Nat.le_refl _⟩
   ·exact ⟨l.length, rfl, Nat.le_refl _, by omega⟩
  have hd' : ∀ d ∈ l.take n, DnOk d := fun d hm => hd d (List.mem_of_mem_take hm)
  have hlen : (l.take n).length = n := by rw [List.length_take]; omega
  have hself : ∀ m : List Dn, IsDns (AV.rows 103 m.length fun i => (dnAt m (0 + i)).av) m := fun m => dns_rows rfl fun i _ => by rw [Nat.zero_add]
  rw [hn, h0, Int.toNat_natCast, Nat.sub_zero]
  refine ⟨⟨by omega, by omega, by omega⟩, l.take n, ⟨dns_rows hlen.symm fun i hi => ?_, by omega⟩, by omega, l.take n, ⟨hself _, he, by omega, hd'⟩, by omega, l.take n, ⟨hself _, he, by omega, hd'⟩, ?_⟩
  ·rw [Nat.zero_add, show dnAt (l.take n) i = dnAt l i by rw [dnAt, dnAt, List.getD_eq_getElem?_getD, List.getD_eq_getElem?_getD, List.getElem?_take_of_lt hi]]
   rfl
  ·rw [beq_self_eq_true]
   exact h
 ·exact h.elim
end Go.Proofs.Sd

namespace Go.Proofs.Sd
open Go Go.Am Go.SP
theorem star : "*" ++ "errors.errorString" = "*errors.errorString" := by decide
theorem rowES (u : TypeId) (h : Tryd.prog.typeName? 3 u = some "*errors.errorString") : u = 165 :=
 typeName_ptr_named (nm := "errors.errorString") (by rw [star]; kernel_rfl) (by kernel_rfl) (by decide) u (by rw [star]; exact h)
def laidL : List (String × DataW Unit) := [("math/bits.deBruijn32tab", Go.Proofs.YtbjhikadmmolfaaDoor.Rows.laid_math_bits_deBruijn32tab), ("math/bits.deBruijn64tab", Go.Proofs.YtbjhikadmmolfaaDoor.Rows.laid_math_bits_deBruijn64tab), ("internal/strconv.uint64pow10", Go.Proofs.YtbjhikadmmolfaaDoor.Rows.laid_internal_strconv_uint64pow10), ("strconv.ErrRange", Go.Proofs.YtbjhikadmmolfaaDoor.Rows.laid_strconv_ErrRange), ("strconv.ErrSyntax", Go.Proofs.YtbjhikadmmolfaaDoor.Rows.laid_strconv_ErrSyntax)]
def pow10s : List Int := (List.range 20).map fun i => (10 : Int) ^ i
theorem pow_data : (Go.Proofs.YtbjhikadmmolfaaDoor.Rows.laid_internal_strconv_uint64pow10 : DataW Unit) = Lib.tabData .u64 pow10s := by kernel_rfl
theorem cell_lt {W : World} {g i : Nat} {v : Value} (h : W.cell? ⟨g, i, none⟩ = some v) : g < W.heap.size := by
 unfold World.cell? at h
 split at h
 ·rename_i hh
  exact (Array.getElem?_eq_some_iff.1 hh).1
 ·cases h
theorem glo_err {W : World} {g : Nat} {n : String} (hg : Tryd.prog.globalNamed n = some g) {a : Addr} (hv : W.var? Tryd.prog n = some #[.iface 165 (.pointer (some a))]) :
  (startE W).F g /\ ∃ us : List Value, Rep (startE W).imm us (.ifc 165 .any) /\ ∀ i, (startE W).w.cell? ⟨g, i, none⟩ = us[i]? := by
 have hc := World.var?_cell hg hv
 refine ⟨cell_lt (i := 0) (v := .iface 165 (.pointer (some a))) (by rw [hc 0]; rfl), [.iface 165 (.pointer (some a))], Rep.ifc rfl (.any _ rfl), fun i => ?_⟩
 show W.cell? _ = _
 rw [hc i]
 simp
theorem glo_of_laid {W : World} (h : laidMet Tryd.prog laidL W) : GloE (startE W) := by
 have h3 := h.tail.tail
 have h4 := h3.tail
 have h5 := h4.tail
 intro g x hx
 match g, hx with
 | 1, hx =>
  injection hx with hx
  subst hx
  rw [pow_data] at h3
  have ht := Lib.tabIs_of_head (k := .u64) (zs := pow10s) (g := 1) (by kernel_rfl) (by kernel_rfl) Tryd.underlying156 Tryd.underlying101 (by kernel_rfl) (by kernel_rfl) h3
  unfold Lib.TabIs at ht
  have hc := World.var?_cell (g := 1) (by kernel_rfl) ht
  refine ⟨cell_lt (i := 0) (v := .int .u64 1) (by rw [hc 0]; rfl), pow10s.map fun z => Value.int .u64 z, ?_, fun i => ?_⟩
  ·refine rep_one (by rfl) (.iarr (by rfl) fun i hi => ?_)
   rw [List.getElem?_map]
   simp [pow10s, hi, pow10]
  ·show W.cell? _ = _
   rw [hc i]
   simp
 | 2, hx =>
  injection hx with hx
  subst hx
  obtain ⟨a, _, hv, _⟩ := laid_sentinel h5 (g := 2) (by kernel_rfl) (ti := 80) (by kernel_rfl) Tryd.underlying80 rowES Tryd.underlying165 Tryd.underlying167 rfl rfl Tryd.underlying9 (by kernel_rfl) (by kernel_rfl)
  exact glo_err (by kernel_rfl) hv
 | 3, hx =>
  injection hx with hx
  subst hx
  obtain ⟨a, _, hv, _⟩ := laid_sentinel h4 (g := 3) (by kernel_rfl) (ti := 80) (by kernel_rfl) Tryd.underlying80 rowES Tryd.underlying165 Tryd.underlying167 rfl rfl Tryd.underlying9 (by kernel_rfl) (by kernel_rfl)
  exact glo_err (by kernel_rfl) hv
 | 0, hx => cases hx
 | _ + 4, hx => cases hx
end Go.Proofs.Sd

namespace Go.Proofs.Sd
open Go Go.Am Go.SP
set_option maxRecDepth 100000
def valsOf : DataW Unit -> Array Value
 | .agg ps => (ps.map fun d => match d with | .lit (.int k z) => Value.int k z | _ => Value.int .u8 0).toArray
 | _ => #[]
abbrev synS : ByteArray := { data := #[105, 110, 118, 97, 108, 105, 100, 32, 115, 121, 110, 116, 97, 120] }
abbrev rngS : ByteArray := { data := #[118, 97, 108, 117, 101, 32, 111, 117, 116, 32, 111, 102, 32, 114, 97, 110, 103, 101] }
noncomputable def low : Nat := (World.holding Tryd.prog default ⟨#[], #[], []⟩).heap.size
def putC (cs : Array Value) : Obj -> Obj
 | .cells _ t frozen => .cells cs t frozen
 | o => o
noncomputable def laidWorld (os : Os) : World :=
 let w0 := World.holding Tryd.prog os ⟨#[.cells #[.string rngS] 167, .cells #[.string synS] 167], #[], []⟩
 { w0 with heap := ((((w0.heap.modify 1 (putC (valsOf Go.Proofs.YtbjhikadmmolfaaDoor.Rows.laid_internal_strconv_uint64pow10))).modify 2 (putC #[.iface 165 (.pointer (some ⟨low + 1, 0, none⟩))])).modify 3 (putC #[.iface 165 (.pointer (some ⟨low, 0, none⟩))])).modify 4 (putC (valsOf Go.Proofs.YtbjhikadmmolfaaDoor.Rows.laid_math_bits_deBruijn32tab))).modify 5 (putC (valsOf Go.Proofs.YtbjhikadmmolfaaDoor.Rows.laid_math_bits_deBruijn64tab)) }
theorem laidWorld_met (os : Os) (args : Array Value) : laidMet Tryd.prog laidL ((laidWorld os).forCall (fun _ _ => 0) ⟨#[], args, []⟩).memory :=
 laidMet_of_run' 8 (by kernel_rfl) (by kernel_rfl)
theorem own : ownKnob Tryd.prog.godebug = none := by kernel_rfl
theorem laidOut : laidOutB Tryd.prog = true := by kernel_rfl
theorem wf64 {z : Int} (h : (Lit.int .i64 z).wf = true) : Int64 z := by
 have e1 : IntKind.i64.min = -9223372036854775808 := rfl
 have e2 : IntKind.i64.max = 9223372036854775807 := rfl
 simp [Lit.wf, e1, e2] at h
 exact h
theorem wfu8 {z : Int} (h : (Lit.int .u8 z).wf = true) : 0 <= z /\ z < 256 := by
 have e1 : IntKind.u8.min = 0 := rfl
 have e2 : IntKind.u8.max = 255 := rfl
 simp [Lit.wf, e1, e2] at h
 omega
theorem wfu32 {z : Int} (h : (Lit.int .u32 z).wf = true) : 0 <= z /\ z < 4294967296 := by
 have e1 : IntKind.u32.min = 0 := rfl
 have e2 : IntKind.u32.max = 4294967295 := rfl
 simp [Lit.wf, e1, e2] at h
 omega
theorem pInt {n : Nat} {Xs : List AV} (h : Parts Tryd.prog (n + 1) 3 Xs) : ∃ z, Xs = [nm z] /\ Int64 z := by
 obtain ⟨z, rfl, hw⟩ := Parts.int Tryd.underlying3 h
 exact ⟨z, rfl, wf64 hw⟩
theorem pU32 {n : Nat} {Xs : List AV} (h : Parts Tryd.prog (n + 1) 37 Xs) : ∃ z, Xs = [.pl (.int .u32 z)] /\ 0 <= z /\ z < 4294967296 := by
 obtain ⟨z, rfl, hw⟩ := Parts.int Tryd.underlying37 h
 exact ⟨z, rfl, wfu32 hw⟩
theorem pStr {n : Nat} {Xs : List AV} (h : Parts Tryd.prog (n + 1) 9 Xs) : ∃ l : Bs, Xs = [sl l] /\ l.length <= maxLen := by
 obtain ⟨s, rfl, hs⟩ := Parts.string Tryd.underlying9 h
 exact ⟨s.data.toList, congrArg (fun v => [AV.pl (.string v)]) (bs_of s), by simpa using hs⟩
theorem pId {n : Nat} {Xs : List AV} (h : Parts Tryd.prog (n + 1) 39 Xs) : ∃ f, Xs = [.iarr .u8 32 f] /\ ∀ i, i < 32 -> 0 <= f i /\ f i < 256 := by
 obtain ⟨f, rfl, hf⟩ := Parts.array Tryd.underlying39 Tryd.underlying5 h
 exact ⟨f, rfl, fun i hi => wfu8 (hf i hi)⟩
theorem c5 : Tryd.prog.cellsOf 5 = 1 := by kernel_rfl
theorem pData {n : Nat} {Xs : List AV} (h : Parts Tryd.prog (n + 2) 40 Xs) : ∃ (l : Bs) (f : Nat -> AV), Xs = [.rows 1 l.length f] /\ ∀ i, i < l.length -> f i = byteF (bs l) i := by
 obtain ⟨m, f, rfl, _, h1⟩ := Parts.slice Tryd.underlying40 h
 obtain ⟨L, hl, hL⟩ := list_of (fun i (c : UInt8) => f i = u8 c) m (fun i hi => by
  obtain ⟨Ys, hp, hf⟩ := h1 i hi
  obtain ⟨z, rfl, hw⟩ := Parts.int Tryd.underlying5 hp
  rw [wrapE_int Tryd.underlying5] at hf
  have hz := wfu8 hw
  refine ⟨UInt8.ofNat z.toNat, ?_⟩
  rw [hf]
  have : ((UInt8.ofNat z.toNat).toNat : Int) = z := by
   rw [UInt8.toNat_ofNat']
   omega
  show AV.pl (.int .u8 z) = AV.pl (.int .u8 _)
  rw [this])
 refine ⟨L, f, by rw [c5, hl], fun i hi => ?_⟩
 rw [hL i hi, byteF, bs_data, List.getD_eq_getElem?_getD, List.getElem?_eq_getElem hi]
 rfl
theorem pErr {n : Nat} {Xs : List AV} (h : Parts Tryd.prog (n + 1) 28 Xs) : ∃ z, Xs = [nm z] /\ Int64 z := by
 obtain ⟨z, rfl, hw⟩ := Parts.int Tryd.underlying28 h
 exact ⟨z, rfl, wf64 hw⟩
theorem pDone {n : Nat} {Xs : List AV} (h : Parts Tryd.prog (n + 4) 46 Xs) : ∃ d : Dn, leA [] (.agg Xs) d.av /\ DnOk d := by
 obtain ⟨_, _, rfl, h1, _, _, rfl, h2, _, _, rfl, h3, rfl⟩ := Parts.struct Tryd.underlying46 h
 obtain ⟨_, _, rfl, a1, _, _, rfl, a2, _, _, rfl, a3, _, _, rfl, a4, _, _, rfl, a5, _, _, rfl, a6, _, _, rfl, a7, rfl⟩ := Parts.struct Tryd.underlying42 h2
 obtain ⟨_, _, rfl, b1, _, _, rfl, b2, rfl⟩ := Parts.struct Tryd.underlying44 h3
 obtain ⟨cl, rfl, w1⟩ := pInt h1
 obtain ⟨ck, rfl, w2⟩ := pInt a1
 obtain ⟨cc, rfl, _⟩ := pInt a2
 obtain ⟨sq, rfl, w3⟩ := pU32 a3
 obtain ⟨br, rfl, _⟩ := pStr a4
 obtain ⟨o, rfl, _⟩ := pId a5
 obtain ⟨w, rfl, _⟩ := pId a6
 obtain ⟨dt, f, rfl, hf⟩ := pData a7
 obtain ⟨er, rfl, w4⟩ := pErr b1
 obtain ⟨id, rfl, w5⟩ := pId b2
 exact ⟨⟨cl, ck, cc, sq, br, o, w, dt, er, id⟩, ⟨rfl, rfl, rfl, rfl, rfl, ⟨rfl, rfl, fun _ _ => rfl⟩, ⟨rfl, rfl, fun _ _ => rfl⟩, ⟨rfl, rfl, hf⟩, rfl, ⟨rfl, rfl, fun _ _ => rfl⟩, trivial⟩, w1, w2, w3, w4, w5⟩
theorem c46 : Tryd.prog.cellsOf 46 = 103 := by kernel_rfl
theorem pTold {Xs : List AV} (h : Parts Tryd.prog 8 35 Xs) : ∃ (e : Int) (x : AV) (l : List Dn), Xs = [nm e, x] /\ IsDns x l /\ Int64 e /\ ∀ d ∈ l, DnOk d := by
 obtain ⟨_, _, rfl, h1, _, _, rfl, h2, rfl⟩ := Parts.struct Tryd.underlying35 h
 obtain ⟨e, rfl, he⟩ := pErr h1
 obtain ⟨m, f, rfl, _, h3⟩ := Parts.slice Tryd.underlying33 h2
 obtain ⟨L, hl, hL⟩ := list_of (fun i (d : Dn) => leA [] (f i) d.av /\ DnOk d) m (fun i hi => by
  obtain ⟨Ys, hp, hf⟩ := h3 i hi
  obtain ⟨d, hd, ok⟩ := pDone hp
  rw [wrapE_struct Tryd.underlying46] at hf
  exact ⟨d, by rw [hf]; exact hd, ok⟩)
 refine ⟨e, _, L, rfl, ?_, he, fun d hd => ?_⟩
 ·rw [c46]
  refine ⟨rfl, hl.symm, fun i hi => ?_⟩
  have := (hL i hi).1
  show leA [] (f i) (dnAt L i).av
  rw [dnAt, List.getD_eq_getElem?_getD, List.getElem?_eq_getElem hi]
  exact this
 ·obtain ⟨i, hi, rfl⟩ := List.mem_iff_getElem.1 hd
  exact (hL i hi).2
end Go.Proofs.Sd

namespace Go.Proofs.Sd
open Go Go.Am Go.SP
set_option maxRecDepth 100000
theorem tells_spec (xs : List AV) (h : ArgsOf Tryd.prog 8 Tryd.f4.params.toList xs) : Am.Spec Tryd.prog 4 xs fun y _ => y = .pl (.bool true) := by
 rw [Tryd.params4] at h
 obtain ⟨Ys, xs, rfl, hp, h⟩ := args_cons h
 obtain rfl := args_nil h
 obtain ⟨e, x, l, rfl, hl, he, hd⟩ := pTold hp
 rw [wrapV_struct Tryd.underlying35]
 exact XTells.2 _ _ ⟨l, ⟨hl, he, hd⟩, rfl⟩
end Go.Proofs.Sd
namespace Go.Proofs.YtbjhikadmmolfaaDoor
open Go Go.Am Go.ChangeShapes Go.WideShapes Go.ChangeAt Go.RowKit Go.Proofs.Sd
set_option maxRecDepth 100000
theorem tells_types : ∀ t ∈ Tryd.f4.params.toList, goodT Tryd.prog 8 t = true /\ Tryd.prog.readableRec t = true /\ t < Tryd.prog.types.size := by
 rw [Tryd.params4]
 intro t ht
 rcases List.mem_cons.1 ht with rfl | ht
 ·exact ⟨by kernel_rfl, by kernel_rfl, of_decide_eq_true (by kernel_rfl)⟩
 cases ht
theorem tells_fn {H : Type} (ds : List (DataW H)) (h : ds.length = Tryd.f4.params.toList.length) : Rows.scriptTellsSpec.fn H (ds ++ []) = { results := [.lit (.bool true)], args := ds, vars := [] } := by
 rw [Tryd.params4] at h
 match ds, h with
 | [d1], _ => rfl
theorem tells_lifted (os : Os) (started : os.Started) (H : Type) (enc : TypeId × Value -> H) :
  ReturnsInHanded {} Tryd.checked os 4 .any (fun w args => (Rows.scriptTellsSpec.pre enc Tryd.prog Tryd.f4 Rows.scriptTellsRow.domain false w args /\ laidMet Tryd.prog laidL w) /\ sizedMet enc Tryd.prog Tryd.f4 (OpenSpec.ofChange Rows.scriptTellsSpec) false w args)
   (Rows.scriptTellsSpec.post enc Tryd.prog Tryd.f4 false true false false) := by
 refine returnsInHanded_of_change_and (C := Tryd.checked) (X := fun w _ => laidMet Tryd.prog laidL w) (fun _ _ _ hh h => h.of_heap hh) own started (by kernel_rfl) Tryd.func4
  (ChangeSpec.witness_at (enc := enc) (C := Tryd.checked) (os := os) (X := fun w _ => laidMet Tryd.prog laidL w) false (laidWorld os) #[.agg #[.int .i64 0, .slice none 0 0]] 8 rfl (by kernel_rfl) (by kernel_rfl) (by kernel_rfl) (by kernel_rfl) (by kernel_rfl) (laidWorld_met os _)) ?_
 intro W base args ds gs before hval hW _ _ hL _
 exact law_post (tb := 4) (n := 8) laidOut tells_types rfl (fun ds h => tells_fn ds h) rfl (by kernel_rfl) tells_spec hval hW (glo_of_laid hL)
theorem tells_said : Rows.ScriptTellsSaid :=
 OpenClaim.holds_of_wide 4 Tryd.f4 rfl rfl rfl rfl rfl rfl rfl ⟨rfl, rfl, rfl, rfl, rfl⟩ rfl rfl rfl rfl rfl (by kernel_rfl) Tryd.func4 (by kernel_rfl)
  (of_decide_eq_true (by kernel_rfl)) (by unfold Func.isWrapper; first | (rw [if_pos (by decide +kernel)]; kernel_rfl) | (rw [if_neg (by decide +kernel)]; exact ⟨rfl, rfl⟩))
  (fun os started H enc _ => tells_lifted os started H enc)
theorem scriptTells_holds : Rows.ScriptTellsCardSaid :=
 Claim7.holds_tied_plain_at .later [] [.data, .data, .data, .sentinel, .sentinel] true (true, "626e0783f60b1c4e4739fb13ff957191473e83f934879c0c35add392ae639f8f") true
  tells_said (fun _ h => by cases h) (by kernel_rfl) (fun _ h => by cases h) scriptTells_row_tie rfl ⟨rfl, rfl⟩ (by kernel_rfl) rfl
  (fun f fn hf hfn => by
   obtain rfl : f = 4 := Option.some.inj ((show Tryd.prog.funcNamed "confluence/confluencelaw26.ScriptTells" = some 4 by kernel_rfl).symm.trans hf) |>.symm
   obtain rfl : fn = Tryd.f4 := (Option.some.inj (Tryd.func4.symm.trans hfn)).symm
   exact ⟨by kernel_rfl, fun j t ht => by
    rw [Tryd.params4] at ht
    have h3 : t = 35 := by
     rcases j with _ | j
     ·simpa using ht.symm
     ·simp at ht
    subst h3
    exact (show Tryd.prog.wantsStandIn 35 = false by kernel_rfl)⟩)
  (by kernel_rfl)
end Go.Proofs.YtbjhikadmmolfaaDoor
