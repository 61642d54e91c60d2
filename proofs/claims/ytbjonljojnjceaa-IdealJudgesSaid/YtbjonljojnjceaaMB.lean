/- Objects handed over to a callee: renaming, the callee's start, the way back. Further operations: maps, a string's runes, a slice against nil, room. Operations that write within a row: append to a part of it, copy, clear; room that is known. One operation, a call among them: the condition that a symbolic step leaves, and that it suffices. Regions and code. A function, out of its body. -/
import Derived.Test.YtbjonljojnjceaaMA
import Derived.WideKeyMaps
import Derived.MapKept
import Derived.DeepKeys3
import Derived.WalkSpells
import Derived.Lib.AppendZerosOnto
import Derived.RangeFuncSeq
import Derived.OrdersIn
import Derived.RangeFuncLeaves
import Derived.RangeFuncRecord
namespace Go.Am
open Go.RowKit

mutual
/-- Names anew; what has no name is unknown. -/
def mapB (ρ : Nat → Option Nat) : AV → AV
  | .any => .any
  | .pl v => .pl v
  | .iarr k n f => .iarr k n f
  | .agg cs => .agg (mapL ρ cs)
  | .tup cs => .tup (mapL ρ cs)
  | .rows k n f => .rows k n f
  | .own l a b => match ρ l with
    | some l' => .own l' a b
    | none => .any
  | .ptr l i j d => match ρ l with
    | some l' => .ptr l' i j d
    | none => .any
  | .ipt x j d => .ipt x j d
  | .clo fn cs => .clo fn (mapL ρ cs)
  | .ifc t x => .ifc t (mapB ρ x)
  | .mp l => match ρ l with
    | some l' => .mp l'
    | none => .any
  | .emp => .emp
def mapL (ρ : Nat → Option Nat) : List AV → List AV
  | [] => []
  | c :: cs => mapB ρ c :: mapL ρ cs
end
def mapO (ρ : Nat → Option Nat) : LObj → LObj
  | .box t cs => .box t (mapL ρ cs)
  | .capo q c => match ρ q with
    | some q' => .capo q' c
    | none => .dead
  | o => o

theorem mapL_get (ρ : Nat → Option Nat) : ∀ (cs : List AV) (i : Nat), (mapL ρ cs)[i]? = (cs[i]?).map (mapB ρ) := by
  intro cs
  induction cs with
  | nil => intro i; simp [mapL]
  | cons c cs ih => intro i; cases i with
    | zero => simp [mapL]
    | succ i => simpa [mapL] using ih i
theorem mapL_length (ρ : Nat → Option Nat) (cs : List AV) : (mapL ρ cs).length = cs.length := by
  induction cs with
  | nil => simp [mapL]
  | cons c cs ih => simp [mapL, ih]
theorem cw_map (ρ : Nat → Option Nat) (c : AV) : cw (mapB ρ c) = cw c := by
  cases c <;> simp only [mapB] <;> first | rfl | (split <;> rfl)

structure ExtMap (ρ : Nat → Option Nat) (E E' : Env) : Prop where
  F : ∀ b, E.F b → E'.F b
  cell : ∀ a : Addr, E.F a.block → E'.w.cell? a = E.w.cell? a
  loc : ∀ q q' L, ρ q = some q' → E.loc q = some L → E'.loc q' = some L

theorem ExtMap.imm {ρ : Nat → Option Nat} {E E' : Env} (h : ExtMap ρ E E') : Ext E.imm E'.imm := ⟨h.F, h.cell, fun _ _ h => by simp at h⟩

theorem rep_map {ρ : Nat → Option Nat} {E : Env} {us : List Value} {x : AV} (h : Rep E us x) : ∀ {E' : Env}, ExtMap ρ E E' → Rep E' us (mapB ρ x) := by
  induction h with
  | any v h => intro E' _; exact .any v h
  | pl v h => intro E' _; exact .pl v h
  | iarr hl h => intro E' _; exact .iarr hl h
  | nil => intro E' _; exact .nil
  | cons hl _ _ ih1 ih2 =>
    intro E' e
    have h2 := ih2 e
    simp only [mapB] at h2
    simp only [mapB, mapL]
    exact .cons (by rw [cw_map]; exact hl) (ih1 e) h2
  | rows hc hm ha hl hcell h _ =>
    intro E' e
    simp only [mapB]
    refine .rows hc hm (fun h => ⟨(ha h).1, e.F _ (ha h).2⟩) hl (fun i hi j u hu => ?_) (fun i hi => (h i hi).mono e.imm)
    rw [e.cell _ (by rw [block_add]; exact (ha (by omega)).2)]
    exact hcell i hi j u hu
  | own hL hb ha =>
    intro E' e
    simp only [mapB]
    split
    · rename_i q' hq; exact .own (e.loc _ _ _ hq hL) hb ha
    · exact .any _ rfl
  | ptr hL =>
    intro E' e
    simp only [mapB]
    split
    · rename_i q' hq; exact .ptr (e.loc _ _ _ hq hL)
    · exact .any _ rfl
  | ipt hF hcell h _ =>
    intro E' e
    simp only [mapB]
    refine .ipt (e.F _ hF) (fun i u hu => ?_) (h.mono e.imm)
    rw [e.cell _ (by rw [block_add]; exact hF)]
    exact hcell i u hu
  | clo hl h ih =>
    intro E' e
    simp only [mapB]
    refine .clo (by rw [mapL_length]; exact hl) (fun i v c hv hc => ?_)
    rw [mapL_get, Option.map_eq_some_iff] at hc
    obtain ⟨c', hc', rfl⟩ := hc
    exact ih i v c' hv hc' e
  | ifc hv _ ih => intro E' e; simp only [mapB]; exact .ifc hv (ih e)
  | ifca _ ih =>
    intro E' e
    have h2 := ih e
    simp only [mapB] at h2 ⊢
    exact .ifca h2
  | mp hL =>
    intro E' e
    simp only [mapB]
    split
    · rename_i q' hq; exact .mp (e.loc _ _ _ hq hL)
    · exact .any _ rfl
  | emp A => intro E' _; exact .emp A

theorem repV1_map {ρ : Nat → Option Nat} {E E' : Env} {v : Value} {x : AV} (h : RepV1 E v x) (e : ExtMap ρ E E') : RepV1 E' v (mapB ρ x) := by
  cases x with
  | agg cs =>
    obtain ⟨us, hv, hr⟩ := h
    have := rep_map hr e
    simp only [mapB] at this ⊢
    exact ⟨us, hv, this⟩
  | any => exact trivial
  | iarr k n f => exact h.elim
  | tup vs => exact h.elim
  | own l' a b =>
    have := rep_map (show Rep E [v] (.own l' a b) from h) e
    simp only [mapB] at this ⊢
    split
    · rename_i q' hq; rw [hq] at this; exact this
    · exact trivial
  | ptr l' i j d =>
    have := rep_map (show Rep E [v] (.ptr l' i j d) from h) e
    simp only [mapB] at this ⊢
    split
    · rename_i q' hq; rw [hq] at this; exact this
    · exact trivial
  | mp l' =>
    have := rep_map (show Rep E [v] (.mp l') from h) e
    simp only [mapB] at this ⊢
    split
    · rename_i q' hq; rw [hq] at this; exact this
    · exact trivial
  | pl u => exact rep_map (show Rep E [v] (.pl u) from h) e
  | rows k n f => exact rep_map (show Rep E [v] (.rows k n f) from h) e
  | ipt y j d => exact rep_map (show Rep E [v] (.ipt y j d) from h) e
  | clo fn cs => exact rep_map (show Rep E [v] (.clo fn cs) from h) e
  | ifc t y => exact rep_map (show Rep E [v] (.ifc t y) from h) e
  | emp => exact rep_map (show Rep E [v] .emp from h) e

theorem repV_map {ρ : Nat → Option Nat} {E E' : Env} {v : Value} {x : AV} (h : RepV E v x) (e : ExtMap ρ E E') : RepV E' v (mapB ρ x) := by
  cases x with
  | tup xs =>
    obtain ⟨vs, hv, hl, hr⟩ := h
    refine ⟨vs, hv, by rw [mapL_length]; exact hl, fun i u y hu hy => ?_⟩
    rw [mapL_get, Option.map_eq_some_iff] at hy
    obtain ⟨y', hy', rfl⟩ := hy
    exact repV1_map (hr i u y' hu hy') e
  | _ =>
    rw [repV_eq _ (by intro xs hh; cases hh)] at h
    rw [repV_eq _ (by intro xs hh; simp only [mapB] at hh; first | cases hh | (split at hh <;> cases hh))]
    exact repV1_map h e

theorem SlotsOk.map {ρ : Nat → Option Nat} {E E' : Env} {tmps : Array Value} {slots : List AV} (h : SlotsOk E tmps slots) (e : ExtMap ρ E E') : SlotsOk E' tmps (mapL ρ slots) := by
  refine ⟨by rw [mapL_length]; exact h.1, fun i v x hv hx => ?_⟩
  rw [mapL_get, Option.map_eq_some_iff] at hx
  obtain ⟨y, hy, rfl⟩ := hx
  exact repV_map (h.2 i v y hv hy) e

theorem ObjOk.map {ρ : Nat → Option Nat} {q q' : Nat} {E E' : Env} {o : LObj} (h : ObjOk E q o) (e : ExtMap ρ E E') (hq : ∀ L, E.loc q = some L → E'.loc q' = some L) (hb : ∀ L, E.loc q = some L → 0 < L.cap → E'.w.heap[L.b]? = E.w.heap[L.b]?) : ObjOk E' q' (mapO ρ o) := by
  cases o with
  | dead => trivial
  | box t cs =>
    obtain ⟨L, us, hL, ht, hc, hg, hr⟩ := h
    have := rep_map hr e
    simp only [mapB] at this
    exact ⟨L, us, hq _ hL, ht, hc, by rw [hb L hL (by omega)]; exact hg, this⟩
  | row k t n f =>
    obtain ⟨L, hL, ht, hk, hn, hm, hrow⟩ := h
    refine ⟨L, hq _ hL, ht, hk, hn, hm, fun hpos => ?_⟩
    obtain ⟨arr, hg, hsz, hel⟩ := hrow hpos
    refine ⟨arr, by rw [hb L hL hpos]; exact hg, hsz, fun i hi => ?_⟩
    obtain ⟨us, h1, h2, h3⟩ := hel i hi
    exact ⟨us, h1, h2.mono e.imm, h3⟩
  | raw ob =>
    obtain ⟨L, hL, hc, hg⟩ := h
    exact ⟨L, hq _ hL, hc, by rw [hb L hL (by omega)]; exact hg⟩
  | capo q2 c =>
    obtain ⟨L, hL, hc⟩ := h
    simp only [mapO]
    split
    · rename_i q3 h3; exact ⟨L, e.loc _ _ _ h3 hL, hc⟩
    · exact trivial
  | mapo kt W has val =>
    obtain ⟨L, es, clock, hL, hc, hg, h1, h2, h3, h4⟩ := h
    exact ⟨L, es, clock, hq _ hL, hc, by rw [hb L hL (by omega)]; exact hg, h1, h2, h3, fun x hx => (h4 x hx).mono e.imm⟩

mutual
/-- Nothing that is lent or shared; names may occur. -/
def nflB : AV → Bool
  | .any => true
  | .pl _ => true
  | .iarr _ _ _ => true
  | .agg cs => nflL cs
  | .tup cs => nflL cs
  | .ifc _ x => nflB x
  | .emp => true
  | .rows _ _ _ => false
  | .own _ _ _ => true
  | .ptr _ _ _ _ => true
  | .ipt _ _ _ => false
  | .clo _ cs => nflL cs
  | .mp _ => true
def nflL : List AV → Bool
  | [] => true
  | c :: cs => nflB c && nflL cs
end
theorem nflL_get {cs : List AV} (h : nflL cs = true) {i : Nat} {c : AV} (hc : cs[i]? = some c) : nflB c = true := by
  induction cs generalizing i with
  | nil => simp at hc
  | cons d cs ih =>
    simp only [nflL, Bool.and_eq_true] at h
    cases i with
    | zero => simp at hc; subst hc; exact h.1
    | succ i => exact ih h.2 (by simpa using hc)
def nflO : LObj → Prop
  | .dead => True
  | .box _ cs => nflL cs = true
  | .row _ _ n f => ∀ i, i < n → flatB (f i) = true
  | .raw _ => True
  | .capo _ _ => True
  | .mapo _ _ has val => ∀ v, has v → flatB (val v) = true

def Env.noF (E : Env) : Env := { E with F := fun _ => False }
theorem rep_noF {E : Env} {us : List Value} {x : AV} (h : Rep E us x) : nflB x = true → Rep E.noF us x := by
  induction h with
  | any v h => intro _; exact .any v h
  | pl v h => intro _; exact .pl v h
  | iarr hl h => intro _; exact .iarr hl h
  | nil => intro _; exact .nil
  | cons hl _ _ ih1 ih2 =>
    intro hi
    simp only [nflB, nflL, Bool.and_eq_true] at hi ih2
    exact .cons hl (ih1 hi.1) (ih2 hi.2)
  | own hL hb ha => intro _; exact .own hL hb ha
  | ptr hL => intro _; exact .ptr hL
  | clo hl _ ih => intro hi; exact .clo hl (fun i v c hv hc => ih i v c hv hc (nflL_get (by simpa [nflB] using hi) hc))
  | ifc hv _ ih => intro hi; exact .ifc hv (ih (by simpa [nflB] using hi))
  | ifca _ ih => intro hi; exact .ifca (ih (by simpa [nflB] using hi))
  | mp hL => intro _; exact .mp hL
  | emp A => intro _; exact .emp A
  | _ => intro hi; simp [nflB] at hi
theorem repV1_noF {E : Env} {v : Value} {x : AV} (h : RepV1 E v x) (hf : nflB x = true) : RepV1 E.noF v x := by
  cases x <;> first
    | exact trivial
    | exact h.elim
    | (obtain ⟨us, hv, hr⟩ := h; exact ⟨us, hv, rep_noF hr hf⟩)
    | exact rep_noF (show Rep E [v] _ from h) hf
theorem repV_noF {E : Env} {v : Value} {x : AV} (h : RepV E v x) (hf : nflB x = true) : RepV E.noF v x := by
  cases x with
  | tup xs => obtain ⟨vs, hv, hl, hr⟩ := h; exact ⟨vs, hv, hl, fun i u y hu hy => repV1_noF (hr i u y hu hy) (nflL_get (by simpa [nflB] using hf) hy)⟩
  | _ => simp only [RepV] at h ⊢; exact repV1_noF h hf
theorem ObjOk.noF {E : Env} {l : Nat} {o : LObj} (h : ObjOk E l o) (hf : nflO o) : ObjOk E.noF l o := by
  cases o with
  | dead => trivial
  | box t cs =>
    obtain ⟨L, us, hL, ht, hc, hg, hr⟩ := h
    exact ⟨L, us, hL, ht, hc, hg, rep_noF hr (by have h9 : nflL cs = true := hf; simpa [nflB] using h9)⟩
  | row k t n f =>
    obtain ⟨L, hL, ht, hk, hn, hm, hrow⟩ := h
    refine ⟨L, hL, ht, hk, hn, hm, fun hpos => ?_⟩
    obtain ⟨arr, hg, hsz, hel⟩ := hrow hpos
    refine ⟨arr, hg, hsz, fun i hi => ?_⟩
    obtain ⟨us, h1, h2, h3⟩ := hel i hi
    exact ⟨us, h1, rep_flat h2 (hf i hi) _, h3⟩
  | raw ob => exact h
  | capo q c => exact h
  | mapo kt W has val =>
    obtain ⟨L, es, clock, hL, hc, hg, h1, h2, h3, h4⟩ := h
    exact ⟨L, es, clock, hL, hc, hg, h1, h2, h3, fun x hx => repV1_flat (h4 x hx) (hf _ ((h3 _).2 ⟨x, hx, rfl⟩)) _⟩

def Env.hand (E : Env) (ks : List Nat) (lent : Prop) : Env := { w := E.w, F := fun b => E.F b ∨ (lent ∧ E.lends ks b), m := ks.length, loc := fun j => match ks[j]? with
  | some q => E.loc q
  | none => none }

section
variable {E0 E : Env} {H : List LObj}

theorem hand_loc {ks : List Nat} {lent : Prop} {j : Nat} {L : Loc} (h : (E.hand ks lent).loc j = some L) : ∃ q, ks[j]? = some q ∧ E.loc q = some L := by
  simp only [Env.hand] at h
  split at h
  · rename_i q hq; exact ⟨q, hq, h⟩
  · cases h

theorem ext_hand (E : Env) (ks : List Nat) (lent : Prop) : ExtMap (posN ks) E (E.hand ks lent) := ⟨fun _ h => .inl h, fun _ _ => rfl, fun q q' L hq hL => by
  simp only [Env.hand, posN_get hq]
  exact hL⟩

def handO (ks : List Nat) (H : List LObj) : List Nat → List LObj
  | [] => []
  | q :: qs => mapO (posN ks) (H.getD q .dead) :: handO ks H qs
theorem handO_get (ks : List Nat) (H : List LObj) : ∀ (qs : List Nat) (j : Nat), (handO ks H qs)[j]? = (qs[j]?).map fun q => mapO (posN ks) (H.getD q .dead) := by
  intro qs
  induction qs with
  | nil => intro j; simp [handO]
  | cons q qs ih => intro j; cases j with
    | zero => simp [handO]
    | succ j => simpa [handO] using ih j
theorem handO_length (ks : List Nat) (H : List LObj) (qs : List Nat) : (handO ks H qs).length = qs.length := by
  induction qs with
  | nil => rfl
  | cons q qs ih => simp [handO, ih]

/-- Among the owned blocks, those that are handed over, and no others. -/
theorem hand_owns {ks : List Nat} {lent : Prop} {b : Nat} : (E.hand ks lent).owns b ↔ ∃ (l : Nat) (L : Loc) (j : Nat), E.loc l = some L ∧ 0 < L.cap ∧ L.b = b ∧ ks[j]? = some l := by
  constructor
  · rintro ⟨j, L, hL, hc, hb⟩
    obtain ⟨q, hq, hL'⟩ := hand_loc hL
    exact ⟨q, L, j, hL', hc, hb, hq⟩
  · rintro ⟨l, L, j, hL, hc, hb, hj⟩
    exact ⟨j, L, by simp only [Env.hand, hj]; exact hL, hc, hb⟩

theorem gam_hand (g : Gam E0 E H) {ks : List Nat} (hn : nodupN ks = true) (lent : Prop) : Gam (E.hand ks lent) (E.hand ks lent) (handO ks H ks) where
  objs := by
    intro j o hj
    rw [handO_get, Option.map_eq_some_iff] at hj
    obtain ⟨q, hq, rfl⟩ := hj
    rw [List.getD_eq_getElem?_getD]
    cases ho : H[q]? with
    | none => exact trivial
    | some o =>
      refine (g.objs q o ho).map (ext_hand E ks lent) (fun L hL => ?_) (fun L hL hc => rfl)
      simp only [Env.hand, hq]
      exact hL
  dom := by
    intro j L hL
    obtain ⟨q, hq, _⟩ := hand_loc hL
    rw [handO_length]
    exact (List.getElem?_eq_some_iff.1 hq).1
  own := by
    intro j L hL hc
    obtain ⟨q, hq, hL'⟩ := hand_loc hL
    have h1 := g.own q L hL' hc
    refine ⟨fun ho => ho.2 ⟨j, L, hL, hc, rfl⟩, h1.2.1, fun hF => ?_⟩
    rcases hF with h | ⟨_, l, L2, h2, h3, h4, h5⟩
    · exact h1.2.2 h
    · have := g.inj l q L2 L h2 hL' h3 hc h4
      subst this
      exact posN_none h5 hq
  inj := by
    intro j j' L L' hL hL' hc hc' hb
    obtain ⟨q, hq, h1⟩ := hand_loc hL
    obtain ⟨q', hq', h2⟩ := hand_loc hL'
    have := g.inj q q' L L' h1 h2 hc hc' hb
    subst this
    exact nodupN_inj hn hq hq'
  lt := by
    rintro b (hb | ⟨_, l, L, hL, hc, rfl, _⟩)
    · exact g.lt b hb
    · exact (g.own l L hL hc).2.1
  up := fun _ h => h
  down := fun _ h => .inl h
  below := BelowO.refl _
  stay := fun l h => .inl rfl
  hm := by rw [handO_length]; exact Nat.le_refl _

/-- The caller's names for the callee's. -/
def bkN (ks : List Nat) (n0 : Nat) (j : Nat) : Option Nat := match ks[j]? with
  | some q => some q
  | none => some (n0 + (j - ks.length))
def isDead : Option LObj → Bool
  | some .dead => true
  | some (.capo _ _) => true
  | none => true
  | _ => false
theorem loc_of_alive {E0 E : Env} {H : List LObj} (g : Gam E0 E H) {l : Nat} (h : isDead H[l]? = false) : ∃ L, E.loc l = some L := by
  cases ho : H[l]? with
  | none => rw [ho] at h; cases h
  | some o =>
    have := g.objs l o ho
    cases o with
    | dead => rw [ho] at h; cases h
    | box t cs => obtain ⟨L, us, hL, _⟩ := this; exact ⟨L, hL⟩
    | row k t n f => obtain ⟨L, hL, _⟩ := this; exact ⟨L, hL⟩
    | raw ob => obtain ⟨L, hL, _⟩ := this; exact ⟨L, hL⟩
    | capo q c => rw [ho] at h; cases h
    | mapo kt W has val => obtain ⟨L, es, clock, hL, _⟩ := this; exact ⟨L, hL⟩
/-- What the caller still knows by its own names. -/
def kpN (ks : List Nat) (H1 : List LObj) (l : Nat) : Option Nat := match posN ks l with
  | some j => match isDead H1[j]? with
    | true => none
    | false => some l
  | none => some l

def backEnv (E E' : Env) (n0 : Nat) (ks : List Nat) (lent : Prop) : Env := { w := E'.w, F := fun b => E'.F b ∧ (lent → ¬ E.lends ks b), m := E.m, loc := fun l => match posN ks l with
  | some j => E'.loc j
  | none => if l < n0 then E.loc l else E'.loc (l - n0 + ks.length) }

def backO (ks : List Nat) (n0 : Nat) (H1 : List LObj) : Nat → List LObj → List LObj
  | _, [] => (H1.drop ks.length).map (mapO (bkN ks n0))
  | i, o :: os => (match posN ks i with
    | some j => mapO (bkN ks n0) (H1.getD j .dead)
    | none => mapO (kpN ks H1) o) :: backO ks n0 H1 (i + 1) os

theorem backO_get (ks : List Nat) (n0 : Nat) (H1 : List LObj) : ∀ (os : List LObj) (i l : Nat), (backO ks n0 H1 i os)[l]? = if l < os.length then (match posN ks (i + l) with
    | some j => some (mapO (bkN ks n0) (H1.getD j .dead))
    | none => (os[l]?).map (mapO (kpN ks H1))) else (H1[l - os.length + ks.length]?).map (mapO (bkN ks n0)) := by
  intro os
  induction os with
  | nil => intro i l; simp [backO, List.getElem?_drop, Nat.add_comm]
  | cons o os ih =>
    intro i l
    cases l with
    | zero =>
      simp only [backO, List.getElem?_cons_zero, List.length_cons, Nat.zero_lt_succ, if_true, Nat.add_zero, Option.map_some]
      split <;> rfl
    | succ l =>
      simp only [backO, List.getElem?_cons_succ, List.length_cons, Nat.add_lt_add_iff_right]
      rw [ih (i + 1) l, show i + 1 + l = i + (l + 1) by omega, show l + 1 - (os.length + 1) = l - os.length by omega]
theorem backO_length (ks : List Nat) (n0 : Nat) (H1 : List LObj) : ∀ (os : List LObj) (i : Nat), (backO ks n0 H1 i os).length = os.length + (H1.length - ks.length) := by
  intro os
  induction os with
  | nil => intro i; simp [backO]
  | cons o os ih => intro i; simp only [backO, List.length_cons, ih]; omega

/-- May these names be handed over? They are of objects that live. -/
def handOk (H : List LObj) : List Nat → Bool
  | [] => true
  | q :: qs => (match H[q]? with
    | some .dead => false
    | some _ => true
    | none => false) && handOk H qs
theorem handOk_get : ∀ {ks : List Nat}, handOk H ks = true → ∀ {j q : Nat}, ks[j]? = some q → ∃ o, H[q]? = some o ∧ o ≠ .dead := by
  intro ks
  induction ks with
  | nil => intro _ j q h; simp at h
  | cons k ks ih =>
    intro h j q hj
    simp only [handOk, Bool.and_eq_true] at h
    cases j with
    | zero =>
      simp at hj
      subst hj
      have h1 := h.1
      split at h1
      · cases h1
      · rename_i o ho hne; exact ⟨o, hne, fun e => ho e⟩
      · cases h1
    | succ j => exact ih h.2 (by simpa using hj)

section
variable {ks : List Nat} {lent : Prop} {E' : Env} {H1 : List LObj}

theorem bkN_lt {n0 j q : Nat} (h : ks[j]? = some q) : bkN ks n0 j = some q := by simp [bkN, h]
theorem bkN_ge {n0 j : Nat} (h : ks.length ≤ j) : bkN ks n0 j = some (n0 + (j - ks.length)) := by
  unfold bkN
  rw [List.getElem?_eq_none h]

/-- A block that was there and is not handed over has not turned. -/
theorem hand_old (_ : Gam E0 E H) {b : Nat} (h1 : b < E.w.heap.size) (h2 : ∀ (l : Nat) (L : Loc), E.loc l = some L → 0 < L.cap → L.b = b → posN ks l = none) : (E.hand ks lent).old b :=
  ⟨h1, fun ho => by
    obtain ⟨l, L, j, hL, hc, hb, hj⟩ := hand_owns.1 ho
    exact posN_none (h2 l L hL hc hb) hj⟩

theorem backEnv_loc {n0 l : Nat} {L : Loc} (h : (backEnv E E' n0 ks lent).loc l = some L) : (∃ j, posN ks l = some j ∧ E'.loc j = some L) ∨ (posN ks l = none ∧ l < n0 ∧ E.loc l = some L) ∨ (posN ks l = none ∧ n0 ≤ l ∧ E'.loc (l - n0 + ks.length) = some L) := by
  simp only [backEnv] at h
  split at h
  · rename_i j hj; exact .inl ⟨j, hj, h⟩
  · rename_i hn
    split at h
    · rename_i hlt; exact .inr (.inl ⟨hn, hlt, h⟩)
    · rename_i hge; exact .inr (.inr ⟨hn, by omega, h⟩)

/-- Where the caller's name is for one of the callee's. -/
theorem backEnv_bk (hn : nodupN ks = true) (hok : handOk H ks = true) {j q : Nat} (h : bkN ks H.length j = some q) : (backEnv E E' H.length ks lent).loc q = E'.loc j := by
  unfold bkN at h
  split at h
  · rename_i q' hq
    injection h with h
    subst h
    simp only [backEnv, posN_of hn hq]
  · rename_i hq
    injection h with h
    subst h
    have hge : ks.length ≤ j := List.getElem?_eq_none_iff.1 hq
    have hp : posN ks (H.length + (j - ks.length)) = none := by
      cases hp : posN ks (H.length + (j - ks.length)) with
      | none => rfl
      | some i =>
        obtain ⟨o, ho, _⟩ := handOk_get hok (posN_get hp)
        have := (List.getElem?_eq_some_iff.1 ho).1
        omega
    simp only [backEnv, hp]
    rw [if_neg (by omega), show H.length + (j - ks.length) - H.length + ks.length = j by omega]

theorem mapO_dead {ρ : Nat → Option Nat} : mapO ρ .dead = .dead := rfl

theorem gam_handback (g : Gam E0 E H) (hn : nodupN ks = true) (hok : handOk H ks = true) (g' : Gam (E.hand ks lent) E' H1) (hfl : lent → ∀ o ∈ H1, nflO o) :
    ExtMap (kpN ks H1) E (backEnv E E' H.length ks lent) ∧ Gam E0 (backEnv E E' H.length ks lent) (backO ks H.length H1 0 H) ∧ Keep ks E (backEnv E E' H.length ks lent) ∧
    (∀ v x, RepV E' v x → (lent → nflB x = true) → RepV (backEnv E E' H.length ks lent) v (mapB (bkN ks H.length) x)) := by
  have old_lt : ∀ b, (E.hand ks lent).old b → b < E.w.heap.size := fun b hb => hb.1
  have hsize : E.w.heap.size ≤ E'.w.heap.size := g'.below.size
  have hblk : ∀ b, b < E.w.heap.size → (∀ (l : Nat) (L : Loc), E.loc l = some L → 0 < L.cap → L.b = b → posN ks l = none) → E'.w.heap[b]? = E.w.heap[b]? := fun b h1 h2 => g'.below.block b (hand_old g h1 h2)
  have hFold : ∀ b, E.F b → ∀ (l : Nat) (L : Loc), E.loc l = some L → 0 < L.cap → L.b ≠ b := fun b hb l L hL hc e => (g.own l L hL hc).2.2 (e ▸ hb)
  have hup : ∀ b, E.F b → (backEnv E E' H.length ks lent).F b := fun b hb => ⟨g'.up b (.inl hb), fun _ ⟨l, L, hL, hc, he, _⟩ => hFold b hb l L hL hc he⟩
  have hcellF : ∀ a : Addr, E.F a.block → E'.w.cell? a = E.w.cell? a := fun a ha => World.cell?_of_block (w := E.w) (hblk _ (g.lt _ ha) (fun l L hL hc he => absurd he (hFold _ ha l L hL hc)))
  -- callee's names, in the caller's environment
  have cal : ∀ q L, E'.loc q = some L → 0 < L.cap → ¬ (E.hand ks lent).old L.b ∧ L.b < E'.w.heap.size ∧ ¬ E'.F L.b := fun q L hL hc => g'.own q L hL hc
  have notold : ∀ b, ¬ (E.hand ks lent).old b → ¬ E0.old b := by
    intro b hb ho
    have h1 : b < E.w.heap.size := Env.old_lt g.below ho
    refine hb ⟨h1, fun hw => ?_⟩
    obtain ⟨l, L, j, hL, hc, hbb, hj⟩ := hand_owns.1 hw
    exact (g.own l L hL hc).1 (hbb ▸ ho)
  have kp : ExtMap (kpN ks H1) E (backEnv E E' H.length ks lent) := by
    refine ⟨hup, hcellF, fun q q' L hq hL => ?_⟩
    have hqlt := g.dom q L hL
    unfold kpN at hq
    split at hq
    · rename_i j hj
      split at hq
      · cases hq
      · rename_i hd
        injection hq with hq
        subst hq
        have hhl : (E.hand ks lent).loc j = some L := by simp only [Env.hand, posN_get hj]; exact hL
        simp only [backEnv, hj]
        have hjl : j < (E.hand ks lent).m := (List.getElem?_eq_some_iff.1 (posN_get hj)).1
        rcases g'.stay j hjl with h | h
        · rw [h]; exact hhl
        · obtain ⟨L9, hL9⟩ := loc_of_alive g' hd
          rw [h] at hL9; cases hL9
    · rename_i hp
      injection hq with hq
      subst hq
      simp only [backEnv, hp]
      rw [if_pos hqlt]
      exact hL
  have mp : ∀ (us : List Value) (x : AV), Rep E' us x → (lent → nflB x = true) → Rep (backEnv E E' H.length ks lent) us (mapB (bkN ks H.length) x) := by
    intro us x hr hf
    by_cases hl : lent
    · exact rep_map (rep_noF hr (hf hl)) ⟨fun _ h => h.elim, fun _ h => h.elim, fun q q' L hq hL => by rw [backEnv_bk hn hok hq]; exact hL⟩
    · exact rep_map hr ⟨fun b hb => ⟨hb, fun h => absurd h hl⟩, fun _ _ => rfl, fun q q' L hq hL => by rw [backEnv_bk hn hok hq]; exact hL⟩
  have mo : ∀ (q q' : Nat) (o : LObj), bkN ks H.length q = some q' → H1[q]? = some o → ObjOk (backEnv E E' H.length ks lent) q' (mapO (bkN ks H.length) o) := by
    intro q q' o hq ho
    have hob := g'.objs q o ho
    have hloc : ∀ L, E'.loc q = some L → (backEnv E E' H.length ks lent).loc q' = some L := fun L hL => by rw [backEnv_bk hn hok hq]; exact hL
    by_cases hl : lent
    · have := hob.noF (hfl hl o (List.mem_of_getElem? ho))
      exact this.map (E := E'.noF) ⟨fun _ h => h.elim, fun _ h => h.elim, fun q q' L hq hL => by rw [backEnv_bk hn hok hq]; exact hL⟩ hloc (fun L hL hc => rfl)
    · exact hob.map (E := E') ⟨fun b hb => ⟨hb, fun h => absurd h hl⟩, fun _ _ => rfl, fun q q' L hq hL => by rw [backEnv_bk hn hok hq]; exact hL⟩ hloc (fun L hL hc => rfl)
  refine ⟨kp, ?_, ?_, ?_⟩
  · constructor
    · intro l o hl
      rw [backO_get] at hl
      split at hl
      · rename_i hlt
        rw [Nat.zero_add] at hl
        split at hl
        · rename_i j hj
          injection hl with hl
          subst hl
          rw [List.getD_eq_getElem?_getD]
          cases ho : H1[j]? with
          | none => exact trivial
          | some o1 => exact mo j l o1 (bkN_lt (posN_get hj)) ho
        · rename_i hp
          rw [Option.map_eq_some_iff] at hl
          obtain ⟨o1, ho1, rfl⟩ := hl
          refine (g.objs l o1 ho1).map kp (fun L hL => ?_) (fun L hL hc => ?_)
          · simp only [backEnv, hp]
            rw [if_pos hlt]
            exact hL
          · refine hblk L.b (g.own l L hL hc).2.1 (fun l' L' hL' hc' he => ?_)
            have := g.inj l' l L' L hL' hL hc' hc he
            rw [this]; exact hp
      · rename_i hge
        rw [Option.map_eq_some_iff] at hl
        obtain ⟨o1, ho1, rfl⟩ := hl
        refine mo _ l o1 ?_ ho1
        rw [bkN_ge (by omega)]
        congr 1
        omega
    · intro l L hL
      rw [backO_length]
      rcases backEnv_loc hL with ⟨j, hj, hL'⟩ | ⟨_, hlt, _⟩ | ⟨_, hge, hL'⟩
      · obtain ⟨o, ho, _⟩ := handOk_get hok (posN_get hj)
        have := (List.getElem?_eq_some_iff.1 ho).1
        omega
      · omega
      · have := g'.dom _ L hL'
        omega
    · intro l L hL hc
      rcases backEnv_loc hL with ⟨j, hj, hL'⟩ | ⟨hp, hlt, hL'⟩ | ⟨_, hge, hL'⟩
      · have h1 := cal j L hL' hc
        exact ⟨notold _ h1.1, h1.2.1, fun hF => h1.2.2 hF.1⟩
      · have h1 := g.own l L hL' hc
        refine ⟨h1.1, Nat.lt_of_lt_of_le h1.2.1 hsize, fun hF => ?_⟩
        have hho : (E.hand ks lent).old L.b := hand_old g h1.2.1 (fun l' L2 hL2 hc2 he => by
          have := g.inj l' l L2 L hL2 hL' hc2 hc he
          rw [this]; exact hp)
        rcases g'.down _ hF.1 with h | h
        · rcases h with h | ⟨hle, h⟩
          · exact h1.2.2 h
          · exact hF.2 hle h
        · exact h hho
      · have h1 := cal _ L hL' hc
        exact ⟨notold _ h1.1, h1.2.1, fun hF => h1.2.2 hF.1⟩
    · have callee : ∀ l L, (backEnv E E' H.length ks lent).loc l = some L → (∃ q, bkN ks H.length q = some l ∧ E'.loc q = some L) ∨ (posN ks l = none ∧ l < H.length ∧ E.loc l = some L) := by
        intro l L hL
        rcases backEnv_loc hL with ⟨j, hj, hL'⟩ | h | ⟨_, hge, hL'⟩
        · exact .inl ⟨j, bkN_lt (posN_get hj), hL'⟩
        · exact .inr h
        · refine .inl ⟨_, ?_, hL'⟩
          rw [bkN_ge (by omega)]
          congr 1
          omega
      have cross : ∀ q L l' L', E'.loc q = some L → 0 < L.cap → posN ks l' = none → E.loc l' = some L' → 0 < L'.cap → L.b ≠ L'.b := by
        intro q L l' L' hL hc hp hL' hc' he
        have h1 := (cal q L hL hc).1
        refine h1 (he ▸ hand_old g (g.own l' L' hL' hc').2.1 (fun l2 L2 hL2 hc2 he2 => ?_))
        have := g.inj l2 l' L2 L' hL2 hL' hc2 hc' he2
        rw [this]; exact hp
      intro l l' L L' hL hL' hc hc' hb
      rcases callee l L hL with ⟨q, hq, h1⟩ | ⟨hp, hlt, h1⟩ <;> rcases callee l' L' hL' with ⟨q', hq', h1'⟩ | ⟨hp', hlt', h1'⟩
      · have := g'.inj q q' L L' h1 h1' hc hc' hb
        subst this
        rw [hq] at hq'
        injection hq'
      · exact absurd hb (cross q L l' L' h1 hc hp' h1' hc')
      · exact absurd hb.symm (cross q' L' l L h1' hc' hp h1 hc)
      · exact g.inj l l' L L' h1 h1' hc hc' hb
    · intro b hb
      exact g'.lt b hb.1
    · intro b hb
      exact hup b (g.up b hb)
    · intro b hb
      rcases g'.down b hb.1 with h | h
      · rcases h with h | ⟨hle, h⟩
        · exact g.down b h
        · exact absurd h (hb.2 hle)
      · exact .inr (notold b h)
    · refine g.below.next g'.below.os g'.below.tape g'.below.output hsize (fun k hk => ?_)
      exact hblk k (Env.old_lt g.below hk) (fun l L hL hc he => absurd (he ▸ hk) (g.own l L hL hc).1)
    · intro l hl
      have hlt : l < H.length := Nat.lt_of_lt_of_le hl g.hm
      cases hp : posN ks l with
      | none =>
        simp only [backEnv, hp]
        rw [if_pos hlt]
        exact g.stay l hl
      | some j =>
        have hjl : j < (E.hand ks lent).m := (List.getElem?_eq_some_iff.1 (posN_get hp)).1
        have hhl : (E.hand ks lent).loc j = E.loc l := by simp only [Env.hand, posN_get hp]
        simp only [backEnv, hp]
        rcases g'.stay j hjl with h | h
        · rw [h, hhl]; exact g.stay l hl
        · exact .inr h
    · have := g.hm
      rw [backO_length]
      omega
  · refine ⟨g'.below.os, g'.below.tape, g'.below.output, hsize, fun b hb hne => ?_, fun l L' hL' hc => ?_⟩
    · refine hblk b hb (fun l L hL hc he => ?_)
      cases hp : posN ks l with
      | none => rfl
      | some j => exact absurd he.symm (hne l L (List.mem_of_getElem? (posN_get hp)) hL hc)
    · rcases backEnv_loc hL' with ⟨j, hj, h1⟩ | ⟨hp, hlt, h1⟩ | ⟨_, hge, h1⟩
      · have h2 := (cal _ L' h1 hc).1
        by_cases hs : L'.b < E.w.heap.size
        · right
          by_cases hw : (E.hand ks lent).owns L'.b
          · obtain ⟨l2, L2, j2, a1, a2, a3, a4⟩ := hand_owns.1 hw
            exact ⟨l2, L2, .inr (List.mem_of_getElem? a4), a1, a2, a3⟩
          · exact absurd ⟨hs, hw⟩ h2
        · exact .inl (Nat.le_of_not_lt hs)
      · exact .inr ⟨l, L', .inl rfl, h1, hc, rfl⟩
      · have h2 := (cal _ L' h1 hc).1
        by_cases hs : L'.b < E.w.heap.size
        · right
          by_cases hw : (E.hand ks lent).owns L'.b
          · obtain ⟨l2, L2, j2, a1, a2, a3, a4⟩ := hand_owns.1 hw
            exact ⟨l2, L2, .inr (List.mem_of_getElem? a4), a1, a2, a3⟩
          · exact absurd ⟨hs, hw⟩ h2
        · exact .inl (Nat.le_of_not_lt hs)
  · intro v x hr hf
    by_cases hl : lent
    · exact repV_map (repV_noF hr (hf hl)) ⟨fun _ h => h.elim, fun _ h => h.elim, fun q q' L hq hL => by rw [backEnv_bk hn hok hq]; exact hL⟩
    · exact repV_map hr ⟨fun b hb => ⟨hb, fun h => absurd h hl⟩, fun _ _ => rfl, fun q q' L hq hL => by rw [backEnv_bk hn hok hq]; exact hL⟩

end
end
end Go.Am

namespace Go.Am
open Go.RowKit

/-- What is asked of a map's keys: that they are found by being the same. -/
structure KLaw (P : Program) (k : TypeId) (W : Value → Prop) : Prop where
  check : ∀ (w : World) (em : Bool) {v : Value}, W v → (Instr.checkKey em 10000 k v).run P w = .ok () w
  find : ∀ (w : World) {x : Value}, W x → ∀ es : List MapEntry, (∀ e ∈ es, W e.key) →
    ((Instr.findKey k x es).run P w = .ok none w ∧ ∀ e ∈ es, e.key ≠ x) ∨ ∃ j e, (Instr.findKey k x es).run P w = .ok (some (j, e.val)) w ∧ es[j]? = some e ∧ e.key = x
  stays : ∀ (w : World) {v : Value}, W v → (Instr.keyThatStays v v).run P w = .ok v w

/-- A plain value, out of what is known of it. -/
def plC : List AV → Option (List Value)
  | [] => some []
  | .pl v :: cs => match plC cs with
    | some vs => some (v :: vs)
    | none => none
  | .iarr k n f :: cs => match plC cs with
    | some vs => some ((List.range n).map (fun i => .int k (f i)) ++ vs)
    | none => none
  | _ :: _ => none
def plainV : AV → Option Value
  | .pl v => some v
  | .agg cs => match plC cs with
    | some vs => some (.agg vs.toArray)
    | none => none
  | _ => none

theorem rep_plC {E : Env} : ∀ {cs : List AV} {us vs : List Value}, Rep E us (.agg cs) → plC cs = some vs → us = vs := by
  intro cs
  induction cs with
  | nil =>
    intro us vs h hp
    simp only [plC, Option.some.injEq] at hp
    rw [h.nil_inv, hp]
  | cons c cs ih =>
    intro us vs h hp
    obtain ⟨h1, h2, h3⟩ := h.cons_inv
    cases c <;> simp only [plC, reduceCtorEq] at hp
    · rename_i v
      split at hp
      · rename_i ws hw
        injection hp with hp
        subst hp
        have := h2.pl_inv'
        have h4 := ih h3 hw
        rw [← List.take_append_drop (cw (.pl v)) us, this, h4]
        rfl
      · cases hp
    · rename_i k n f
      split at hp
      · rename_i ws hw
        injection hp with hp
        subst hp
        have h4 := ih h3 hw
        rw [← List.take_append_drop (cw (.iarr k n f)) us, h4]
        congr 1
        obtain ⟨h5, h6⟩ := h2.iarr_inv
        apply List.ext_getElem?
        intro i
        by_cases hi : i < n
        · rw [h6 i hi, List.getElem?_map, List.getElem?_range hi]
          rfl
        · rw [List.getElem?_eq_none (by omega), List.getElem?_eq_none (by simp; omega)]
      · cases hp
theorem repV_plain {E : Env} {v u : Value} {x : AV} (h : RepV E v x) (hp : plainV x = some u) : v = u := by
  cases x <;> simp only [plainV, reduceCtorEq, Option.some.injEq] at hp
  · rw [repV_pl h, hp]
  · split at hp
    · rename_i vs hv
      injection hp with hp
      obtain ⟨us, rfl, hr⟩ := h
      rw [rep_plC hr hv, hp]
    · cases hp

/-- The value that stands where nothing is. -/
def zeroOf (P : Program) (t : TypeId) : Option AV := match P.info? t with
  | some i => match i.zero with
    | some (.agg us) => match zeroC P 8 t with
      | some cs => match matchCells cs us.toList with
        | true => some (.agg cs)
        | false => none
      | none => none
    | some (.tuple _) => none
    | some v => match v.oneCell' with
      | true => some (.pl v)
      | false => none
    | none => none
  | none => none

abbrev XK := St → AV → List Nat → Prop

def lookK (s : St) (e0 : Option AV) (ok : Bool) (has : Prop) (x : AV) (K : XK) : Prop := match ok with
  | true => (has → K s (.tup [x, .pl (.bool true)]) []) ∧ (¬ has → ∃ z, e0 = some z ∧ K s (.tup [z, .pl (.bool false)]) [])
  | false => match x, e0 with
    | .pl (.bool b), some (.pl (.bool false)) => ∀ c : Bool, (c = true ↔ has ∧ b = true) → K s (.pl (.bool c)) []
    | x, _ => (has → K s x []) ∧ (¬ has → ∃ z, e0 = some z ∧ K s z [])

/-- A map with one more key, or a key anew. -/
noncomputable def updV (val : Value → AV) (k : Value) (x : AV) (v : Value) : AV := open Classical in if v = k then x else val v

def notAgg : AV → Bool
  | .any => false
  | .tup _ => false
  | .iarr .. => false
  | _ => true

/-- The operations: for each what is to be shown of what it does. -/
def opX (P : Program) (KT : TypeId → Option (Value → Prop)) (s : St) (o : Oper) : Option (XK → Prop) := match o.op with
  | .makeMap t none => match P.underlying t with
    | some (.map kt _) => match KT kt with
      | some W => some fun K => K { s with heap := s.heap ++ [.mapo kt W (fun _ => False) (fun _ => .any)] } (.mp s.heap.length) []
      | none => none
    | _ => none
  | .lookup t m k ok => match P.underlying t, s.ev m, plainV (s.ev k) with
    | some (.map kt et), .mp l, some kv => match s.heap[l]?, KT kt with
      | some (.mapo kt' W has val), some _ => some fun K => kt = kt' ∧ KT kt = some W ∧ W kv ∧ lookK s (zeroOf P et) ok (has kv) (val kv) K
      | _, _ => none
    | _, _, _ => none
  | .mapUpdate t m k x => match P.underlying t, s.ev m, plainV (s.ev k) with
    | some (.map kt _), .mp l, some kv => match s.heap[l]?, immB (s.ev x) && notAgg (s.ev x) with
      | some (.mapo kt' W has val), true => some fun K => kt = kt' ∧ KT kt = some W ∧ W kv ∧ K { s with heap := s.heap.set l (.mapo kt W (fun v => v = kv ∨ has v) (updV val kv (s.ev x))) } .any [l]
      | _, _ => none
    | _, _, _ => none
  | .range t x => match P.underlying t, s.ev x with
    | some .string, .pl (.string b) => some fun K => K { s with heap := s.heap ++ [.raw (.stringIter b 0)] } (.ptr s.heap.length 0 0 0) []
    | _, _ => none
  | .next it true => match s.ev it with
    | .ptr l 0 0 0 => match s.heap[l]? with
      | some (.raw (.stringIter b pos)) => some fun K => (pos < b.size → K { s with heap := s.heap.set l (.raw (.stringIter b (pos + (Utf8.decode b pos).2))) } (.tup [.pl (.bool true), .pl (.int .i64 pos), .pl (.int .i32 (Utf8.decode b pos).1)]) [l]) ∧ (¬ pos < b.size → K s (.tup [.pl (.bool false)]) [])
      | _ => none
    | _ => none
  | .binOp op t x y _ => match P.underlying t, y, s.ev x with
    | some (.slice _), .const (.slice none 0 0), .rows _ n _ => match op with
      | .eql => some fun K => ∀ b : Bool, (0 < n → b = false) → K s (.pl (.bool b)) []
      | .neq => some fun K => ∀ b : Bool, (0 < n → b = true) → K s (.pl (.bool b)) []
      | _ => none
    | some (.slice _), .const (.slice none 0 0), .own _ _ n => match op with
      | .eql => some fun K => ∀ b : Bool, (0 < n → b = false) → K s (.pl (.bool b)) []
      | .neq => some fun K => ∀ b : Bool, (0 < n → b = true) → K s (.pl (.bool b)) []
      | _ => none
    | some (.slice _), .const (.slice none 0 0), .emp => match op with
      | .eql => some fun K => ∀ b : Bool, K s (.pl (.bool b)) []
      | .neq => some fun K => ∀ b : Bool, K s (.pl (.bool b)) []
      | _ => none
    | some (.slice _), .const (.slice none 0 0), .pl (.slice none 0 0) => match op with
      | .eql => some fun K => K s (.pl (.bool true)) []
      | .neq => some fun K => K s (.pl (.bool false)) []
      | _ => none
    | _, _, _ => none
  | .call { callee := .builtin .cap, args, argTypes } => match args.toList, argTypes.toList with
    | [x], [t] => match P.underlying t, s.ev x with
      | some (.slice _), .own l 0 n => match s.heap[l]? with
        | some (.row _ _ m _) => some fun K => ∀ c : Nat, m ≤ c → n ≤ c → c ≤ maxLen → K { s with heap := s.heap ++ [.capo l c] } (.pl (.int .i64 c)) []
        | _ => none
      | _, _ => none
    | _, _ => none
  | _ => none

section
variable {P : Program} {E0 E : Env} {H : List LObj}

theorem gam_capo (g : Gam E0 E H) {l c : Nat} {L : Loc} (hL : E.loc l = some L) (hc : L.cap = c) : Gam E0 E (H ++ [.capo l c]) where
  objs := fun q o hq => by
    rw [List.getElem?_append] at hq
    split at hq
    · exact g.objs q o hq
    · cases hk : q - H.length with
      | zero => rw [hk] at hq; simp at hq; subst hq; exact ⟨L, hL, hc⟩
      | succ j => rw [hk] at hq; simp at hq
  dom := fun q L hL => by have := g.dom q L hL; simp; omega
  own := g.own
  inj := g.inj
  lt := g.lt
  up := g.up
  down := g.down
  below := g.below
  stay := g.stay
  hm := by have := g.hm; simp; omega

/-- One owned block laid anew as another object. -/
def Env.putO (E : Env) (b : Nat) (ob : Obj) : Env := { E with w := { E.w with heap := E.w.heap.setIfInBounds b ob } }
theorem putO_at (E : Env) {b : Nat} {ob ob' : Obj} (h : E.w.heap[b]? = some ob) : (E.putO b ob').w.heap[b]? = some ob' := by
  have := (Array.getElem?_eq_some_iff.1 h).1
  simp [Env.putO, this]
theorem putO_other (E : Env) {b k : Nat} (ob' : Obj) (h : k ≠ b) : (E.putO b ob').w.heap[k]? = E.w.heap[k]? := by
  simp only [Env.putO]
  rw [Array.getElem?_setIfInBounds, if_neg (fun e => h e.symm)]
theorem ext_putO (g : Gam E0 E H) {l : Nat} {L : Loc} (hL : E.loc l = some L) (hc : 0 < L.cap) (ob : Obj) : Ext E (E.putO L.b ob) :=
  ⟨fun _ h => h, fun _ ha => World.cell?_of_block (w := E.w) (putO_other E ob (fun e => (g.own l L hL hc).2.2 (e ▸ ha))), fun _ _ h => h⟩
theorem gam_putO (g : Gam E0 E H) {l : Nat} {L : Loc} (hL : E.loc l = some L) (hc : 0 < L.cap) (ob : Obj) {o : LObj} (ho : ObjOk (E.putO L.b ob) l o) : Gam E0 (E.putO L.b ob) (H.set l o) where
  objs := by
    intro l' o' hl
    rw [List.getElem?_set] at hl
    split at hl
    · rename_i he
      subst he
      split at hl
      · injection hl with hl
        subst hl
        exact ho
      · cases hl
    · rename_i hne
      refine (g.objs l' o' hl).mono (ext_putO g hL hc ob) (fun L' hL' hc' => putO_other E ob (fun e => hne ?_))
      exact g.inj l l' L L' hL hL' hc hc' e.symm
  dom := by intro l' L' hL'; simpa using g.dom l' L' hL'
  own := by intro l' L' hL' hc'; have := g.own l' L' hL' hc'; exact ⟨this.1, by simpa [Env.putO] using this.2.1, this.2.2⟩
  inj := g.inj
  lt := by intro b hb; simpa [Env.putO] using g.lt b hb
  up := g.up
  down := g.down
  below := g.below.next rfl rfl rfl (by simp [Env.putO]) (fun k hk => putO_other E ob (fun e => (g.own l L hL hc).1 (e ▸ hk)))
  stay := g.stay
  hm := by rw [List.length_set]; exact g.hm
theorem keep_putO (E : Env) {l : Nat} {L : Loc} (hL : E.loc l = some L) (hc : 0 < L.cap) (ob : Obj) : Keep [l] E (E.putO L.b ob) :=
  ⟨rfl, rfl, rfl, by simp [Env.putO], fun b _ hne => putO_other E ob (hne l L List.mem_cons_self hL hc), fun q L' hL' hc' => .inr ⟨q, L', .inl rfl, hL', hc', rfl⟩⟩

theorem repV_imm' {v : Value} {x : AV} (h : RepV E v x) (hi : immB x = true) : RepV E.imm v x := by
  cases x <;> first
    | exact trivial
    | exact h.elim
    | (simp [immB] at hi; done)
    | exact rep_imm (show Rep E [v] _ from h) hi
    | (obtain ⟨us, hv, hr⟩ := h; exact ⟨us, hv, rep_imm hr hi⟩)

/-- What an operation of these does. -/
def DoesX (P : Program) (E0 E : Env) (_ : St) (a : Act) (o : Oper) (K : XK) : Prop :=
  ∃ nx E' s' x tl, (execOp a.eval o).run P E.w = .ok nx E'.w ∧ K s' x tl ∧ GamS E0 E' s' a ∧ ((∃ v, nx = .value v ∧ RepV E' v x) ∨ (nx = .skip ∧ x = .any)) ∧ Keep tl E E'

def KeysOk (P : Program) (KT : TypeId → Option (Value → Prop)) : Prop := ∀ k W, KT k = some W → KLaw P k W

theorem obj_new (g : Gam E0 E H) (ob : Obj) (o : LObj) (t : TypeId) (ho : ObjOk (E.new H.length ob 1 1 t) H.length o) : Gam E0 (E.new H.length ob 1 1 t) (H ++ [o]) := gam_new g ob 1 1 t ho

theorem zeroOf_run {t : TypeId} {z : AV} (h : zeroOf P t = some z) (E : Env) : ∃ v, (∀ w, (zeroValue t).run P w = .ok v w) ∧ RepV1 E v z ∧ ∀ zs, z ≠ .tup zs := by
  unfold zeroOf at h
  split at h
  · rename_i i hi
    split at h
    · rename_i us hz
      split at h
      · rename_i cs hc
        split at h
        · rename_i hm
          injection h with h
          subst h
          exact ⟨.agg us, fun w => by simp [zeroValue, typeInfo, hi, hz], ⟨us.toList, by simp, rep_matchCells hm⟩, fun zs hh => by cases hh⟩
        · cases h
      · cases h
    · cases h
    · rename_i v _ _ hz
      split at h
      · rename_i hone
        injection h with h
        subst h
        exact ⟨v, fun w => by simp [zeroValue, typeInfo, hi, hz], Rep.pl v hone, fun zs hh => by cases hh⟩
      · cases h
    · cases h
  · cases h

theorem repV_of1 {v : Value} {x : AV} (h : RepV1 E v x) : RepV E v x := by
  cases x <;> first | exact h | exact h.elim

theorem repV1_ofImm {v : Value} {x : AV} (h : RepV1 E.imm v x) : RepV1 E v x := h.mono (Ext.of_imm E)

theorem rep_tup2 {v u : Value} {x y : AV} (hx : RepV1 E v x) (hy : RepV1 E u y) : RepV E (.tuple #[v, u]) (.tup [x, y]) :=
  ⟨[v, u], rfl, rfl, fun i w z hw hz => by
    match i with
    | 0 => simp at hw hz; subst hw hz; exact hx
    | 1 => simp at hw hz; subst hw hz; exact hy
    | i + 2 => simp at hw⟩
theorem repV1_bool (b : Bool) : RepV1 E (.bool b) (.pl (.bool b)) := Rep.pl _ rfl

theorem does_lookup {KT : TypeId → Option (Value → Prop)} (hKT : KeysOk P KT) {s : St} {a : Act} {o : Oper} (g : GamS E0 E s a) {t : TypeId} {m k : Operand} {ok : Bool} (ho : o.op = .lookup t m k ok) {kt et : TypeId} (hu : P.underlying t = some (.map kt et)) {l : Nat} (hm : s.ev m = .mp l) {kv : Value} (hk : plainV (s.ev k) = some kv)
    {W has : Value → Prop} {val : Value → AV} (hl : s.heap[l]? = some (.mapo kt W has val)) (hW : KT kt = some W) (hkv : W kv) {K : XK} (h : lookK s (zeroOf P et) ok (has kv) (val kv) K) : DoesX P E0 E s a o K := by
  have law := hKT kt W hW
  obtain ⟨L, es, clock, hL, hc, hg, h1, h2, h3, h4⟩ := g.objs l _ hl
  have hmv := g.slots.ev m
  rw [hm] at hmv
  obtain ⟨L', hL', hmv⟩ := Rep.mp_inv (show Rep E [_] (.mp l) from hmv)
  rw [hL] at hL'
  injection hL' with hL'
  subst hL'
  have hkv' := repV_plain (g.slots.ev k) hk
  have hgo : (getObj L.b).run P E.w = .ok (.map es clock) E.w := by simp [getObj, Sem.run, hg]
  have fin : ∀ (v : Value) (b : Bool) (x : AV), RepV1 E v x → ((Instr.lookup t (a.eval m) (a.eval k) ok).run P E.w = .ok (if ok then .tuple #[v, .bool b] else v) E.w) → K s (if ok then .tup [x, .pl (.bool b)] else x) [] → DoesX P E0 E s a o K := by
    intro v b x hx hrun hK
    refine ⟨.value (if ok then .tuple #[v, .bool b] else v), E, s, _, [], ?_, hK, g, .inl ⟨_, rfl, ?_⟩, Keep.refl _ _⟩
    · simp only [execOp, ho, Sem.run_bind, hrun, Result.andThen_ok, Sem.run_pure]
    · cases ok with
      | true => exact rep_tup2 hx (repV1_bool b)
      | false => exact repV_of1 hx
  have hlook : ∀ (v : Value) (b : Bool), ((Instr.findKey kt kv es.toList).run P E.w = .ok (if b then some (0, v) else none) E.w ∨ ∃ j, (Instr.findKey kt kv es.toList).run P E.w = .ok (some (j, v)) E.w ∧ b = true) → (b = false → (zeroValue et).run P E.w = .ok v E.w) →
      (Instr.lookup t (a.eval m) (a.eval k) ok).run P E.w = .ok (if ok then .tuple #[v, .bool b] else v) E.w := by
    intro v b hf hz
    rw [hmv, hkv']
    simp only [Instr.lookup, Sem.run_bind, run_underlying hu, Result.andThen_ok, hgo, Sem.run_pure, law.check E.w _ hkv]
    rcases hf with hf | ⟨j, hf, rfl⟩
    · rw [hf]
      cases b with
      | true => cases ok <;> simp
      | false => simp only [Bool.false_eq_true, if_false, Result.andThen_ok, Sem.run_bind, hz rfl, Sem.run_pure]
    · rw [hf]
      cases ok <;> simp
  rcases law.find E.w hkv es.toList h1 with ⟨hf, hne⟩ | ⟨j, e, hf, hje, hek⟩
  · have hnot : ¬ has kv := fun hh => by obtain ⟨e, he, hek⟩ := (h3 kv).1 hh; exact hne e he hek
    have base : ∀ z, zeroOf P et = some z → K s (if ok then .tup [z, .pl (.bool false)] else z) [] → DoesX P E0 E s a o K := by
      intro z hz hK
      obtain ⟨zv, hzr, hzrep, _⟩ := zeroOf_run hz E
      exact fin zv false z hzrep (hlook zv false (.inl (by simpa using hf)) (fun _ => hzr _)) hK
    unfold lookK at h
    split at h
    · obtain ⟨z, hz, hK⟩ := h.2 hnot
      exact base z hz hK
    · split at h
      · rename_i b hv hz
        have := h false ⟨fun h => (by cases h), fun h => absurd h.1 hnot⟩
        exact base _ hz this
      · obtain ⟨z, hz, hK⟩ := h.2 hnot
        exact base z hz hK
  · have hmem : e ∈ es.toList := List.mem_of_getElem? hje
    have hhas : has kv := (h3 kv).2 ⟨e, hmem, hek⟩
    have hrep : RepV1 E e.val (val kv) := by rw [← hek]; exact repV1_ofImm (h4 e hmem)
    have base : K s (if ok then .tup [val kv, .pl (.bool true)] else val kv) [] → DoesX P E0 E s a o K := fun hK => fin e.val true _ hrep (hlook e.val true (.inr ⟨j, hf, rfl⟩) (fun h => by cases h)) hK
    unfold lookK at h
    split at h
    · exact base (h.1 hhas)
    · split at h
      · rename_i b hv hz
        have h5 := h b ⟨fun hb => ⟨hhas, hb⟩, fun h => h.2⟩
        exact base (by rw [hv]; exact h5)
      · exact base (h.1 hhas)

theorem modify_mem {es : Array MapEntry} {j : Nat} {e : MapEntry} (he : es[j]? = some e) (f : MapEntry → MapEntry) {x : MapEntry} (hx : x ∈ (es.modify j f).toList) : x = f e ∨ (x ∈ es.toList ∧ ∃ i, i ≠ j ∧ es[i]? = some x) := by
  obtain ⟨i, hi⟩ := List.mem_iff_getElem?.1 hx
  rw [Array.getElem?_toList, Array.getElem?_modify] at hi
  split at hi
  · rename_i hij
    subst hij
    rw [he] at hi
    simp at hi
    exact .inl hi.symm
  · rename_i hij
    exact .inr ⟨by rw [← Array.getElem?_toList] at hi; exact List.mem_of_getElem? hi, i, fun e => hij e.symm, hi⟩

theorem does_update {KT : TypeId → Option (Value → Prop)} (hKT : KeysOk P KT) {s : St} {a : Act} {o : Oper} (g : GamS E0 E s a) {t : TypeId} {m k x : Operand} (ho : o.op = .mapUpdate t m k x) {kt et : TypeId} (hu : P.underlying t = some (.map kt et)) {l : Nat} (hm : s.ev m = .mp l) {kv : Value} (hk : plainV (s.ev k) = some kv)
    {W has : Value → Prop} {val : Value → AV} (hl : s.heap[l]? = some (.mapo kt W has val)) (hW : KT kt = some W) (hkv : W kv) (him : immB (s.ev x) = true) (hna : notAgg (s.ev x) = true) {K : XK}
    (h : K { s with heap := s.heap.set l (.mapo kt W (fun v => v = kv ∨ has v) (updV val kv (s.ev x))) } .any [l]) : DoesX P E0 E s a o K := by
  have law := hKT kt W hW
  obtain ⟨L, es, clock, hL, hc, hg, h1, h2, h3, h4⟩ := g.objs l _ hl
  have hmv := g.slots.ev m
  rw [hm] at hmv
  obtain ⟨L', hL', hmv⟩ := Rep.mp_inv (show Rep E [_] (.mp l) from hmv)
  rw [hL] at hL'
  injection hL' with hL'
  subst hL'
  have hkv' := repV_plain (g.slots.ev k) hk
  have hgo : (getObj L.b).run P E.w = .ok (.map es clock) E.w := by simp [getObj, Sem.run, hg]
  have hxr : RepV1 E.imm (a.eval x) (s.ev x) := by
    have hx := g.slots.ev x
    generalize s.ev x = y at hx him hna
    have h9 := repV_imm' hx him
    cases y <;> first | exact h9 | (simp [notAgg] at hna; done)
  have hpos : 0 < L.cap := by omega
  have fin : ∀ ob : Obj, ObjOk (E.putO L.b ob) l (.mapo kt W (fun v => v = kv ∨ has v) (updV val kv (s.ev x))) → (Instr.mapUpdate t (a.eval m) (a.eval k) (a.eval x)).run P E.w = .ok () (E.putO L.b ob).w → DoesX P E0 E s a o K := by
    intro ob hob hrun
    refine ⟨.skip, E.putO L.b ob, _, .any, [l], ?_, h, ⟨gam_putO g.toGam hL hpos ob hob, g.slots.mono (ext_putO g.toGam hL hpos ob)⟩, .inr ⟨rfl, rfl⟩, keep_putO E hL hpos ob⟩
    simp only [execOp, ho, Sem.run_bind, hrun, Result.andThen_ok, Sem.run_pure]
  have hset : ∀ ob : Obj, (setObj L.b ob).run P E.w = .ok () (E.putO L.b ob).w := fun ob => by simp [setObj, Sem.run, hg, Env.putO]
  have hrun0 : ∀ R, ((do
      match ← Instr.findKey kt kv es.toList with
      | some (i, _) => do
        let key ← Instr.keyThatStays (((es[i]?).map (·.key)).getD kv) kv
        setObj L.b (.map (es.modify i fun e => { e with key, val := a.eval x }) clock)
      | none => setObj L.b (.map (es.push { key := kv, val := a.eval x, born := clock }) (clock + 1)) : Sem Unit)).run P E.w = R → (Instr.mapUpdate t (a.eval m) (a.eval k) (a.eval x)).run P E.w = R := by
    intro R hR
    rw [hmv, hkv']
    simp only [Instr.mapUpdate, Sem.run_bind, run_underlying hu, Result.andThen_ok, hgo, law.check E.w _ hkv] at hR ⊢
    exact hR
  rcases law.find E.w hkv es.toList h1 with ⟨hf, hne⟩ | ⟨j, e, hf, hje, hek⟩
  · refine fin (.map (es.push { key := kv, val := a.eval x, born := clock }) (clock + 1)) ⟨L, _, _, hL, hc, putO_at E hg, ?_, ?_, ?_, ?_⟩ (hrun0 _ ?_)
    · intro y hy
      simp only [Array.toList_push, List.mem_append, List.mem_singleton] at hy
      rcases hy with hy | rfl
      · exact h1 y hy
      · exact hkv
    · rw [Array.toList_push, List.pairwise_append]
      refine ⟨h2, by simp, fun y hy z hz => ?_⟩
      simp at hz
      subst hz
      exact hne y hy
    · intro v
      simp only [Array.toList_push, List.mem_append, List.mem_singleton]
      constructor
      · rintro (rfl | hv)
        · exact ⟨_, .inr rfl, rfl⟩
        · obtain ⟨y, hy, hyv⟩ := (h3 v).1 hv
          exact ⟨y, .inl hy, hyv⟩
      · rintro ⟨y, hy | rfl, rfl⟩
        · exact .inr ((h3 _).2 ⟨y, hy, rfl⟩)
        · exact .inl rfl
    · intro y hy
      simp only [Array.toList_push, List.mem_append, List.mem_singleton] at hy
      have e1 := (ext_putO g.toGam hL hpos (.map (es.push { key := kv, val := a.eval x, born := clock }) (clock + 1))).imm
      rcases hy with hy | rfl
      · rw [updV, if_neg (hne y hy)]
        exact (h4 y hy).mono e1
      · rw [updV, if_pos rfl]
        exact hxr.mono e1
    · simp only [Sem.run_bind, hf, Result.andThen_ok, hset]
  · have hje' : es[j]? = some e := by rw [← Array.getElem?_toList]; exact hje
    have hmem : e ∈ es.toList := List.mem_of_getElem? hje
    refine fin (.map (es.modify j fun e => { e with key := kv, val := a.eval x }) clock) ⟨L, _, _, hL, hc, putO_at E hg, ?_, ?_, ?_, ?_⟩ (hrun0 _ ?_)
    · intro y hy
      rcases modify_mem hje' _ hy with rfl | ⟨hy, _⟩
      · exact hkv
      · exact h1 y hy
    · have hkeys : (es.modify j fun e => { e with key := kv, val := a.eval x }).toList.map (·.key) = es.toList.map (·.key) := MapKept.modify_keys j _ (fun e' he' => by
        rw [hje'] at he'
        injection he' with he'
        subst he'
        exact hek.symm)
      have := List.pairwise_map (f := fun y : MapEntry => y.key) (R := fun a b => a ≠ b) (l := (es.modify j fun e => { e with key := kv, val := a.eval x }).toList)
      rw [← this, hkeys, List.pairwise_map]
      exact h2
    · intro v
      constructor
      · rintro (rfl | hv)
        · refine ⟨{ e with key := v, val := a.eval x }, ?_, rfl⟩
          apply List.mem_of_getElem? (i := j)
          rw [Array.getElem?_toList, Array.getElem?_modify, if_pos rfl, hje']
          rfl
        · obtain ⟨y, hy, hyv⟩ := (h3 v).1 hv
          obtain ⟨i, hi⟩ := List.mem_iff_getElem?.1 hy
          by_cases hij : j = i
          · subst hij
            refine ⟨{ e with key := kv, val := a.eval x }, ?_, ?_⟩
            · apply List.mem_of_getElem? (i := j)
              rw [Array.getElem?_toList, Array.getElem?_modify, if_pos rfl, hje']
              rfl
            · rw [hje] at hi
              injection hi with hi
              subst hi
              exact hek.symm.trans hyv
          · refine ⟨y, ?_, hyv⟩
            apply List.mem_of_getElem? (i := i)
            rw [Array.getElem?_toList, Array.getElem?_modify, if_neg hij, ← Array.getElem?_toList]
            exact hi
      · rintro ⟨y, hy, rfl⟩
        rcases modify_mem hje' _ hy with rfl | ⟨hy, _⟩
        · exact .inl rfl
        · exact .inr ((h3 _).2 ⟨y, hy, rfl⟩)
    · intro y hy
      have e1 := (ext_putO g.toGam hL hpos (.map (es.modify j fun e => { e with key := kv, val := a.eval x }) clock)).imm
      rcases modify_mem hje' _ hy with rfl | ⟨hy, i, hij, hiy⟩
      · rw [updV, if_pos rfl]
        exact hxr.mono e1
      · have hne : y.key ≠ kv := by
          intro he
          rw [← Array.getElem?_toList] at hiy
          have hi := (List.getElem?_eq_some_iff.1 hiy)
          have hj := (List.getElem?_eq_some_iff.1 hje)
          obtain ⟨hi1, hi2⟩ := hi
          obtain ⟨hj1, hj2⟩ := hj
          rcases Nat.lt_or_gt_of_ne hij with hlt | hgt
          · have := List.pairwise_iff_getElem.1 h2 i j hi1 hj1 hlt
            rw [hi2, hj2] at this
            exact this (he.trans hek.symm)
          · have := List.pairwise_iff_getElem.1 h2 j i hj1 hi1 hgt
            rw [hi2, hj2] at this
            exact this (hek.trans he.symm)
        rw [updV, if_neg hne]
        exact (h4 y hy).mono e1
    · simp only [Sem.run_bind, hf, Result.andThen_ok, hje', Option.map_some, Option.getD_some, hek, law.stays E.w hkv, hset]

theorem run_eql_nil {t e : TypeId} (hu : P.underlying t = some (.slice e)) (A : Option Addr) (n c : Nat) (w : World) : (binOp .eql t (.slice A n c) (.slice none 0 0)).run P w = .ok (.bool A.isNone) w := Lib.run_eql_slice_nil w t e A n c 0 0 hu
theorem run_neq_nil {t e : TypeId} (hu : P.underlying t = some (.slice e)) (A : Option Addr) (n c : Nat) (w : World) : (binOp .neq t (.slice A n c) (.slice none 0 0)).run P w = .ok (.bool (!A.isNone)) w := run_neq_slice_nil_any w t e A n c 0 0 hu

theorem does_val {s s' : St} {a : Act} {o : Oper} {K : XK} {v : Value} {x : AV} {E' : Env} {tl : List Nat} (hrun : (execOp a.eval o).run P E.w = .ok (.value v) E'.w) (hK : K s' x tl) (g' : GamS E0 E' s' a) (hv : RepV E' v x) (hk : Keep tl E E') : DoesX P E0 E s a o K :=
  ⟨.value v, E', s', x, tl, hrun, hK, g', .inl ⟨v, rfl, hv⟩, hk⟩

theorem does_nil {s : St} {a : Act} {o : Oper} {K : XK} (g : GamS E0 E s a) {op : BinOp} {t e : TypeId} {x : Operand} {y : TypeId} (ho : o.op = .binOp op t x (.const (.slice none 0 0)) y) (hu : P.underlying t = some (.slice e)) {A : Option Addr} {n c : Nat} (hx : a.eval x = .slice A n c)
    (h : (op = .eql ∧ K s (.pl (.bool A.isNone)) []) ∨ (op = .neq ∧ K s (.pl (.bool (!A.isNone))) [])) : DoesX P E0 E s a o K := by
  have hg : ∀ op, (eqGuard op t x (.const (.slice none 0 0)) (a.eval x) (.slice none 0 0)).run P E.w = .ok () E.w := fun op => by rw [hx]; exact run_eqGuard_cells rfl (by simp) E.w
  rcases h with ⟨rfl, hK⟩ | ⟨rfl, hK⟩
  · refine does_val (v := .bool A.isNone) (E' := E) ?_ hK g (Rep.pl _ rfl) (Keep.refl _ _)
    have := run_eql_nil hu A n c E.w
    have hg := hg .eql
    rw [hx] at hg
    simp only [execOp, ho, Act.eval] at hx ⊢
    rw [hx]
    simp only [Sem.run_bind, hg, Result.andThen_ok, this, Sem.run_pure]
  · refine does_val (v := .bool (!A.isNone)) (E' := E) ?_ hK g (Rep.pl _ rfl) (Keep.refl _ _)
    have := run_neq_nil hu A n c E.w
    have hg := hg .neq
    rw [hx] at hg
    simp only [execOp, ho, Act.eval] at hx ⊢
    rw [hx]
    simp only [Sem.run_bind, hg, Result.andThen_ok, this, Sem.run_pure]

theorem rows_slice {v : Value} {k n : Nat} {f : Nat → AV} (h : Rep E [v] (.rows k n f)) : ∃ A c, v = .slice A n c ∧ (0 < n → A.isNone = false) := by
  obtain ⟨A, cap, ws, a, _, _, hA, _, _, _, rfl⟩ := h.rows_inv
  exact ⟨A, cap, rfl, fun hn => by rw [(hA hn).1]; rfl⟩
theorem own_slice {v : Value} {l off n : Nat} (h : Rep E [v] (.own l off n)) : ∃ A c, v = .slice A n c ∧ (0 < n → A.isNone = false) := by
  obtain ⟨L, A, _, hb, hA, rfl⟩ := h.own_inv
  exact ⟨A, _, rfl, fun hn => by rw [hA (by omega)]; rfl⟩

theorem run_opX {KT : TypeId → Option (Value → Prop)} (hKT : KeysOk P KT) {s : St} {a : Act} {o : Oper} {F : XK → Prop} (g : GamS E0 E s a) (h : opX P KT s o = some F) {K : XK} (hF : F K) : DoesX P E0 E s a o K := by
  unfold opX at h
  split at h
  · rename_i t ho
    split at h
    · rename_i kt et hu
      split at h
      · rename_i W hW
        injection h with h
        subst h
        have g1 := obj_new g.toGam (.map #[] 0) (.mapo kt W (fun _ => False) (fun _ => .any)) t ⟨⟨E.w.heap.size, 1, 1, t⟩, #[], 0, by simp [Env.new], rfl, heap_alloc_new E.w _, by simp, by simp, by simp, by simp⟩
        refine does_val (v := .map (some E.w.heap.size)) ?_ hF ⟨g1, g.slots.mono (ext_new g.toGam _ _ _ _)⟩ ?_ (keep_new E _ _ _ _ _)
        · simp only [execOp, ho, Option.map_none, Instr.makeMap, Sem.run_bind, Sem.run_pure, Result.andThen_ok, run_newObj]
          rfl
        · exact Rep.mp (E := E.new s.heap.length (.map #[] 0) 1 1 t) (L := ⟨E.w.heap.size, 1, 1, t⟩) (by simp [Env.new])
      · cases h
    · cases h
  · rename_i t m k ok ho
    split at h
    · rename_i kt et l kv hu hm hk
      split at h
      · rename_i kt' W has val W9 hl hW9
        injection h with h
        subst h
        obtain ⟨rfl, hW, hkv, hK⟩ := hF
        exact does_lookup hKT g ho hu hm hk hl hW hkv hK
      · cases h
    · cases h
  · rename_i t m k x ho
    split at h
    · rename_i kt et l kv hu hm hk
      split at h
      · rename_i kt' W has val hl him
        rw [Bool.and_eq_true] at him
        injection h with h
        subst h
        obtain ⟨rfl, hW, hkv, hK⟩ := hF
        exact does_update hKT g ho hu hm hk hl hW hkv him.1 him.2 hK
      · cases h
    · cases h
  · rename_i t x ho
    split at h
    · rename_i b hu hx
      injection h with h
      subst h
      have hxv : a.eval x = .string b := by have := g.slots.ev x; rw [hx] at this; exact repV_pl this
      have g1 := obj_new g.toGam (.stringIter b 0) (.raw (.stringIter b 0)) t ⟨⟨E.w.heap.size, 1, 1, t⟩, by simp [Env.new], rfl, heap_alloc_new E.w _⟩
      refine does_val (v := .pointer (some ⟨E.w.heap.size, 0, none⟩)) ?_ hF ⟨g1, g.slots.mono (ext_new g.toGam _ _ _ _)⟩ ?_ (keep_new E _ _ _ _ _)
      · simp only [execOp, ho, hxv, Instr.range, Sem.run_bind, run_underlying hu, Result.andThen_ok, Sem.run_pure, run_newObj]
        rfl
      · have := Rep.ptr (E := E.new s.heap.length (.stringIter b 0) 1 1 t) (l := s.heap.length) (i := 0) (j := 0) (d := 0) (L := ⟨E.w.heap.size, 1, 1, t⟩) (by simp [Env.new])
        simpa [RepV, RepV1] using this
    · cases h
  · rename_i it ho
    split at h
    · rename_i l hit
      split at h
      · rename_i b pos hl
        injection h with h
        subst h
        obtain ⟨L, hL, hc, hg⟩ := g.objs _ _ hl
        have hv := g.slots.ev it
        rw [hit] at hv
        obtain ⟨L', hL', hv⟩ := Rep.ptr_inv (show Rep E [_] (.ptr l 0 0 0) from hv)
        rw [hL] at hL'
        injection hL' with hL'
        subst hL'
        have hv : a.eval it = .pointer (some ⟨L.b, 0, none⟩) := by rw [hv]; simp
        have hgo : (getObj L.b).run P E.w = .ok (.stringIter b pos) E.w := by simp [getObj, Sem.run, hg]
        have hpos : 0 < L.cap := by omega
        by_cases hlt : pos < b.size
        · have hset : (setObj L.b (.stringIter b (pos + (Utf8.decode b pos).2))).run P E.w = .ok () (E.putO L.b (.stringIter b (pos + (Utf8.decode b pos).2))).w := by simp [setObj, Sem.run, hg, Env.putO]
          refine does_val (v := .tuple #[.bool true, .int .i64 pos, .int .i32 (Utf8.decode b pos).1]) (E' := E.putO L.b (.stringIter b (pos + (Utf8.decode b pos).2))) ?_ (hF.1 hlt) ⟨gam_putO g.toGam hL hpos _ ⟨L, hL, hc, putO_at E hg⟩, g.slots.mono (ext_putO g.toGam hL hpos _)⟩ ?_ (keep_putO E hL hpos _)
          · simp only [execOp, ho, hv, Instr.next, Sem.run_bind, hgo, Result.andThen_ok, hlt, if_true, hset, Sem.run_pure]
            rfl
          · exact ⟨[_, _, _], rfl, rfl, fun i w z hw hz => by
              match i with
              | 0 => simp at hw hz; subst hw hz; exact Rep.pl _ rfl
              | 1 => simp at hw hz; subst hw hz; exact Rep.pl _ rfl
              | 2 => simp at hw hz; subst hw hz; exact Rep.pl _ rfl
              | i + 3 => simp at hw⟩
        · refine does_val (v := .tuple #[.bool false]) (E' := E) ?_ (hF.2 hlt) g ?_ (Keep.refl _ _)
          · simp only [execOp, ho, hv, Instr.next, Sem.run_bind, hgo, Result.andThen_ok, hlt, if_false, Sem.run_pure]
          · exact ⟨[_], rfl, rfl, fun i w z hw hz => by
              match i with
              | 0 => simp at hw hz; subst hw hz; exact Rep.pl _ rfl
              | i + 1 => simp at hw⟩
      · cases h
    · cases h
  · rename_i op t x y yt ho
    split at h
    · rename_i e k n f hu hx
      have hxv := g.slots.ev x
      rw [hx] at hxv
      obtain ⟨A, c, hA, hn⟩ := rows_slice (show Rep E [_] (.rows k n f) from hxv)
      split at h
      · injection h with h; subst h
        exact does_nil g ho hu hA (.inl ⟨rfl, hF _ hn⟩)
      · injection h with h; subst h
        exact does_nil g ho hu hA (.inr ⟨rfl, hF _ (fun h => by rw [hn h]; rfl)⟩)
      · cases h
    · rename_i e l off n hu hx
      have hxv := g.slots.ev x
      rw [hx] at hxv
      obtain ⟨A, c, hA, hn⟩ := own_slice (show Rep E [_] (.own l off n) from hxv)
      split at h
      · injection h with h; subst h
        exact does_nil g ho hu hA (.inl ⟨rfl, hF _ hn⟩)
      · injection h with h; subst h
        exact does_nil g ho hu hA (.inr ⟨rfl, hF _ (fun h => by rw [hn h]; rfl)⟩)
      · cases h
    · rename_i e hu hx
      have hxv := g.slots.ev x
      rw [hx] at hxv
      obtain ⟨A, hA⟩ := Rep.emp_inv (show Rep E [_] .emp from hxv)
      split at h
      · injection h with h; subst h
        exact does_nil g ho hu hA (.inl ⟨rfl, hF _⟩)
      · injection h with h; subst h
        exact does_nil g ho hu hA (.inr ⟨rfl, hF _⟩)
      · cases h
    · rename_i e hu hx
      have hxv := g.slots.ev x
      rw [hx] at hxv
      have hA := repV_pl hxv
      split at h
      · injection h with h; subst h
        exact does_nil g ho hu hA (.inl ⟨rfl, hF⟩)
      · injection h with h; subst h
        exact does_nil g ho hu hA (.inr ⟨rfl, hF⟩)
      · cases h
    · cases h
  · rename_i args argTypes ho
    split at h
    · rename_i x t hargs htys
      split at h
      · rename_i e l n hu hx
        split at h
        · rename_i k bt m f hl
          injection h with h
          subst h
          have hxv := g.slots.ev x
          rw [hx] at hxv
          obtain ⟨L, A, hL, hb, hA, hv⟩ := Rep.own_inv (show Rep E [_] (.own l 0 n) from hxv)
          obtain ⟨L', hL', ht, hk, hm, hmx, _⟩ := g.objs _ _ hl
          rw [hL] at hL'
          injection hL' with hL'
          subst hL'
          refine does_val (v := .int .i64 L.cap) (E' := E) ?_ (hF L.cap hm (by omega) hmx) ⟨gam_capo g.toGam hL rfl, g.slots⟩ (Rep.pl _ rfl) (Keep.refl _ _)
          have e1 : args = #[x] := by rw [← hargs]
          have e2 : argTypes = #[t] := by rw [← htys]
          subst e1 e2
          have hcap : (Builtin.cap_ #[t] o.type #[a.eval x]).run P E.w = .ok (.int .i64 L.cap) E.w := by
            rw [hv]
            simp [Builtin.cap_, run_underlying hu, goInt]
          simp only [execOp, ho, resolve, invoke, builtin, Sem.run_bind, Sem.run_pure, Result.andThen_ok, List.map_toArray, List.map_cons, List.map_nil, hcap]
        · cases h
      · cases h
    · cases h
  · cases h

end
end Go.Am

namespace Go.Am
open Go.RowKit

section
variable {P : Program} {E0 E : Env} {H : List LObj}

/-- A row, some of whose elements (or the next ones) are laid anew. -/
def wrF (f : Nat → AV) (off cnt : Nat) (x : Nat → AV) (q : Nat) : AV := if q < off then f q else if q < off + cnt then x (q - off) else f q
def wrN (n off cnt : Nat) : Nat := if off + cnt ≤ n then n else off + cnt

theorem mul_le_of {a b k : Nat} (h : a ≤ b) : a * k ≤ b * k := Nat.mul_le_mul_right k h
theorem succ_mul_le {a b k : Nat} (h : a < b) : a * k + k ≤ b * k := by
  calc a * k + k = (a + 1) * k := by rw [Nat.add_mul]; omega
    _ ≤ b * k := Nat.mul_le_mul_right k (by omega)

theorem row_write (g : Gam E0 E H) {l : Nat} {k : Nat} {t : TypeId} {n : Nat} {f : Nat → AV} (hl : H[l]? = some (.row k t n f)) {L : Loc} (hL : E.loc l = some L) {off cnt : Nat} {us : Nat → List Value} {x : Nat → AV} (hus : ∀ i, i < cnt → (us i).length = k) (hur : ∀ i, i < cnt → Rep E.imm (us i) (x i))
    (h0 : 0 < cnt) (hoff : off ≤ n) (hcap : off + cnt ≤ L.cap) :
    ∃ arr : Array Value, E.w.heap[L.b]? = some (.cells arr t (0, 0)) ∧ arr.size = L.cap * k ∧ 0 < L.cap ∧ Gam E0 (E.set L.b (arr.toList.take (off * k) ++ flatE us cnt ++ arr.toList.drop (off * k + cnt * k)).toArray) (H.set l (.row k t (wrN n off cnt) (wrF f off cnt x))) := by
  obtain ⟨L', hL', ht, hk, hn, hm, hrow⟩ := g.objs _ _ hl
  rw [hL] at hL'
  injection hL' with hL'
  subst hL'
  have hpos : 0 < L.cap := by omega
  obtain ⟨arr, hg, hsz, hel⟩ := hrow hpos
  have hfl : (flatE us cnt).length = cnt * k := flatE_length hus
  have hle : off * k + cnt * k ≤ arr.size := by rw [hsz, ← Nat.add_mul]; exact mul_le_of hcap
  refine ⟨arr, hg, hsz, hpos, gam_set g hL hpos _ ⟨L, hL, ht, hk, ?_, hm, fun _ => ⟨_, setRow_heap E.w L.b arr _ t (0, 0) hg, ?_, fun q hq => ?_⟩⟩⟩
  · unfold wrN; split <;> omega
  · simp [hfl]
    omega
  · have e := ext_set g hL hpos (arr.toList.take (off * k) ++ flatE us cnt ++ arr.toList.drop (off * k + cnt * k)).toArray
    have keep : (q < off ∨ off + cnt ≤ q) → q < n → ∃ ws : List Value, ws.length = k ∧ Rep (E.set L.b (arr.toList.take (off * k) ++ flatE us cnt ++ arr.toList.drop (off * k + cnt * k)).toArray).imm ws (f q) ∧
        ∀ (j : Nat) (u : Value), ws[j]? = some u → (arr.toList.take (off * k) ++ flatE us cnt ++ arr.toList.drop (off * k + cnt * k)).toArray[q * k + j]? = some u := by
      intro hside hqn
      obtain ⟨ws, h1, h2, h3⟩ := hel q hqn
      refine ⟨ws, h1, e.repImm h2, fun j u hu => ?_⟩
      have hj : j < k := by rw [← h1]; exact (List.getElem?_eq_some_iff.1 hu).1
      have hold := h3 j u hu
      rw [List.getElem?_toArray, List.append_assoc, List.getElem?_append]
      simp only [List.length_take, Array.length_toList]
      rw [Nat.min_eq_left (by omega)]
      rcases hside with hlt | hge
      · have := succ_mul_le (k := k) hlt
        rw [if_pos (by omega), List.getElem?_take, if_pos (by omega)]
        simpa using hold
      · have : (off + cnt) * k ≤ q * k := mul_le_of hge
        rw [Nat.add_mul] at this
        rw [if_neg (by omega), List.getElem?_append, if_neg (by omega), List.getElem?_drop, hfl, show off * k + cnt * k + (q * k + j - off * k - cnt * k) = q * k + j by omega]
        simpa using hold
    unfold wrF
    by_cases h1 : q < off
    · rw [if_pos h1]
      exact keep (.inl h1) (by omega)
    · rw [if_neg h1]
      by_cases h2 : q < off + cnt
      · rw [if_pos h2]
        refine ⟨us (q - off), hus _ (by omega), e.repImm (hur _ (by omega)), fun j u hu => ?_⟩
        have hj : j < k := by rw [← hus (q - off) (by omega)]; exact (List.getElem?_eq_some_iff.1 hu).1
        have h3 : off * k ≤ q * k := mul_le_of (by omega)
        have h4 := succ_mul_le (k := k) (show q - off < cnt by omega)
        have h5 : q * k = off * k + (q - off) * k := by rw [← Nat.add_mul]; congr 1; omega
        rw [List.getElem?_toArray, List.append_assoc, List.getElem?_append]
        simp only [List.length_take, Array.length_toList]
        rw [Nat.min_eq_left (by omega), if_neg (by omega), List.getElem?_append, if_pos (by omega), show q * k + j - off * k = (q - off) * k + j by omega, flatE_get hus (by omega) hj]
        exact hu
      · rw [if_neg h2]
        refine keep (.inr (by omega)) ?_
        unfold wrN at hq
        split at hq <;> omega

theorem flat_one {us : Nat → List Value} {x : Nat → AV} {cnt : Nat} (h : ∀ i, i < cnt → Rep E.imm (us i) (x i)) : ∀ u ∈ flatE us cnt, u.oneCell' = true := by
  induction cnt with
  | zero => intro u hu; simp [flatE] at hu
  | succ m ih =>
    intro u hu
    simp only [flatE, List.mem_append] at hu
    rcases hu with hu | hu
    · exact ih (fun i hi => h i (by omega)) u hu
    · exact (h m (by omega)).one u hu

/-- The elements of a slice, as they lie. -/
structure SrcAt (E : Env) (v : Value) (k m : Nat) (f : Nat → AV) (A : Option Addr) (c : Nat) (us : Nat → List Value) (a : Addr) : Prop where
  v : v = .slice A m c
  A : 0 < m → A = some a
  len : ∀ i, i < m → (us i).length = k
  rep : ∀ i, i < m → Rep E.imm (us i) (f i)
  cell : ∀ i, i < m → ∀ (j : Nat) (u : Value), (us i)[j]? = some u → E.w.cell? (a.add (i * k + j)) = some u

theorem src_at (g : Gam E0 E H) {v : Value} {y : AV} {p : Prop} {k m : Nat} {f : Nat → AV} (hy : RepV E v y) (h : srcAt H k y = some (p, m, f)) (hp : p) : ∃ A c us a, SrcAt E v k m f A c us a := by
  obtain ⟨A, c, us, a, h1, h2, h3, h4, h5⟩ := src_spec g hy h hp
  exact ⟨A, c, us, a, ⟨h1, h2, h3, h4, h5⟩⟩

/-- The first elements of a slice, as they lie. -/
structure SrcC (E : Env) (v : Value) (k m cnt : Nat) (f : Nat → AV) (A : Option Addr) (c : Nat) (us : Nat → List Value) (a : Addr) : Prop where
  v : v = .slice A m c
  le : cnt ≤ m
  A : 0 < cnt → A = some a
  len : ∀ i, i < cnt → (us i).length = k
  rep : ∀ i, i < cnt → Rep E.imm (us i) (f i)
  cell : ∀ i, i < cnt → ∀ (j : Nat) (u : Value), (us i)[j]? = some u → E.w.cell? (a.add (i * k + j)) = some u
theorem SrcAt.first {v : Value} {k m : Nat} {f : Nat → AV} {A : Option Addr} {c : Nat} {us : Nat → List Value} {a : Addr} (s : SrcAt E v k m f A c us a) {cnt : Nat} (h : cnt ≤ m) : SrcC E v k m cnt f A c us a :=
  ⟨s.v, h, fun hh => s.A (by omega), fun i hi => s.len i (by omega), fun i hi => s.rep i (by omega), fun i hi => s.cell i (by omega)⟩
/-- What is copied from: of one's own row only what is copied must be known. -/
def srcC (H : List LObj) (k len : Nat) (y : AV) : Option (Prop × Nat × (Nat → AV)) := match y with
  | .own l off m => match H[l]? with
    | some (.row k' _ n f) => if k' = k then some (off + Nat.min m len ≤ n, m, fun i => f (off + i)) else none
    | _ => none
  | y => srcAt H k y
theorem src_c (g : Gam E0 E H) {v : Value} {y : AV} {p : Prop} {k len m : Nat} {f : Nat → AV} (hy : RepV E v y) (h : srcC H k len y = some (p, m, f)) (hp : p) : ∃ A c us a, SrcC E v k m (Nat.min m len) f A c us a := by
  unfold srcC at h
  split at h
  · rename_i l off m'
    split at h
    · rename_i k' t n f' hl
      split at h
      · rename_i hk
        subst hk
        simp only [Option.some.injEq, Prod.mk.injEq] at h
        obtain ⟨rfl, rfl, rfl⟩ := h
        obtain ⟨L, A, hL, hb, hA, rfl⟩ := Rep.own_inv (show Rep E [v] _ from hy)
        by_cases h0 : Nat.min m' len = 0
        · exact ⟨A, L.cap - off, fun _ => [], default, rfl, by omega, by omega, by omega, by omega, by omega⟩
        · have hmin : Nat.min m' len ≤ m' := Nat.min_le_left _ _
          obtain ⟨L2, hL2, _, hLk, hn, _, hrow⟩ := g.objs l _ hl
          obtain rfl : L = L2 := by rw [hL] at hL2; injection hL2
          obtain ⟨arr, harr, hsz, hel⟩ := hrow (by omega)
          have hch := fun i (hi : i < n) => hel i hi
          refine ⟨A, L.cap - off, fun i => if h : off + i < n then (hch (off + i) h).choose else [], ⟨L.b, off * L.k, none⟩, rfl, hmin, fun _ => hA (by omega), fun i hi => ?_, fun i hi => ?_, fun i hi j u hu => ?_⟩
          · rw [dif_pos (by omega)]; exact (hch (off + i) (by omega)).choose_spec.1
          · rw [dif_pos (by omega)]; exact (hch (off + i) (by omega)).choose_spec.2.1
          · rw [dif_pos (by omega)] at hu
            have h3 := (hch (off + i) (by omega)).choose_spec.2.2 j u hu
            rw [addr_add, cell_of_row E.w L.b _ _ _ _ harr, hLk, show off * k' + (i * k' + j) = (off + i) * k' + j by rw [Nat.add_mul]; omega]
            exact h3
      · cases h
    · cases h
  · obtain ⟨A, c, us, a, s⟩ := src_at g hy h hp
    exact ⟨A, c, us, a, s.first (Nat.min_le_left _ _)⟩
theorem SrcC.cells {v : Value} {k m cnt : Nat} {f : Nat → AV} {A : Option Addr} {c : Nat} {us : Nat → List Value} {a : Addr} (s : SrcC E v k m cnt f A c us a) : ∀ (j : Nat) (u : Value), (flatE us cnt)[j]? = some u → E.w.cell? (a.add j) = some u := by
  intro j u hu
  obtain ⟨i, q, hi, hq, rfl, hu'⟩ := flatE_split (fun i hi => s.len i hi) hu
  exact s.cell i hi q u hu'
theorem run_firstC {P : Program} {v : Value} {k m cnt : Nat} {f : Nat → AV} {A : Option Addr} {c : Nat} {us : Nat → List Value} {a : Addr} (s : SrcC E v k m cnt f A c us a) : (Builtin.firstCells k cnt v).run P E.w = .ok (flatE us cnt).toArray E.w := by
  rw [s.v]
  by_cases h : 0 < cnt
  · rw [s.A h]
    exact run_firstCells_some E.w k cnt a m c (flatE us cnt) (flatE_length fun i hi => s.len i hi) s.cells
  · have : cnt = 0 := by omega
    subst this
    cases A <;> simp [Builtin.firstCells, flatE, loadCells, loadCellsFrom]

theorem SrcAt.cells {v : Value} {k m : Nat} {f : Nat → AV} {A : Option Addr} {c : Nat} {us : Nat → List Value} {a : Addr} (s : SrcAt E v k m f A c us a) {cnt : Nat} (hc : cnt ≤ m) : ∀ (j : Nat) (u : Value), (flatE us cnt)[j]? = some u → E.w.cell? (a.add j) = some u := by
  intro j u hu
  obtain ⟨i, q, hi, hq, rfl, hu'⟩ := flatE_split (fun i hi => s.len i (by omega)) hu
  exact s.cell i (by omega) q u hu'

theorem run_first {P : Program} {v : Value} {k m : Nat} {f : Nat → AV} {A : Option Addr} {c : Nat} {us : Nat → List Value} {a : Addr} (s : SrcAt E v k m f A c us a) {cnt : Nat} (hc : cnt ≤ m) : (Builtin.firstCells k cnt v).run P E.w = .ok (flatE us cnt).toArray E.w := by
  rw [s.v]
  cases A with
  | none =>
    have hm : m = 0 := by
      rcases Nat.eq_zero_or_pos m with h | h
      · exact h
      · have := s.A h; cases this
    have : cnt = 0 := by omega
    subst this
    simp [Builtin.firstCells, flatE]
  | some b =>
    by_cases h : 0 < cnt
    · have hb := s.A (by omega)
      injection hb with hb
      subst hb
      exact run_firstCells_some E.w k cnt b m c (flatE us cnt) (flatE_length fun i hi => s.len i (by omega)) (s.cells hc)
    · have : cnt = 0 := by omega
      subst this
      simp [Builtin.firstCells, flatE, loadCells, loadCellsFrom]

/-- Cells stored at an owned row's element. -/
theorem run_store_row (g : Gam E0 E H) {l : Nat} {k : Nat} {t : TypeId} {n : Nat} {f : Nat → AV} (hl : H[l]? = some (.row k t n f)) {L : Loc} (hL : E.loc l = some L) {off cnt : Nat} {us : Nat → List Value} {x : Nat → AV} (hus : ∀ i, i < cnt → (us i).length = k) (hur : ∀ i, i < cnt → Rep E.imm (us i) (x i))
    (h0 : 0 < cnt) (hoff : off ≤ n) (hcap : off + cnt ≤ L.cap) :
    ∃ E' : Env, (storeCells ⟨L.b, off * k, none⟩ (flatE us cnt)).run P E.w = .ok () E'.w ∧ Gam E0 E' (H.set l (.row k t (wrN n off cnt) (wrF f off cnt x))) ∧ Ext E E' ∧ Keep [l] E E' := by
  obtain ⟨arr, hg, hsz, hpos, gg⟩ := row_write g hl hL hus hur h0 hoff hcap
  have hfl : (flatE us cnt).length = cnt * k := flatE_length hus
  have hle : off * k + cnt * k ≤ arr.size := by rw [hsz, ← Nat.add_mul]; exact mul_le_of hcap
  refine ⟨_, ?_, gg, ext_set g hL hpos _, keep_set E hL hpos _⟩
  have := run_storeCells_at P L.b (off * k) t (flatE us cnt) 0 arr E.w hg (by rw [hfl]; omega) (flat_one hur)
  rw [this, Nat.add_zero, hfl]
  rfl

theorem gam_drewX {s : St} {a : Act} (g : GamS E0 E s a) : GamS E0 { E with w := E.w.drew } s a := by
  have e : Ext E { E with w := E.w.drew } := ⟨fun _ h => h, fun _ _ => rfl, fun _ _ h => h⟩
  refine ⟨⟨fun l o hl => (g.objs l o hl).mono e (fun _ _ _ => rfl), g.dom, g.own, g.inj, g.lt, g.up, g.down, ?_, g.stay, g.hm⟩, g.slots.mono e⟩
  exact g.below.next rfl rfl rfl (Nat.le_refl _) (fun _ _ => rfl)

def findCap (l : Nat) : List LObj → Option Nat
  | [] => none
  | .capo q c :: os => match Nat.beq q l with
    | true => some c
    | false => findCap l os
  | _ :: os => findCap l os
theorem findCap_mem {l c : Nat} : ∀ {os : List LObj}, findCap l os = some c → .capo l c ∈ os := by
  intro os
  induction os with
  | nil => intro h; cases h
  | cons o os ih =>
    intro h
    cases o with
    | capo q c' =>
      simp only [findCap] at h
      split at h
      · rename_i hb
        injection h with h
        rw [Nat.eq_of_beq_eq_true hb, h]
        exact List.mem_cons_self
      · exact List.mem_cons_of_mem _ (ih h)
    | _ => exact List.mem_cons_of_mem _ (ih h)
theorem findCap_spec (g : Gam E0 E H) {l c : Nat} (h : findCap l H = some c) : ∃ L, E.loc l = some L ∧ L.cap = c := by
  obtain ⟨q, hq⟩ := List.mem_iff_getElem?.1 (findCap_mem h)
  exact g.objs q _ hq

/-- These come first: they need what is known of one row. -/
def opY (P : Program) (s : St) (o : Oper) : Option (XK → Prop) := match o.op with
  | .call { callee := .builtin .append, args, argTypes } => match args.toList, argTypes.toList with
    | [x, y], [t, t'] => match s.ev x, apInfo P t with
      | .own l 0 i, some (e, k, bytes) => match s.heap[l]? with
        | some (.row k2 e2 n f) => match Nat.beq t t' with
          | true => match s.ev y with
            | .own l' off m => match Nat.beq l l' with
              | true => some fun K => k = k2 ∧ i + m ≤ n ∧ off + m ≤ n ∧ K { s with heap := s.heap.set l (.row k2 e2 (wrN n i m) (wrF f i m fun q => f (off + q))) } (.own l 0 (i + m)) [l]
              | false => none
            | _ => none
          | false => match P.underlying t', s.ev y, findCap l s.heap, zeroOf P e with
            | some (.int _), .pl (.int _ m), some c, some z => some fun K => k = k2 ∧ e = e2 ∧ 0 < m ∧ i ≤ n ∧ c < i + m.toNat ∧ i + m.toNat ≤ maxLen ∧ (i + m.toNat) * bytes ≤ 70368744177664 ∧
                K { s with heap := s.heap ++ [.row k e (i + m.toNat) (fun q => if q < i then f q else z)] } (.own s.heap.length 0 (i + m.toNat)) []
            | _, _, _, _ => none
        | _ => none
      | _, _ => none
    | _, _ => none
  | .call { callee := .builtin .copy, args, argTypes } => match args.toList, argTypes.toList with
    | [x, y], [t, _] => match s.ev x, P.underlying t with
      | .own l off len, some (.slice e) => match s.heap[l]?, szOf P e with
        | some (.row k bt n f), some z => match srcC s.heap k len (s.ev y) with
          | some (p, m, g) => some fun K => z = k ∧ p ∧ off ≤ n ∧ K { s with heap := s.heap.set l (.row k bt (wrN n off (Nat.min m len)) (wrF f off (Nat.min m len) g)) } (.pl (.int .i64 (Nat.min m len : Nat))) [l]
          | none => none
        | _, _ => none
      | _, _ => none
    | _, _ => none
  | .call { callee := .builtin .clear, args, argTypes } => match args.toList, argTypes.toList with
    | [x], [t] => match s.ev x, apInfo P t with
      | .own l off len, some (e, k, _) => match s.heap[l]?, zeroOf P e with
        | some (.row k2 bt n f), some zv => some fun K => k = k2 ∧ off + len ≤ n ∧ K { s with heap := s.heap.set l (.row k2 bt (wrN n off len) (wrF f off len fun _ => zv)) } (.tup []) [l]
        | _, _ => none
      | _, _ => none
    | _, _ => none
  | .slice t x none (some hi) none => match s.ev x, s.ev hi, P.underlying t with
    | .own l 0 _, .pl (.int _ h), some (.slice e) => match findCap l s.heap with
      | some c => match szOf P e with
        | some _ => some fun K => 0 ≤ h ∧ h ≤ c ∧ K s (.own l 0 h.toNat) []
        | none => none
      | none => none
    | _, _, _ => none
  | .slice t x (some lo) (some hi) (some mx) => match s.ev x, s.ev lo, s.ev hi, s.ev mx with
    | .own _ _ len, .pl (.int _ a), .pl (.int _ b), .pl (.int _ m) => match P.underlying t with
      | some (.slice e) => match szOf P e with
        | some _ => some fun K => 0 ≤ a ∧ a ≤ b ∧ b ≤ m ∧ m ≤ len ∧ K s .any []
        | none => none
      | _ => none
    | _, _, _, _ => none
  | _ => none

theorem does_call {s s' : St} {a : Act} {o : Oper} {K : XK} {b : Builtin} {args : Array Operand} {argTypes : Array TypeId} (_ : o.op = .call { callee := .builtin b, args := args, argTypes := argTypes }) {v : Value} {x : AV} {E' : Env} {tl : List Nat}
    (hrun : (execOp a.eval o).run P E.w = .ok (.value v) E'.w) (hK : K s' x tl) (g' : GamS E0 E' s' a) (hv : RepV E' v x) (hk : Keep tl E E') : DoesX P E0 E s a o K := does_val hrun hK g' hv hk

theorem exec_append {a : Act} {o : Oper} {x y : Operand} {t t' : TypeId} {args : Array Operand} {argTypes : Array TypeId} (ho : o.op = .call { callee := .builtin .append, args := args, argTypes := argTypes }) (h1 : args.toList = [x, y]) (h2 : argTypes.toList = [t, t']) {v : Value} {w w' : World}
    (h : (Builtin.append_ #[t, t'] o.type #[a.eval x, a.eval y]).run P w = .ok v w') : (execOp a.eval o).run P w = .ok (.value v) w' := by
  have e1 : args = #[x, y] := by rw [← h1]
  have e2 : argTypes = #[t, t'] := by rw [← h2]
  subst e1 e2
  simp only [execOp, ho, resolve, invoke, builtin, Sem.run_bind, Sem.run_pure, Result.andThen_ok, List.map_toArray, List.map_cons, List.map_nil, h]
theorem exec_copy {a : Act} {o : Oper} {x y : Operand} {t t' : TypeId} {args : Array Operand} {argTypes : Array TypeId} (ho : o.op = .call { callee := .builtin .copy, args := args, argTypes := argTypes }) (h1 : args.toList = [x, y]) (h2 : argTypes.toList = [t, t']) {v : Value} {w w' : World}
    (h : (Builtin.copy_ #[t, t'] o.type #[a.eval x, a.eval y]).run P w = .ok v w') : (execOp a.eval o).run P w = .ok (.value v) w' := by
  have e1 : args = #[x, y] := by rw [← h1]
  have e2 : argTypes = #[t, t'] := by rw [← h2]
  subst e1 e2
  simp only [execOp, ho, resolve, invoke, builtin, Sem.run_bind, Sem.run_pure, Result.andThen_ok, List.map_toArray, List.map_cons, List.map_nil, h]
theorem exec_clear {a : Act} {o : Oper} {x : Operand} {t : TypeId} {args : Array Operand} {argTypes : Array TypeId} (ho : o.op = .call { callee := .builtin .clear, args := args, argTypes := argTypes }) (h1 : args.toList = [x]) (h2 : argTypes.toList = [t]) {v : Value} {w w' : World}
    (h : (Builtin.clear_ #[t] o.type #[a.eval x]).run P w = .ok v w') : (execOp a.eval o).run P w = .ok (.value v) w' := by
  have e1 : args = #[x] := by rw [← h1]
  have e2 : argTypes = #[t] := by rw [← h2]
  subst e1 e2
  simp only [execOp, ho, resolve, invoke, builtin, Sem.run_bind, Sem.run_pure, Result.andThen_ok, List.map_toArray, List.map_cons, List.map_nil, h]

theorem wr_zero (f : Nat → AV) (n off : Nat) (x : Nat → AV) (h : off ≤ n) : wrN n off 0 = n ∧ wrF f off 0 x = f := by
  refine ⟨by unfold wrN; split <;> omega, funext fun q => ?_⟩
  unfold wrF
  split
  · rfl
  · rw [if_neg (by omega)]

theorem set_self {l : Nat} {o : LObj} (h : H[l]? = some o) : H.set l o = H := by
  apply List.ext_getElem?
  intro i
  rw [List.getElem?_set]
  split
  · rename_i he; subst he; split
    · exact h.symm
    · rename_i hlt; rw [List.getElem?_eq_none (by omega)]
  · rfl

/-- The store, or nothing where nothing is to be stored. -/
theorem store_or {s : St} {a : Act} (g : GamS E0 E s a) {l : Nat} {k : Nat} {t : TypeId} {n : Nat} {f : Nat → AV} (hl : s.heap[l]? = some (.row k t n f)) {L : Loc} (hL : E.loc l = some L) {off cnt : Nat} {us : Nat → List Value} {x : Nat → AV} (hus : ∀ i, i < cnt → (us i).length = k) (hur : ∀ i, i < cnt → Rep E.imm (us i) (x i))
    (hoff : off ≤ n) (hcap : off + cnt ≤ L.cap) {A : Option Addr} (hA : 0 < cnt → A = some ⟨L.b, off * k, none⟩) :
    ∃ E' : Env, (match A with | some b => storeCells b (flatE us cnt) | none => pure () : Sem Unit).run P E.w = .ok () E'.w ∧ GamS E0 E' { s with heap := s.heap.set l (.row k t (wrN n off cnt) (wrF f off cnt x)) } a ∧ Ext E E' ∧ Keep [l] E E' := by
  rcases Nat.eq_zero_or_pos cnt with h0 | h0
  · subst h0
    obtain ⟨e1, e2⟩ := wr_zero f n off x hoff
    rw [e1, e2, set_self hl]
    refine ⟨E, ?_, g, Ext.refl E, Keep.refl _ _⟩
    cases A <;> simp [flatE, storeCells]
  · obtain rfl := hA h0
    obtain ⟨E', h1, h2, h3, h4⟩ := run_store_row (P := P) g.toGam hl hL hus hur h0 hoff hcap
    exact ⟨E', h1, ⟨h2, g.slots.mono h3⟩, h3, h4⟩

theorem own_loc {v : Value} {l off n : Nat} {o : LObj} (_ : Gam E0 E H) (h : RepV E v (.own l off n)) (_ : H[l]? = some o) : ∃ L A, E.loc l = some L ∧ off + n ≤ L.cap ∧ (off < L.cap → A = some ⟨L.b, off * L.k, none⟩) ∧ v = .slice A n (L.cap - off) :=
  Rep.own_inv (show Rep E [v] (.own l off n) from h)

theorem szOf_info {t : TypeId} {z : Nat} (h : szOf P t = some z) : ∃ i, P.info? t = some i ∧ i.size = z := by
  unfold szOf at h
  split at h
  · rename_i i hi
    injection h with h
    exact ⟨i, hi, h⟩
  · cases h

/-- append(s[:i], s[j:]...): in its place. -/
theorem does_appendIn {s : St} {a : Act} {o : Oper} (g : GamS E0 E s a) {x y : Operand} {t : TypeId} {args : Array Operand} {argTypes : Array TypeId} (ho : o.op = .call { callee := .builtin .append, args := args, argTypes := argTypes }) (h1 : args.toList = [x, y]) (h2 : argTypes.toList = [t, t])
    {l i off m n k bytes : Nat} {e e2 : TypeId} {f : Nat → AV} (hx : s.ev x = .own l 0 i) (hy : s.ev y = .own l off m) (hap : apInfo P t = some (e, k, bytes)) (hl : s.heap[l]? = some (.row k e2 n f)) (hi : i + m ≤ n) (hm : off + m ≤ n) {K : XK}
    (hK : K { s with heap := s.heap.set l (.row k e2 (wrN n i m) (wrF f i m fun q => f (off + q))) } (.own l 0 (i + m)) [l]) : DoesX P E0 E s a o K := by
  obtain ⟨hu, inf, zv, hinf, hz, hisz, hby, hzs, hk0⟩ := apInfo_spec hap
  have hxv := g.slots.ev x
  rw [hx] at hxv
  obtain ⟨L, A, hL, hb, hA, hxv⟩ := own_loc g.toGam hxv hl
  obtain ⟨L', hL', ht, hk, hn, hmx, _⟩ := g.objs _ _ hl
  rw [hL] at hL'
  injection hL' with hL'
  subst hL'
  have hyv := g.slots.ev y
  rw [hy] at hyv
  obtain ⟨A2, c2, us, a2, src⟩ := src_at (k := k) (p := off + m ≤ n) (m := m) (f := fun q => f (off + q)) g.toGam hyv (by simp only [srcAt, srcOf, hl, if_true]) hm
  obtain ⟨E', hst, g', he, hkp⟩ := store_or (P := P) g hl hL (off := i) (cnt := m) (us := us) (x := fun q => f (off + q)) src.len src.rep (by omega) (by omega) (A := A.map fun b => b.add (i * k)) (fun h => by
    rw [hA (by omega)]
    simp [addr_add, hk])
  refine does_val (v := .slice A (i + m) L.cap) (E' := E') (exec_append ho h1 h2 ?_) hK g' ?_ hkp
  · have hfirst := run_first (P := P) src (Nat.le_refl m)
    rw [src.v] at hfirst
    rw [hxv, src.v]
    have hneed : i + m ≤ L.cap := by omega
    simp only [Builtin.append_, List.getElem?_toArray, List.getElem?_cons_zero, List.getElem?_cons_succ, Sem.run_bind, run_underlying hu, Result.andThen_ok, sizeOf, typeInfo, run_program, hinf, Builtin.lenOf, Sem.run_pure, Nat.sub_zero, hisz, hneed, if_true, hfirst, Sem.run_ite]
    cases A with
    | none =>
      simp only [Option.map_none] at hst
      have hE : E.w = E'.w := by simpa using hst
      simp [hE]
    | some b =>
      simp only [Option.map_some] at hst
      simp [hst]
  · have := Rep.own (E := E') (l := l) (off := 0) (len := i + m) (he.loc _ _ hL) (by omega) (A := A) (fun h => by
      have := hA h
      simpa using this)
    simpa [RepV, RepV1] using this

/-- append(s[:i], make([]T, m)...) where there is no room: a new row. -/
theorem does_appendZeros {s : St} {a : Act} {o : Oper} (g : GamS E0 E s a) {x y : Operand} {t t' : TypeId} {args : Array Operand} {argTypes : Array TypeId} (ho : o.op = .call { callee := .builtin .append, args := args, argTypes := argTypes }) (h1 : args.toList = [x, y]) (h2 : argTypes.toList = [t, t'])
    {l i n k bytes c : Nat} {m : Int} {ki ki' : IntKind} {e : TypeId} {f : Nat → AV} {z : AV} (hx : s.ev x = .own l 0 i) (hy : s.ev y = .pl (.int ki m)) (hap : apInfo P t = some (e, k, bytes)) (hu' : P.underlying t' = some (.int ki')) (hl : s.heap[l]? = some (.row k e n f)) (hc : findCap l s.heap = some c) (hz : zeroOf P e = some z)
    (hm0 : 0 < m) (hi : i ≤ n) (hlt : c < i + m.toNat) (hmx : i + m.toNat ≤ maxLen) (hby : (i + m.toNat) * bytes ≤ 70368744177664) {K : XK}
    (hK : K { s with heap := s.heap ++ [.row k e (i + m.toNat) (fun q => if q < i then f q else z)] } (.own s.heap.length 0 (i + m.toNat)) []) : DoesX P E0 E s a o K := by
  obtain ⟨hu, inf, zv, hinf, hzi, hisz, hbyi, hzs, hk0⟩ := apInfo_spec hap
  obtain ⟨p, rfl⟩ := Int.eq_ofNat_of_zero_le (show 0 ≤ m by omega)
  simp only [Int.toNat_natCast] at hlt hmx hby hK
  have hp0 : 0 < p := by omega
  have hxv := g.slots.ev x
  rw [hx] at hxv
  obtain ⟨L, A, hL, hb, hA, hxv⟩ := own_loc g.toGam hxv hl
  obtain ⟨L0, hL0, hc0⟩ := findCap_spec g.toGam hc
  rw [hL] at hL0
  injection hL0 with hL0
  subst hL0
  obtain ⟨L', hL', ht, hk, hn, hmxc, hrow⟩ := g.objs _ _ hl
  rw [hL] at hL'
  injection hL' with hL'
  subst hL'
  have hyv : a.eval y = .int ki p := by have := g.slots.ev y; rw [hy] at this; exact repV_pl this
  -- what was there
  obtain ⟨A2, c2, us, a2, src⟩ := src_at (E := E) (k := k) (p := 0 + i ≤ n) (m := i) (f := fun q => f (0 + q)) (v := a.eval x) (y := .own l 0 i) g.toGam (by rw [← hx]; exact g.slots.ev x) (by simp only [srcAt, srcOf, hl, if_true]) (by omega)
  have hfirst := run_first (P := P) src (Nat.le_refl i)
  have hfirst' : (Builtin.firstCells k i (a.eval x)).run P E.w.drew = .ok (flatE us i).toArray E.w.drew := by
    have e1 : Ext E ({ E with w := E.w.drew } : Env) := ⟨fun _ h => h, fun _ _ => rfl, fun _ _ h => h⟩
    have src' : SrcAt ({ E with w := E.w.drew } : Env) (a.eval x) k i (fun q => f (0 + q)) A2 c2 us a2 := ⟨src.v, src.A, src.len, fun j hj => (src.rep j hj).mono e1.imm, src.cell⟩
    exact run_first (P := P) src' (Nat.le_refl i)
  rw [hxv, Nat.sub_zero] at hfirst'
  have hul : (flatE us i).length = i * k := flatE_length src.len
  have hnew : ∃ zs : List Value, zs.length = k ∧ zv.cells.toList = zs ∧ ∀ E' : Env, Rep E'.imm zs z := by
    unfold zeroOf at hz
    rw [hinf] at hz
    simp only [hzi] at hz
    split at hz
    · rename_i us9 he9
      injection he9 with he9
      subst he9
      split at hz
      · rename_i cs hcs
        split at hz
        · rename_i hm9
          injection hz with hz
          subst hz
          exact ⟨us9.toList, by simpa [Value.cells] using hzs, by simp [Value.cells], fun E' => rep_matchCells hm9⟩
        · cases hz
      · cases hz
    · cases hz
    · rename_i v9 hna9 hnt9 he9
      injection he9 with he9
      subst he9
      split at hz
      · rename_i hone
        injection hz with hz
        subst hz
        have hcells : zv.cells.toList = [zv] := by cases zv <;> simp [Value.oneCell', Value.cells] at hone ⊢
        refine ⟨[zv], ?_, hcells, fun E' => .pl _ hone⟩
        rw [← hcells]
        simpa using hzs
      · cases hz
    · rename_i he9; cases he9
  obtain ⟨zs, hzl, hzc, hzrep⟩ := hnew
  have h63 : ((i + p : Nat) : Int) ≤ 9223372036854775807 := by unfold maxLen at hmx; omega
  have hnext : Builtin.nextslicecap (i + p) L.cap * inf.bytes ≤ 281474976710656 := by
    have hle : Builtin.nextslicecap (i + p) L.cap ≤ 4 * (i + p) := by
      unfold Builtin.nextslicecap
      split
      · omega
      · split
        · omega
        · have key : ∀ (r q : Nat), Builtin.growBy (i + p) r q ≤ max q (4 * (i + p)) ∨ True := fun _ _ => .inr trivial
          have hgrow : ∀ (r q : Nat), q ≤ 4 * (i + p) → Builtin.growBy (i + p) r q ≤ 4 * (i + p) := by
            intro r
            induction r with
            | zero => intro q hq; exact hq
            | succ r ih =>
              intro q hq
              simp only [Builtin.growBy]
              split
              · exact hq
              · exact ih _ (by omega)
          exact hgrow 4 _ (by omega)
    rw [hbyi]
    calc Builtin.nextslicecap (i + p) L.cap * bytes ≤ 4 * (i + p) * bytes := Nat.mul_le_mul_right _ hle
      _ = 4 * ((i + p) * bytes) := Nat.mul_assoc _ _ _
      _ ≤ 281474976710656 := by omega
  have h48 : p * inf.bytes ≤ 281474976710656 := by
    rw [hbyi]
    have : p * bytes ≤ (i + p) * bytes := Nat.mul_le_mul_right _ (by omega)
    omega
  have hrun := Lib.run_append_grow_zeros (P := P) E.w t t' o.type e inf zv ki ki' hu hu' hinf hzi A i L.cap (flatE us i) (by rw [hisz]; exact hfirst') p hp0 (by rw [hisz]; exact hk0) (by omega) h63 h48 hnext
  -- the new row
  let cap := grownCap E.w (i + p) L.cap e
  have hcap1 : i + p ≤ cap := grownCap_ge _ _ _ _
  have hcap2 : cap ≤ maxLen := grownCap_le_maxLen _ _ _ _ hmx
  have hzsize : zv.cells.size = k := hzs
  have hzcells : ∀ r, (Builtin.zeroCells zv.cells r).size = r * k := fun r => by simp [Builtin.zeroCells, hzsize]
  have hzget : ∀ (r q j : Nat), q < r → j < k → (Builtin.zeroCells zv.cells r)[q * k + j]? = zs[j]? := by
    intro r q j hq hj
    have hlt2 : q * k + j < r * k := by have := succ_mul_le (k := k) hq; omega
    have hmod : (q * k + j) % k = j := by rw [Nat.add_comm, Nat.add_mul_mod_self_right, Nat.mod_eq_of_lt hj]
    simp only [Builtin.zeroCells, hzsize, Array.getElem?_map, Array.getElem?_range, hlt2, if_true, Option.map_some]
    rw [hmod, ← hzc]
    have hj2 : j < zv.cells.size := by omega
    simp [hj2]
  let arr : Array Value := (flatE us i).toArray ++ Builtin.zeroCells zv.cells p ++ Builtin.zeroCells zv.cells (cap - (i + p))
  have harr : arr.size = cap * k := by
    simp only [arr, Array.size_append, List.size_toArray, hul, hzcells]
    rw [← Nat.add_mul, ← Nat.add_mul]
    congr 1
    omega
  let Ed : Env := { E with w := E.w.drew }
  have gd : Gam E0 Ed s.heap := (gam_drewX g).toGam
  have e1 := ext_new gd (.cells arr e) k cap e
  have hdrew : Ext E Ed := ⟨fun _ h => h, fun _ _ => rfl, fun _ _ h => h⟩
  have hobj : ObjOk (Ed.new s.heap.length (.cells arr e) k cap e) s.heap.length (.row k e (i + p) (fun q => if q < i then f q else z)) := by
    refine ⟨⟨E.w.heap.size, k, cap, e⟩, by simp [Env.new, Ed], rfl, rfl, hcap1, hcap2, fun _ => ⟨arr, heap_alloc_new Ed.w _, harr, fun q hq => ?_⟩⟩
    by_cases hqi : q < i
    · refine ⟨us q, src.len q hqi, ?_, fun j u hu => ?_⟩
      · dsimp only
        rw [if_pos hqi]
        have := (src.rep q hqi).mono (hdrew.trans e1).imm
        simpa using this
      · have hj : j < k := by rw [← src.len q hqi]; exact (List.getElem?_eq_some_iff.1 hu).1
        have hlt2 : q * k + j < i * k := by have := succ_mul_le (k := k) hqi; omega
        simp only [arr]
        rw [Array.getElem?_append_left (by simp [hul, hzcells]; omega), Array.getElem?_append_left (by simp [hul]; omega), List.getElem?_toArray, flatE_get src.len hqi hj]
        exact hu
    · refine ⟨zs, hzl, ?_, fun j u hu => ?_⟩
      · dsimp only
        rw [if_neg hqi]
        exact hzrep _
      · have hj : j < k := by rw [← hzl]; exact (List.getElem?_eq_some_iff.1 hu).1
        have h3 : i * k ≤ q * k := mul_le_of (by omega)
        have h4 : q * k = i * k + (q - i) * k := by rw [← Nat.add_mul]; congr 1; omega
        have h5 := succ_mul_le (k := k) (show q - i < p by omega)
        simp only [arr]
        rw [Array.getElem?_append_left (by simp [hul, hzcells]; omega), Array.getElem?_append_right (by simp [hul]; omega)]
        simp only [List.size_toArray, hul]
        rw [show q * k + j - i * k = (q - i) * k + j by omega, hzget p (q - i) j (by omega) hj]
        exact hu
  refine does_val (v := .slice (some ⟨E.w.heap.size, 0, none⟩) (i + p) cap) (E' := Ed.new s.heap.length (.cells arr e) k cap e) (exec_append ho h1 h2 ?_) hK ⟨gam_new gd (.cells arr e) k cap e hobj, (g.slots.mono hdrew).mono e1⟩ ?_ ?_
  · rw [hxv, hyv, Nat.sub_zero]
    exact hrun
  · have := Rep.own (E := Ed.new s.heap.length (.cells arr e) k cap e) (l := s.heap.length) (off := 0) (len := i + p) (L := ⟨E.w.heap.size, k, cap, e⟩) (A := some ⟨E.w.heap.size, 0, none⟩) (by simp [Env.new, Ed]) (by simpa using hcap1) (fun _ => by simp)
    simpa [RepV, RepV1] using this
  · refine ⟨rfl, rfl, rfl, by simp [Env.new, Ed], fun b hb _ => Below.heap_alloc Ed.w _ b hb, fun q L' hL' hc' => ?_⟩
    simp only [Env.new] at hL'
    split at hL'
    · injection hL' with hL'
      subst hL'
      exact .inl (Nat.le_refl _)
    · exact .inr ⟨q, L', .inl rfl, hL', hc', rfl⟩

theorem does_copy {s : St} {a : Act} {o : Oper} (g : GamS E0 E s a) {x y : Operand} {t t' : TypeId} {args : Array Operand} {argTypes : Array TypeId} (ho : o.op = .call { callee := .builtin .copy, args := args, argTypes := argTypes }) (h1 : args.toList = [x, y]) (h2 : argTypes.toList = [t, t'])
    {l off len n m k : Nat} {e bt : TypeId} {f gf : Nat → AV} {p : Prop} (hx : s.ev x = .own l off len) (hu : P.underlying t = some (.slice e)) (hl : s.heap[l]? = some (.row k bt n f)) (hz : szOf P e = some k) (hs : srcC s.heap k len (s.ev y) = some (p, m, gf)) (hp : p) (hoff : off ≤ n) {K : XK}
    (hK : K { s with heap := s.heap.set l (.row k bt (wrN n off (Nat.min m len)) (wrF f off (Nat.min m len) gf)) } (.pl (.int .i64 (Nat.min m len : Nat))) [l]) : DoesX P E0 E s a o K := by
  have hxv := g.slots.ev x
  rw [hx] at hxv
  obtain ⟨L, A, hL, hb, hA, hxv⟩ := own_loc g.toGam hxv hl
  obtain ⟨L', hL', ht, hk, hn, hmx, _⟩ := g.objs _ _ hl
  rw [hL] at hL'
  injection hL' with hL'
  subst hL'
  obtain ⟨A2, c2, us, a2, src⟩ := src_c g.toGam (g.slots.ev y) hs hp
  have hcl : Nat.min m len ≤ len := Nat.min_le_right _ _
  obtain ⟨E', hst, g', he, hkp⟩ := store_or (P := P) g hl hL (off := off) (cnt := Nat.min m len) (us := us) (x := gf) (fun i hi => src.len i (by omega)) (fun i hi => src.rep i (by omega)) hoff (by omega) (A := A) (fun h => by rw [hA (by omega), hk])
  refine does_val (v := .int .i64 (Nat.min m len : Nat)) (E' := E') (exec_copy ho h1 h2 ?_) hK g' (Rep.pl _ rfl) hkp
  have hfirst := run_firstC (P := P) src
  rw [src.v] at hfirst
  rw [hxv, src.v]
  simp only [Builtin.copy_, List.getElem?_toArray, List.getElem?_cons_zero, List.getElem?_cons_succ, Sem.run_bind, run_underlying hu, Result.andThen_ok, Builtin.lenOf, Sem.run_pure, run_sizeOf hz, hfirst]
  cases A with
  | none =>
    have hE : E.w = E'.w := by simpa using hst
    simp [hE, goInt]
  | some b =>
    simp only at hst ⊢
    simp [hst, goInt]

theorem zero_cells {e : TypeId} {inf : TypeInfo} {zv : Value} {z : AV} (hinf : P.info? e = some inf) (hzi : inf.zero = some zv) (hz : zeroOf P e = some z) (E' : Env) : Rep E'.imm zv.cells.toList z := by
  unfold zeroOf at hz
  rw [hinf] at hz
  simp only [hzi] at hz
  split at hz
  · rename_i us9 he9
    injection he9 with he9
    subst he9
    split at hz
    · rename_i cs hcs
      split at hz
      · rename_i hm9
        injection hz with hz
        subst hz
        simpa [Value.cells] using rep_matchCells (E := E'.imm) hm9
      · cases hz
    · cases hz
  · cases hz
  · rename_i v9 hna9 hnt9 he9
    injection he9 with he9
    subst he9
    split at hz
    · rename_i hone
      injection hz with hz
      subst hz
      have hcells : zv.cells.toList = [zv] := by cases zv <;> simp [Value.oneCell', Value.cells] at hone ⊢
      rw [hcells]
      exact .pl _ hone
    · cases hz
  · rename_i he9; cases he9

theorem flat_zero {zs : List Value} : ∀ n : Nat, flatE (fun _ => zs) n = (List.replicate n zs).flatten := by
  intro n
  induction n with
  | zero => rfl
  | succ n ih => rw [flatE, ih, List.replicate_succ', List.flatten_append]; simp

theorem zeroCells_flat (c : Array Value) (n : Nat) : (Builtin.zeroCells c n).toList = flatE (fun _ => c.toList) n := by
  by_cases h0 : c.size = 0
  · have : c = #[] := Array.eq_empty_of_size_eq_zero h0
    subst this
    rw [flat_zero]
    simp [Builtin.zeroCells]
  · apply List.ext_getElem?
    intro q
    have hlen : (flatE (fun _ => c.toList) n).length = n * c.size := flatE_length (fun i hi => by simp)
    by_cases hq : q < n * c.size
    · have hk : 0 < c.size := by omega
      have hd : q / c.size < n := Nat.div_lt_of_lt_mul (by rwa [Nat.mul_comm] at hq)
      have hm : q % c.size < c.size := Nat.mod_lt _ hk
      have hq2 : q = q / c.size * c.size + q % c.size := by rw [Nat.mul_comm]; exact (Nat.div_add_mod q c.size).symm
      have := flatE_get (us := fun _ => c.toList) (k := c.size) (n := n) (fun i hi => by simp) hd hm
      rw [← hq2] at this
      rw [this]
      simp [Builtin.zeroCells, hq, hm]
    · rw [List.getElem?_eq_none (by simp [Builtin.zeroCells]; omega), List.getElem?_eq_none (by omega)]

theorem does_clear {s : St} {a : Act} {o : Oper} (g : GamS E0 E s a) {x : Operand} {t : TypeId} {args : Array Operand} {argTypes : Array TypeId} (ho : o.op = .call { callee := .builtin .clear, args := args, argTypes := argTypes }) (h1 : args.toList = [x]) (h2 : argTypes.toList = [t])
    {l off len n k bytes : Nat} {e bt : TypeId} {f : Nat → AV} {z : AV} (hx : s.ev x = .own l off len) (hap : apInfo P t = some (e, k, bytes)) (hl : s.heap[l]? = some (.row k bt n f)) (hz : zeroOf P e = some z) (hoff : off + len ≤ n) {K : XK}
    (hK : K { s with heap := s.heap.set l (.row k bt (wrN n off len) (wrF f off len fun _ => z)) } (.tup []) [l]) : DoesX P E0 E s a o K := by
  obtain ⟨hu, inf, zv, hinf, hzi, hisz, hbyi, hzs, hk0⟩ := apInfo_spec hap
  have hxv := g.slots.ev x
  rw [hx] at hxv
  obtain ⟨L, A, hL, hb, hA, hxv⟩ := own_loc g.toGam hxv hl
  obtain ⟨L', hL', ht, hk, hn, hmx, _⟩ := g.objs _ _ hl
  rw [hL] at hL'
  injection hL' with hL'
  subst hL'
  obtain ⟨E', hst, g', he, hkp⟩ := store_or (P := P) g hl hL (off := off) (cnt := len) (us := fun _ => zv.cells.toList) (x := fun _ => z) (fun i hi => by simpa using hzs) (fun i hi => zero_cells hinf hzi hz E) (by omega) (by omega) (A := A) (fun h => by rw [hA (by omega), hk])
  refine does_val (v := .tuple #[]) (E' := E') (exec_clear ho h1 h2 ?_) hK g' ⟨[], rfl, rfl, fun i u y hu => by simp at hu⟩ hkp
  rw [hxv]
  simp only [Builtin.clear_, List.getElem?_toArray, List.getElem?_cons_zero, Sem.run_bind, run_underlying hu, Result.andThen_ok]
  cases A with
  | none =>
    have hE : E.w = E'.w := by simpa using hst
    simp [hE]
  | some b =>
    rcases Nat.eq_zero_or_pos len with h0 | h0
    · subst h0
      have hE : E.w = E'.w := by simpa [flatE, storeCells] using hst
      simp [hE]
    · obtain ⟨len', rfl⟩ : ∃ q, len = q + 1 := ⟨len - 1, by omega⟩
      simp only at hst
      have hzr : (zeroValue e).run P E.w = .ok zv E.w := by simp [zeroValue, typeInfo, hinf, hzi]
      simp only [Sem.run_bind, hzr, Result.andThen_ok, zeroCells_flat, hst, Sem.run_pure]

/-- s[:h], h beyond the length, within the room. -/
theorem does_ext {s : St} {a : Act} {o : Oper} (g : GamS E0 E s a) {x hi : Operand} {t e : TypeId} (ho : o.op = .slice t x none (some hi) none) {l len c : Nat} {h : Int} {ki : IntKind} (hx : s.ev x = .own l 0 len) (hh : s.ev hi = .pl (.int ki h)) (hu : P.underlying t = some (.slice e)) {z : Nat} (hz : szOf P e = some z) (hc : findCap l s.heap = some c)
    (h0 : 0 ≤ h) (h1 : h ≤ c) {K : XK} (hK : K s (.own l 0 h.toNat) []) : DoesX P E0 E s a o K := by
  have hxv := g.slots.ev x
  rw [hx] at hxv
  obtain ⟨L, A, hL, hb, hA, hxv⟩ := Rep.own_inv (show Rep E [_] (.own l 0 len) from hxv)
  obtain ⟨L0, hL0, hc0⟩ := findCap_spec g.toGam hc
  rw [hL] at hL0
  injection hL0 with hL0
  subst hL0
  obtain ⟨p, rfl⟩ := Int.eq_ofNat_of_zero_le h0
  have hhv : a.eval hi = .int ki p := by have := g.slots.ev hi; rw [hh] at this; exact repV_pl this
  refine does_val (v := .slice (if L.cap = 0 then A else A.map fun b => b.add (0 * z)) p L.cap) (E' := E) ?_ hK g ?_ (Keep.refl _ _)
  · have hb2 : (Instr.sliceBounds true len L.cap none (some (.int ki p)) none).run P E.w = .ok (0, p, L.cap) E.w := by
      have := run_bounds (P := P) E.w true len L.cap (vlo := none) (vhi := some (.int ki p)) (l := 0) (h := p) (.inl ⟨rfl, rfl⟩) (.inr ⟨ki, rfl⟩) (by omega) (by omega) (by omega)
      simpa using this
    have hsl : (Instr.slice t (.slice A len L.cap) none (some (.int ki p)) none).run P E.w = .ok (.slice (if L.cap = 0 then A else A.map fun b => b.add (0 * z)) p L.cap) E.w := by
      simp only [Instr.slice, Sem.run_bind, run_underlying hu, Result.andThen_ok, hb2, run_sizeOf hz, Sem.run_pure]
      simp
    simp only [execOp, ho, Option.map_none, Option.map_some, hxv, hhv, Nat.sub_zero, Instr.sliceAt, Sem.run_bind, run_underlying hu, Result.andThen_ok, hsl, Sem.run_pure]
  · have := Rep.own (E := E) (l := l) (off := 0) (len := p) hL (by omega) (A := if L.cap = 0 then A else A.map fun b => b.add (0 * z)) (fun h => by
      rw [if_neg (by omega), hA h]
      simp [addr_add])
    simpa [RepV, RepV1] using this

/-- s[a:b:m], of which nothing is known but that it is. -/
theorem does_full {s : St} {a : Act} {o : Oper} (g : GamS E0 E s a) {x lo hi mx : Operand} {t e : TypeId} (ho : o.op = .slice t x (some lo) (some hi) (some mx)) {l off len : Nat} {u v m : Int} {k1 k2 k3 : IntKind} (hx : s.ev x = .own l off len) (hlo : s.ev lo = .pl (.int k1 u)) (hhi : s.ev hi = .pl (.int k2 v)) (hmx : s.ev mx = .pl (.int k3 m))
    (hu : P.underlying t = some (.slice e)) {z : Nat} (hz : szOf P e = some z) (h0 : 0 ≤ u) (h1 : u ≤ v) (h2 : v ≤ m) (h3 : m ≤ len) {K : XK} (hK : K s .any []) : DoesX P E0 E s a o K := by
  have hxv := g.slots.ev x
  rw [hx] at hxv
  obtain ⟨L, A, hL, hb, hA, hxv⟩ := Rep.own_inv (show Rep E [_] (.own l off len) from hxv)
  have hlv : a.eval lo = .int k1 u := by have := g.slots.ev lo; rw [hlo] at this; exact repV_pl this
  have hhv : a.eval hi = .int k2 v := by have := g.slots.ev hi; rw [hhi] at this; exact repV_pl this
  have hmv : a.eval mx = .int k3 m := by have := g.slots.ev mx; rw [hmx] at this; exact repV_pl this
  obtain ⟨u, rfl⟩ := Int.eq_ofNat_of_zero_le h0
  obtain ⟨v, rfl⟩ := Int.eq_ofNat_of_zero_le (show 0 ≤ v by omega)
  obtain ⟨m, rfl⟩ := Int.eq_ofNat_of_zero_le (show 0 ≤ m by omega)
  have hb2 : (Instr.sliceBounds true len (L.cap - off) (some (.int k1 u)) (some (.int k2 v)) (some (.int k3 m))).run P E.w = .ok (u, v, m) E.w := by
    have a1 := run_sliceBound (P := P) E.w k3 m (L.cap - off) .slice3Acap (by omega) (by omega)
    have a2 := run_sliceBound (P := P) E.w k2 v m .slice3B (by omega) (by omega)
    have a3 := run_sliceBound (P := P) E.w k1 u v .slice3C (by omega) (by omega)
    simp [Instr.sliceBounds, a1, a2, a3]
  refine does_val (v := .slice (if m = u then A else A.map fun b => b.add (u * z)) (v - u) (m - u)) (E' := E) ?_ hK g trivial (Keep.refl _ _)
  have hsl : (Instr.slice t (.slice A len (L.cap - off)) (some (.int k1 u)) (some (.int k2 v)) (some (.int k3 m))).run P E.w = .ok (.slice (if m = u then A else A.map fun b => b.add (u * z)) (v - u) (m - u)) E.w := by
    simp only [Instr.slice, Sem.run_bind, run_underlying hu, Result.andThen_ok, hb2, run_sizeOf hz, Sem.run_pure]
  simp only [execOp, ho, Option.map_some, hxv, hlv, hhv, hmv, Instr.sliceAt, Sem.run_bind, run_underlying hu, Result.andThen_ok, hsl, Sem.run_pure]

theorem run_opY {s : St} {a : Act} {o : Oper} {F : XK → Prop} (g : GamS E0 E s a) (h : opY P s o = some F) {K : XK} (hF : F K) : DoesX P E0 E s a o K := by
  unfold opY at h
  split at h
  · rename_i args argTypes ho
    split at h
    · rename_i x y t t' h1 h2
      split at h
      · rename_i l i e k bytes hx hap
        split at h
        · rename_i k2 e2 n f hl
          split at h
          · rename_i hb
            have := Nat.eq_of_beq_eq_true hb
            subst this
            split at h
            · rename_i l' off m hy
              split at h
              · rename_i hb2
                have := Nat.eq_of_beq_eq_true hb2
                subst this
                injection h with h
                subst h
                obtain ⟨rfl, hi, hm, hK⟩ := hF
                exact does_appendIn g ho h1 h2 hx hy hap hl hi hm hK
              · cases h
            · cases h
          · split at h
            · rename_i ki' ki m c z hu' hy hc hz
              injection h with h
              subst h
              obtain ⟨rfl, rfl, hm0, hi, hlt, hmx, hby, hK⟩ := hF
              exact does_appendZeros g ho h1 h2 hx hy hap hu' hl hc hz hm0 hi hlt hmx hby hK
            · cases h
        · cases h
      · cases h
    · cases h
  · rename_i args argTypes ho
    split at h
    · rename_i x y t t' h1 h2
      split at h
      · rename_i l off len e hx hu
        split at h
        · rename_i k bt n f z hl hz
          split at h
          · rename_i p m gf hs
            injection h with h
            subst h
            obtain ⟨rfl, hp, hoff, hK⟩ := hF
            exact does_copy g ho h1 h2 hx hu hl hz hs hp hoff hK
          · cases h
        · cases h
      · cases h
    · cases h
  · rename_i args argTypes ho
    split at h
    · rename_i x t h1 h2
      split at h
      · rename_i l off len e k bytes hx hap
        split at h
        · rename_i k2 bt n f zv hl hz
          injection h with h
          subst h
          obtain ⟨rfl, hoff, hK⟩ := hF
          exact does_clear g ho h1 h2 hx hap hl hz hoff hK
        · cases h
      · cases h
    · cases h
  · rename_i t x hi ho
    split at h
    · rename_i l len ki hh e hx hhi hu
      split at h
      · rename_i c hc
        split at h
        · rename_i z hz
          injection h with h
          subst h
          obtain ⟨h0, h1, hK⟩ := hF
          exact does_ext g ho hx hhi hu hz hc h0 h1 hK
        · cases h
      · cases h
    · cases h
  · rename_i t x lo hi mx ho
    split at h
    · rename_i l off len k1 u k2 v k3 m hx hlo hhi hmx
      split at h
      · rename_i e hu
        split at h
        · rename_i z hz
          injection h with h
          subst h
          obtain ⟨h0, h1, h2, h3, hK⟩ := hF
          exact does_full g ho hx hlo hhi hmx hu hz h0 h1 h2 h3 hK
        · cases h
      · cases h
    · cases h
  · cases h

end
end Go.Am

namespace Go.Am
open Go.RowKit

section
variable {P : Program} {E0 E : Env} {H : List LObj}

/-- Back from a callee to which all that is owned was lent: what comes back must not be part of it. -/
theorem gam_back_lent (g : Gam E0 E H) {E' : Env} {H' : List LObj} (g' : Gam (E.lent []) E' H') (hfl : ∀ o ∈ H', flatO o) : Ext E (E.back E' H.length True) ∧ Gam E0 (E.back E' H.length True) (H ++ H') := by
  have hF : ∀ b, (E.back E' H.length True).F b ↔ E'.F b ∧ ¬ E.owns b := fun b => by simp [Env.back]
  have hno : ∀ b, E.F b → ¬ E.owns b := fun b hb ⟨l, L, hL, hc, he⟩ => (g.own l L hL hc).2.2 (he ▸ hb)
  have e1 : Ext E (E.back E' H.length True) := ⟨fun b hb => (hF b).2 ⟨g'.up b (.inl hb), hno b hb⟩, fun a ha => (g'.belowN (fun _ => rfl)).cell (p := a) (g.lt _ ha), fun l L hL => by
    have := g.dom l L hL
    simp only [Env.back]
    rw [if_pos this]
    exact hL⟩
  refine ⟨e1, ?_⟩
  constructor
  · intro l o hl
    rw [List.getElem?_append] at hl
    split at hl
    · exact (g.objs l o hl).mono e1 (fun L hL hc => (g'.belowN (fun _ => rfl)).block L.b (g.own l L hL hc).2.1)
    · rename_i hge
      have hflo := hfl o (List.mem_of_getElem? hl)
      have hobj := g'.objs _ o hl
      have hloc : ∀ L, E'.loc (l - H.length) = some L → (E.back E' H.length True).loc l = some L := fun L hL => by
        simp only [Env.back]
        rw [if_neg (by omega)]
        exact hL
      cases o with
      | dead => trivial
      | box t cs =>
        obtain ⟨L, us, hL, ht, hc, hg, hr⟩ := hobj
        exact ⟨L, us, hloc L hL, ht, hc, hg, rep_flat hr (by have h9 : flatL cs = true := hflo; simpa [flatB] using h9) _⟩
      | row k t n f =>
        obtain ⟨L, hL, ht, hk, hn, hm, hrow⟩ := hobj
        refine ⟨L, hloc L hL, ht, hk, hn, hm, fun hpos => ?_⟩
        obtain ⟨arr, hg, hsz, hel⟩ := hrow hpos
        refine ⟨arr, hg, hsz, fun i hi => ?_⟩
        obtain ⟨us, h1, h2, h3⟩ := hel i hi
        exact ⟨us, h1, rep_flat h2 (hflo i hi) _, h3⟩
      | _ => exact hflo.elim
  · intro l L hL
    simp only [Env.back] at hL
    split at hL
    · simp; omega
    · have := g'.dom _ L hL
      simp; omega
  · intro l L hL hc
    simp only [Env.back] at hL
    split at hL
    · have h1 := g.own l L hL hc
      exact ⟨h1.1, Nat.lt_of_lt_of_le h1.2.1 (g'.belowN (fun _ => rfl)).size, fun hh => ((hF _).1 hh).2 ⟨l, L, hL, hc, rfl⟩⟩
    · have h1 := g'.ownN (fun _ => rfl) _ L hL hc
      have := g.below.size
      exact ⟨fun ho => by have := Env.old_lt g.below ho; have := h1.1; simp [Env.lent] at this; omega, h1.2.1, fun hh => h1.2.2 ((hF _).1 hh).1⟩
  · intro l l' L L' hL hL' hc hc' hb
    simp only [Env.back] at hL hL'
    split at hL <;> split at hL'
    · exact g.inj l l' L L' hL hL' hc hc' hb
    · have h1 := (g.own l L hL hc).2.1
      have h2 := (g'.ownN (fun _ => rfl) _ L' hL' hc').1
      simp [Env.lent] at h2
      omega
    · have h1 := (g.own l' L' hL' hc').2.1
      have h2 := (g'.ownN (fun _ => rfl) _ L hL hc).1
      simp [Env.lent] at h2
      omega
    · have := g'.inj _ _ L L' hL hL' hc hc' hb
      omega
  · intro b hb
    exact g'.lt b ((hF b).1 hb).1
  · intro b hb
    have h1 := g.up b hb
    exact (hF b).2 ⟨g'.up b (.inl h1), hno b h1⟩
  · intro b hb
    obtain ⟨h1, h2⟩ := (hF b).1 hb
    rcases g'.downN (fun _ => rfl) b h1 with h | h
    · rcases h with h | h
      · exact g.down b h
      · exact absurd (lends_nil.1 h) h2
    · have := g.below.size
      right
      intro ho
      have := Env.old_lt g.below ho
      simp [Env.lent] at h
      omega
  · exact g.below.to (g'.belowN (fun _ => rfl))
  · intro l hl
    have := g.hm
    simp only [Env.back]
    rw [if_pos (by omega)]
    exact g.stay l hl
  · have := g.hm
    simp
    omega

theorem repV1_flatR {E' : Env} {d : Nat} {lent : Prop} {v : Value} {x : AV} (h : RepV1 E' v x) (hf : ownOrFlat x = true) : RepV1 (E.back E' d lent) v (shB d x) := by
  have hs : ∀ y, flatB y = true → RepV1 E' v y → RepV1 (E.back E' d lent) v (shB d y) := by
    intro y hy hr
    have e : ExtSh d { E' with F := fun _ => False } (E.back E' d lent) := ⟨fun _ h => h.elim, fun _ h => h.elim, fun q L hL => by
      simp only [Env.back]
      rw [if_neg (by omega), show q + d - d = q by omega]
      exact hL⟩
    exact repV1_sh (repV1_flat hr hy _) e
  cases x with
  | own l a b =>
    obtain ⟨L, A, hL, hb, hA, rfl⟩ := Rep.own_inv (show Rep E' [v] (.own l a b) from h)
    exact Rep.own (E := E.back E' d lent) (l := l + d) (by simp only [Env.back]; rw [if_neg (by omega), show l + d - d = l by omega]; exact hL) hb hA
  | _ => exact hs _ hf h

theorem repV_flatR {E' : Env} {d : Nat} {lent : Prop} {v : Value} {x : AV} (h : RepV E' v x) (hf : flatR x = true) : RepV (E.back E' d lent) v (shB d x) := by
  cases x with
  | tup xs =>
    obtain ⟨vs, hv, hl, hr⟩ := h
    refine ⟨vs, hv, by rw [shL_length]; exact hl, fun i u y hu hy => ?_⟩
    rw [shL_get, Option.map_eq_some_iff] at hy
    obtain ⟨y', hy', rfl⟩ := hy
    have h1 := List.all_eq_true.1 (by simpa only [flatR] using hf) y' (List.mem_of_getElem? hy')
    exact repV1_flatR (hr i u y' hu hy') h1
  | _ =>
    rw [repV_eq _ (by intro xs hh; cases hh)] at h
    rw [repV_eq _ (by intro xs hh; simp only [shB] at hh; cases hh)]
    exact repV1_flatR h hf

/-- The marks of ranges over functions among the deferred calls: each names a block that holds no call, that is new and is not owned. -/
def mark (D : Nat) : Deferred := { target := .collected D, args := #[] }
structure MarkOk (E0 E : Env) (D : Nat) : Prop where
  at_ : E.w.heap[D]? = some (.deferred (some []))
  own : ∀ l L, E.loc l = some L → 0 < L.cap → L.b ≠ D
  new : ¬ E0.old D
/-- The marks among the deferred calls; and objects that lie by themselves, not owned, and stay what they are. -/
structure Prot (E0 : Env) (R : List (Nat × Obj)) (E : Env) (ds : List Deferred) : Prop where
  marks : ∃ Ds : List Nat, Ds.Nodup ∧ ds = Ds.map mark ∧ ∀ D ∈ Ds, MarkOk E0 E D
  res : ∀ p ∈ R, E.w.heap[p.1]? = some p.2 ∧ ∀ l L, E.loc l = some L → 0 < L.cap → L.b ≠ p.1
theorem Prot.nil (E0 E : Env) : Prot E0 [] E [] := ⟨⟨[], by simp, rfl, by simp⟩, by simp⟩
theorem res_keep {E E' : Env} {tl : List Nat} {D : Nat} {ob : Obj} (h : E.w.heap[D]? = some ob ∧ ∀ l L, E.loc l = some L → 0 < L.cap → L.b ≠ D) (k : Keep tl E E') : E'.w.heap[D]? = some ob ∧ ∀ l L, E'.loc l = some L → 0 < L.cap → L.b ≠ D := by
  have hlt : D < E.w.heap.size := (Array.getElem?_eq_some_iff.1 h.1).1
  refine ⟨?_, fun l L hL hc he => ?_⟩
  · rw [k.block D hlt (fun l L _ hL hc he => h.2 l L hL hc he.symm)]
    exact h.1
  · rcases k.loc l L hL hc with h1 | ⟨l0, L0, _, h1, h2, h3⟩
    · omega
    · exact h.2 l0 L0 h1 h2 (by rw [h3, he])
theorem MarkOk.keep {E0 E E' : Env} {tl : List Nat} {D : Nat} (h : MarkOk E0 E D) (k : Keep tl E E') : MarkOk E0 E' D := by
  have := res_keep ⟨h.at_, h.own⟩ k
  exact ⟨this.1, this.2, h.new⟩
theorem Prot.keep {E0 E E' : Env} {R : List (Nat × Obj)} {tl : List Nat} {ds : List Deferred} (h : Prot E0 R E ds) (k : Keep tl E E') : Prot E0 R E' ds :=
  ⟨⟨h.marks.choose, h.marks.choose_spec.1, h.marks.choose_spec.2.1, fun D hD => (h.marks.choose_spec.2.2 D hD).keep k⟩, fun p hp => res_keep (h.res p hp) k⟩
theorem Prot.same {E0 E E' : Env} {R : List (Nat × Obj)} {ds : List Deferred} (h : Prot E0 R E ds) (hw : E'.w = E.w) (hl : ∀ l L, E'.loc l = some L → 0 < L.cap → ∃ l0, E.loc l0 = some L) : Prot E0 R E' ds :=
  ⟨⟨h.marks.choose, h.marks.choose_spec.1, h.marks.choose_spec.2.1, fun D hD => ⟨by rw [hw]; exact (h.marks.choose_spec.2.2 D hD).at_, fun l L hL hc => by
    obtain ⟨l0, h0⟩ := hl l L hL hc
    exact (h.marks.choose_spec.2.2 D hD).own l0 L h0 hc, (h.marks.choose_spec.2.2 D hD).new⟩⟩, fun p hp => ⟨by rw [hw]; exact (h.res p hp).1, fun l L hL hc => by
    obtain ⟨l0, h0⟩ := hl l L hL hc
    exact (h.res p hp).2 l0 L h0 hc⟩⟩

/-- In a round there are no deferred calls. -/
def ProtR (r : Option Nat) (E0 : Env) (R : List (Nat × Obj)) (E : Env) (ds : List Deferred) : Prop := match r with
  | none => Prot E0 R E ds
  | some _ => ds = []
theorem ProtR.keep {r : Option Nat} {E0 E E' : Env} {R : List (Nat × Obj)} {tl : List Nat} {ds : List Deferred} (h : ProtR r E0 R E ds) (k : Keep tl E E') : ProtR r E0 R E' ds := by
  cases r with
  | none => exact Prot.keep h k
  | some _ => exact h
theorem ProtR.same {r : Option Nat} {E0 E E' : Env} {R : List (Nat × Obj)} {ds : List Deferred} (h : ProtR r E0 R E ds) (hw : E'.w = E.w) (hl : ∀ l L, E'.loc l = some L → 0 < L.cap → ∃ l0, E.loc l0 = some L) : ProtR r E0 R E' ds := by
  cases r with
  | none => exact Prot.same h hw hl
  | some _ => exact h

abbrev Trans := List AV → (AV → List LObj → Prop) → Prop
abbrev HTrans := List LObj → List AV → (AV → List LObj → Prop) → Prop

/-- WHAT A FUNCTION DOES TO WHAT IS HANDED OVER TO IT: called in any world in which the objects H0 lie, with values that stand for args: x stands for what it returns; H: the objects H0, as they are now, and behind them what it has made. -/
def SpecH (P : Program) (f : FuncId) (H0 : List LObj) (args : List AV) (R : AV → List LObj → Prop) : Prop :=
  ∀ (E0 : Env) (vs : List Value), Gam E0 E0 H0 → E0.m = H0.length → vs.length = args.length → (∀ (i : Nat) (v : Value) (x : AV), vs[i]? = some v → args[i]? = some x → RepV E0 v x) →
    Calls P f vs.toArray E0.w fun e w' => ∃ v x H E', e = .returned v ∧ R x H ∧ E'.w = w' ∧ Gam E0 E' H ∧ RepV E' v x

theorem SpecH.mono {P : Program} {f : FuncId} {H0 : List LObj} {args : List AV} {R R' : AV → List LObj → Prop} (h : SpecH P f H0 args R) (hr : ∀ x H, R x H → R' x H) : SpecH P f H0 args R' :=
  fun E0 vs h1 h0 h2 h3 => (h E0 vs h1 h0 h2 h3).mono fun _ _ ⟨v, x, H, E', he, hR, hw, hg, hv⟩ => ⟨v, x, H, E', he, hr x H hR, hw, hg, hv⟩

/-- Blocks that rounds may turn (wr), and that they read (rd). -/
structure Foot where
  wr : Nat → Prop
  rd : Nat → Prop
/-- What a step does to the world beside the blocks Z.wr: nothing that lay there has turned; they have grown by new blocks alone. -/
structure FrameZ (W : World) (Z : Foot) (W' : World) (Z' : Foot) : Prop where
  os : W'.os = W.os
  tape : W'.tape = W.tape
  output : W'.output = W.output
  size : W.heap.size ≤ W'.heap.size
  block : ∀ b, b < W.heap.size → ¬ Z.wr b → W'.heap[b]? = W.heap[b]?
  zw : ∀ b, Z'.wr b → Z.wr b ∨ W.heap.size ≤ b
/-- A statement on a world that minds the blocks Z alone. -/
def StableZ (J : Foot → World → Prop) : Prop :=
  ∀ Z W W', J Z W → W'.os = W.os → W'.tape = W.tape → W'.output = W.output → W.heap.size ≤ W'.heap.size → (∀ b, Z.wr b ∨ Z.rd b → W'.heap[b]? = W.heap[b]?) → J Z W'
def BoundZ (J : Foot → World → Prop) : Prop := ∀ Z W, J Z W → ∀ b, Z.wr b ∨ Z.rd b → b < W.heap.size
def itEnv (W : World) (F : Nat → Prop) : Env := { w := W, F := F, loc := fun _ => none, m := 0 }
/-- A round that the i-th yield asks for. -/
def RoundOk (P : Program) (F0 : Nat → Prop) (s0 : Nat) (l : Nat) (n : Nat) (xs : Nat → List AV) (J : Nat → Foot → World → Prop) (JX : Foot → World → Prop) : Prop :=
  ∀ (i : Nat) (Z : Foot) (W : World) (Fi : Nat → Prop) (us : List Value), i < n → J i Z W → (∀ b, Fi b → b < W.heap.size ∧ ¬ Z.wr b ∧ (F0 b ∨ s0 ≤ b)) → us.length = (xs i).length →
    (∀ (j : Nat) (v : Value) (x : AV), us[j]? = some v → (xs i)[j]? = some x → RepV (itEnv W Fi) v x) →
    ∀ d, YieldAt Fence.wide d P l us.toArray W fun e W' => ∃ Z', FrameZ W Z W' Z' ∧ (∀ b, Z'.rd b → Z.rd b ∨ Z.wr b ∨ Fi b ∨ W.heap.size ≤ b) ∧ ((e = .returned (.bool true) ∧ J (i + 1) Z' W') ∨ (e = .returned (.bool false) ∧ JX Z' W'))

/-- WHAT A FUNCTION DOES THAT IS RANGED OVER: called with a yield it calls it with xs 0, xs 1, .. in this order, up to n of them or until it is told to stop, and turns nothing else. -/
def SeqSpec (P : Program) (f : FuncId) (caps : List AV) (n : Nat) (xs : Nat → List AV) : Prop :=
  ∀ (E0 : Env) (vs : List Value) (l : Nat) (J : Nat → Foot → World → Prop) (JX : Foot → World → Prop) (Z0 : Foot), (∀ q, E0.loc q = none) → E0.m = 0 → (∀ b, E0.F b → b < E0.w.heap.size ∧ ¬ Z0.wr b) →
    vs.length = caps.length → (∀ (i : Nat) (v : Value) (x : AV), vs[i]? = some v → caps[i]? = some x → RepV E0 v x) →
    (∀ i, StableZ (J i)) → StableZ JX → (∀ i, BoundZ (J i)) → BoundZ JX → RoundOk P E0.F E0.w.heap.size l n xs J JX → J 0 Z0 E0.w →
    Calls P f (#[.func (.yield l) #[] #[]] ++ vs.toArray) E0.w fun e w' => (∃ v, e = .returned v) ∧ ∃ Z', FrameZ E0.w Z0 w' Z' ∧ (J n Z' w' ∨ JX Z' w')

/-- What is known of a function: that it leaves what is handed to it alone; or which names it is handed over, and what comes of them; or that it is one of the model's own. -/
inductive Ent where
  | lend (T : Trans)
  | hand (tk : List AV → List Nat) (T : HTrans)
  | ext (F : List LObj → List AV → Option (Prop × AV))
  | seq (F : List AV → Option (Prop × Nat × (Nat → List AV)))
/-- What is known of functions; which values may be keys, by the type. -/
structure Table where
  fn : FuncId → Option Ent
  key : TypeId → Option (Value → Prop)

def Enters (P : Program) (f : FuncId) : Prop := ∀ args w, (callFunc f args).run P w = .ok (.enter f args) w
def ExtOk (P : Program) (f : FuncId) (F : List LObj → List AV → Option (Prop × AV)) : Prop :=
  ∀ (E0 E : Env) (H : List LObj) (vs : List Value) (xs : List AV) (p : Prop) (x : AV), Gam E0 E H → vs.length = xs.length → (∀ (i : Nat) (v : Value) (y : AV), vs[i]? = some v → xs[i]? = some y → RepV E v y) → F H xs = some (p, x) → p →
    ∃ v, (callFunc f vs.toArray).run P E.w = .ok (.value v) E.w ∧ RepV E v x

structure TableOk (P : Program) (C : Table) : Prop where
  lend : ∀ f T, C.fn f = some (.lend T) → Enters P f ∧ ∀ args R, T args R → Spec P f args R
  hand : ∀ f tk T, C.fn f = some (.hand tk T) → Enters P f ∧ ∀ H0 args R, T H0 args R → SpecH P f H0 args R
  ext : ∀ f F, C.fn f = some (.ext F) → ExtOk P f F
  keys : KeysOk P C.key
  seq : ∀ f F, C.fn f = some (.seq F) → Enters P f ∧ ∀ caps p n xs, F caps = some (p, n, xs) → p → SeqSpec P f caps n xs

def immVs : List AV → Bool
  | [] => true
  | c :: cs => immB c && immVs cs

mutual
def namB : AV → List Nat
  | .agg cs => namL cs
  | .tup cs => namL cs
  | .own l _ _ => [l]
  | .ptr l _ _ _ => [l]
  | .clo _ cs => namL cs
  | .ifc _ x => namB x
  | .mp l => [l]
  | _ => []
def namL : List AV → List Nat
  | [] => []
  | c :: cs => namB c ++ namL cs
end
def allIn (ks : List Nat) : List Nat → Bool
  | [] => true
  | l :: ls => match posN ks l with
    | some _ => allIn ks ls
    | none => false

/-- An argument: shared, or handed over, or lent (then: true). -/
def argH (ks : List Nat) (H : List LObj) (x : AV) : Option (Prop × AV × Bool) := match immB x with
  | true => some (True, x, false)
  | false => match allIn ks (namB x) with
    | true => some (True, mapB (posN ks) x, false)
    | false => match argV ks H x with
      | some (p, y) => some (p, y, true)
      | none => none
def argHs (ks : List Nat) (H : List LObj) : List AV → Option (Prop × List AV × Bool)
  | [] => some (True, [], false)
  | x :: xs => match argH ks H x, argHs ks H xs with
    | some (p, y, b), some (q, ys, c) => some (p ∧ q, y :: ys, b || c)
    | _, _ => none
def nflOs : List LObj → Prop
  | [] => True
  | o :: os => nflO o ∧ nflOs os
theorem nflOs_mem : ∀ {os : List LObj}, nflOs os → ∀ o ∈ os, nflO o := by
  intro os
  induction os with
  | nil => intro _ o ho; cases ho
  | cons c cs ih =>
    intro h o ho
    rcases List.mem_cons.1 ho with rfl | ho
    · exact h.1
    · exact ih h.2 o ho

/-- What comes back must not be part of what was lent. -/
def apartP (lent : Bool) (x : AV) (H1 : List LObj) (K : Prop) : Prop := match lent with
  | true => nflB x = true ∧ nflOs H1 ∧ K
  | false => K

def flatP (x : AV) : Prop := match flatR x with
  | true => True
  | false => False
theorem flatP_eq {x : AV} (h : flatP x) : flatR x = true := by
  unfold flatP at h
  split at h
  · assumption
  · exact h.elim
def flatOs : List LObj → Prop
  | [] => True
  | o :: os => flatO o ∧ flatOs os
theorem flatOs_mem : ∀ {os : List LObj}, flatOs os → ∀ o ∈ os, flatO o := by
  intro os
  induction os with
  | nil => intro _ o ho; cases ho
  | cons c cs ih =>
    intro h o ho
    rcases List.mem_cons.1 ho with rfl | ho
    · exact h.1
    · exact ih h.2 o ho

/-- The condition of a call; K is told what comes back, the state behind it, what may have been written to. -/
def vcCall (C : Table) (s : St) (f : FuncId) (xs : List AV) (K : AV → St → List Nat → Prop) : Prop :=
  match C.fn f with
  | none => False
  | some (.lend T) => match immVs xs with
    | true => T xs fun x H' => K (shB s.heap.length x) { s with heap := s.heap ++ H'.map (shO s.heap.length) } []
    | false => match argVs [] s.heap xs with
      | none => False
      | some (p, ys) => p ∧ T ys fun x H' => flatP x ∧ flatOs H' ∧ K (shB s.heap.length x) { s with heap := s.heap ++ H' } []
  | some (.hand tk T) => match nodupN (tk xs), handOk s.heap (tk xs), argHs (tk xs) s.heap xs with
    | true, true, some (p, ys, lent) => p ∧ T (handO (tk xs) s.heap (tk xs)) ys fun x H1 =>
        apartP lent x H1 (K (mapB (bkN (tk xs) s.heap.length) x) ⟨mapL (kpN (tk xs) H1) s.slots, backO (tk xs) s.heap.length H1 0 s.heap⟩ (tk xs))
    | _, _, _ => False
  | some (.ext F) => match F s.heap xs with
    | some (p, x) => p ∧ K x s []
    | none => False
  | some (.seq _) => False

theorem immVs_get {cs : List AV} (h : immVs cs = true) {i : Nat} {c : AV} (hc : cs[i]? = some c) : immB c = true := by
  induction cs generalizing i with
  | nil => simp at hc
  | cons d cs ih =>
    simp only [immVs, Bool.and_eq_true] at h
    cases i with
    | zero => simp at hc; subst hc; exact h.1
    | succ i => exact ih h.2 (by simpa using hc)

theorem repV_imm {v : Value} {x : AV} (h : RepV E v x) (hi : immB x = true) : RepV E.imm v x := repV_imm' h hi

theorem keep_back {E2 E' : Env} {d : Nat} {H' : List LObj} (g' : Gam E2 E' H') (lent : Prop) (hw : E2.w = E.w := by rfl) (hn : ∀ l, E2.loc l = none := by intro l; rfl) : Keep [] E (E.back E' d lent) :=
  ⟨by rw [← hw]; exact (g'.belowN hn).os, by rw [← hw]; exact (g'.belowN hn).tape, by rw [← hw]; exact (g'.belowN hn).output, by rw [← hw]; exact (g'.belowN hn).size, fun b hb _ => by rw [← hw] at hb ⊢; exact (g'.belowN hn).block b hb, fun q L' hL' hc => by
    simp only [Env.back] at hL'
    split at hL'
    · exact .inr ⟨q, L', .inl rfl, hL', hc, rfl⟩
    · exact .inl (by rw [← hw]; exact (g'.ownN hn _ L' hL' hc).1)⟩

theorem argH_rep (g : Gam E0 E H) {ks : List Nat} {lent : Prop} {x y : AV} {v : Value} {p : Prop} {b : Bool} (h : RepV E v x) (ha : argH ks H x = some (p, y, b)) (hp : p) (hb : b = true → lent) : RepV (E.hand ks lent) v y := by
  unfold argH at ha
  split at ha
  · rename_i him
    simp only [Option.some.injEq, Prod.mk.injEq] at ha
    obtain ⟨_, rfl, _⟩ := ha
    exact (repV_imm h him).mono ⟨fun _ h => .inl h, fun _ _ => rfl, fun _ _ h => by simp at h⟩
  · split at ha
    · simp only [Option.some.injEq, Prod.mk.injEq] at ha
      obtain ⟨_, rfl, _⟩ := ha
      exact repV_map h (ext_hand E ks lent)
    · split at ha
      · rename_i q z hz
        simp only [Option.some.injEq, Prod.mk.injEq] at ha
        obtain ⟨rfl, rfl, rfl⟩ := ha
        exact (argV_rep g h hz hp).mono ⟨fun b hh => hh.elim .inl (fun hh => .inr ⟨hb rfl, hh⟩), fun _ _ => rfl, fun _ _ h => by simp [Env.lent] at h⟩
      · cases ha

theorem argHs_rep (g : Gam E0 E H) {ks : List Nat} {lent : Prop} : ∀ {xs ys : List AV} {vs : List Value} {p : Prop} {b : Bool}, vs.length = xs.length → (∀ (i : Nat) (v : Value) (x : AV), vs[i]? = some v → xs[i]? = some x → RepV E v x) → argHs ks H xs = some (p, ys, b) → p → (b = true → lent) →
    vs.length = ys.length ∧ ∀ (i : Nat) (v : Value) (y : AV), vs[i]? = some v → ys[i]? = some y → RepV (E.hand ks lent) v y := by
  intro xs
  induction xs with
  | nil =>
    intro ys vs p b hl h ha _ _
    simp only [argHs, Option.some.injEq, Prod.mk.injEq] at ha
    obtain ⟨_, rfl, _⟩ := ha
    exact ⟨hl, fun i v y _ hy => by simp at hy⟩
  | cons x xs ih =>
    intro ys vs p b hl h ha hp hb
    simp only [argHs] at ha
    split at ha
    · rename_i p1 y b1 q ys' b2 h1 h2
      simp only [Option.some.injEq, Prod.mk.injEq] at ha
      obtain ⟨rfl, rfl, rfl⟩ := ha
      cases vs with
      | nil => simp at hl
      | cons v vs =>
        obtain ⟨i1, i2⟩ := ih (vs := vs) (by simpa using hl) (fun i u z hu hz => h (i + 1) u z (by simpa using hu) (by simpa using hz)) h2 hp.2 (fun hh => hb (by rw [hh, Bool.or_true]))
        refine ⟨by simpa using i1, fun i u z hu hz => ?_⟩
        cases i with
        | zero =>
          simp at hu hz
          subst hu hz
          exact argH_rep g (h 0 v x rfl rfl) h1 hp.1 (fun hh => hb (by rw [hh, Bool.true_or]))
        | succ i => exact i2 i u z (by simpa using hu) (by simpa using hz)
    · cases ha

/-- What a call does: it enters the function (and then returns), or it is one of the model's own. -/
theorem call_sound {C : Table} (hC : TableOk P C) {s : St} {tmps : Array Value} (g : Gam E0 E s.heap) (hs : SlotsOk E tmps s.slots) {f : FuncId} {xs : List AV} {vs : List Value} {K : AV → St → List Nat → Prop} (hl : vs.length = xs.length)
    (hr : ∀ (i : Nat) (v : Value) (x : AV), vs[i]? = some v → xs[i]? = some x → RepV E v x) (h : vcCall C s f xs K) :
    (Enters P f ∧ Calls P f vs.toArray E.w fun e w' => ∃ v x s' tl E', e = .returned v ∧ K x s' tl ∧ E'.w = w' ∧ Gam E0 E' s'.heap ∧ SlotsOk E' tmps s'.slots ∧ RepV E' v x ∧ Keep tl E E') ∨
    (∃ v x s' tl, (callFunc f vs.toArray).run P E.w = .ok (.value v) E.w ∧ K x s' tl ∧ Gam E0 E s'.heap ∧ SlotsOk E tmps s'.slots ∧ RepV E v x ∧ Keep tl E E) := by
  unfold vcCall at h
  split at h
  · exact h.elim
  · rename_i T hT
    left
    refine ⟨(hC.lend f T hT).1, ?_⟩
    split at h
    · rename_i him
      refine ((hC.lend f T hT).2 _ _ h E.imm vs (fun _ => rfl) rfl g.lt hl (fun i v x hv hx => repV_imm (hr i v x hv hx) (immVs_get him hx))).mono ?_
      rintro e w' ⟨v, x, H', E', rfl, hK, rfl, g', hv⟩
      obtain ⟨e1, e2, g2⟩ := gam_back g g'
      exact ⟨v, _, _, _, E.back E' s.heap.length False, rfl, hK, rfl, g2, hs.mono e1, repV_sh hv e2, keep_back g' False⟩
    · split at h
      · exact h.elim
      · rename_i p ys ha
        obtain ⟨hp, h⟩ := h
        obtain ⟨a1, a2⟩ := argVs_rep g hl hr ha hp
        have hlt : ∀ b, (E.lent []).F b → b < (E.lent []).w.heap.size := by
          rintro b (hb | ⟨l, L, hL, hc, rfl, _⟩)
          · exact g.lt b hb
          · exact (g.own l L hL hc).2.1
        refine ((hC.lend f T hT).2 _ _ h (E.lent []) vs (fun _ => rfl) rfl hlt a1 a2).mono ?_
        rintro e w' ⟨v, x, H', E', rfl, ⟨hfr, hfo, hK⟩, rfl, g', hv⟩
        obtain ⟨e1, g2⟩ := gam_back_lent g g' (flatOs_mem hfo)
        exact ⟨v, _, _, _, E.back E' s.heap.length True, rfl, hK, rfl, g2, hs.mono e1, repV_flatR hv (flatP_eq hfr), keep_back g' True⟩
  · rename_i tk T hT
    left
    refine ⟨(hC.hand f tk T hT).1, ?_⟩
    split at h
    · rename_i p ys lent hn hok ha
      obtain ⟨hp, h⟩ := h
      obtain ⟨a1, a2⟩ := argHs_rep (lent := lent = true) g hl hr ha hp (fun h => h)
      refine ((hC.hand f tk T hT).2 _ _ _ h (E.hand (tk xs) (lent = true)) vs (gam_hand g hn _) (by rw [handO_length]; rfl) a1 a2).mono ?_
      rintro e w' ⟨v, x, H1, E', rfl, hK, rfl, g', hv⟩
      have hap : (lent = true → nflB x = true ∧ ∀ o ∈ H1, nflO o) ∧ K (mapB (bkN (tk xs) s.heap.length) x) ⟨mapL (kpN (tk xs) H1) s.slots, backO (tk xs) s.heap.length H1 0 s.heap⟩ (tk xs) := by
        cases lent with
        | true => exact ⟨fun _ => ⟨hK.1, nflOs_mem hK.2.1⟩, hK.2.2⟩
        | false => exact ⟨fun h => (by cases h), hK⟩
      obtain ⟨k1, k2, k3, k4⟩ := gam_handback g hn hok g' (fun hh => (hap.1 hh).2)
      exact ⟨v, _, _, _, backEnv E E' s.heap.length (tk xs) (lent = true), rfl, hap.2, rfl, k2, hs.map k1, k4 v x hv (fun hh => (hap.1 hh).1), k3⟩
    · exact h.elim
  · rename_i F hT
    right
    split at h
    · rename_i p x hF
      obtain ⟨v, h1, h2⟩ := hC.ext f F hT E0 E s.heap vs xs p x g hl hr hF h.1
      exact ⟨v, x, s, [], h1, h.2, g, hs, h2, Keep.refl _ _⟩
    · exact h.elim
  · exact h.elim

/-- What is called, and what it has captured. -/
def goodCap : AV → Bool
  | .iarr .. => false
  | .agg _ => false
  | .tup _ => false
  | _ => true
def calleeOf : AV → Option (FuncId × List AV)
  | .pl (.func (.func f) first caps) => match first.toList, caps.toList with
    | [], [] => some (f, [])
    | _, _ => none
  | .clo (.func f) caps => match caps.all goodCap with
    | true => some (f, caps)
    | false => none
  | _ => none

/-- The condition of one operation. -/
def vcOp (P : Program) (C : Table) (s : St) (o : Oper) (K : St → List Nat → Prop) : Prop :=
  match opY P s o with
  | some F => F fun s' x tl => K (s'.put o.dst x) tl
  | none => match pureOp P s o with
    | some (p, x) => p ∧ K (s.put o.dst x) []
    | none => match heapOp P s o with
      | some (p, s', x) => p ∧ K (s'.put o.dst x) (touched s o)
      | none => match opX P C.key s o with
        | some F => F fun s' x tl => K (s'.put o.dst x) tl
        | none => match o.op with
          | .call { callee := .value fo, args, .. } => match calleeOf (s.ev fo) with
            | some (f, caps) => vcCall C s f (args.toList.map s.ev ++ caps) fun x s' tl => K (s'.put o.dst x) tl
            | none => False
          | _ => False

theorem opY_ne_defer {s : St} {o : Oper} {r : XK → Prop} (h : opY P s o = some r) : ∀ c, o.op ≠ .defer c := by
  intro c hc
  simp [opY, hc] at h
theorem opX_ne_defer {KT : TypeId → Option (Value → Prop)} {s : St} {o : Oper} {r : XK → Prop} (h : opX P KT s o = some r) : ∀ c, o.op ≠ .defer c := by
  intro c hc
  simp [opX, hc] at h

def wideR (r : Option Nat) : Fence := { Fence.wide with round := r }

theorem callsIn_wideR {r : Option Nat} {n : Nat} {f : FuncId} {args : Array Value} {w : World} {R : Ending → World → Prop} (h : Calls P f args w R) : CallsIn (wideR r) n P f args w R :=
  callsIn_wide.2 h

theorem oneAV_rep {v : Value} {c : AV} (h : Rep E [v] c) (hne : (match c with | .iarr .. => False | .agg _ => False | .tup _ => False | _ => True)) : RepV E v c := by
  cases c <;> first | exact h | exact trivial | exact hne.elim

theorem pure_ne_defer {s : St} {o : Oper} {r : Prop × AV} (h : pureOp P s o = some r) : ∀ c, o.op ≠ .defer c := by
  intro c hc
  simp [pureOp, hc] at h
theorem heap_ne_defer {s : St} {o : Oper} {r : Prop × St × AV} (h : heapOp P s o = some r) : ∀ c, o.op ≠ .defer c := by
  intro c hc
  simp [heapOp, hc] at h

theorem callee_spec {v : Value} {x : AV} {f : FuncId} {caps : List AV} (h : RepV E v x) (hc : calleeOf x = some (f, caps)) :
    ∃ vs : List Value, v = .func (.func f) #[] vs.toArray ∧ vs.length = caps.length ∧ ∀ (i : Nat) (u : Value) (c : AV), vs[i]? = some u → caps[i]? = some c → RepV E u c := by
  unfold calleeOf at hc
  split at hc
  · rename_i f' first cs
    split at hc
    · rename_i h1 h2
      simp only [Option.some.injEq, Prod.mk.injEq] at hc
      obtain ⟨rfl, rfl⟩ := hc
      have e1 : first = #[] := Array.toList_eq_nil_iff.1 h1
      have e2 : cs = #[] := Array.toList_eq_nil_iff.1 h2
      exact ⟨[], by rw [repV_pl h, e1, e2], rfl, fun i u c hu => by simp at hu⟩
    · cases hc
  · rename_i f' cs
    split at hc
    · rename_i hgood
      simp only [Option.some.injEq, Prod.mk.injEq] at hc
      obtain ⟨rfl, rfl⟩ := hc
      obtain ⟨vs, hl, hr, rfl⟩ := Rep.clo_inv (show Rep E [v] (.clo _ _) from h)
      refine ⟨vs, rfl, hl, fun i u c hu hcc => ?_⟩
      have h1 := hr i u c hu hcc
      have h2 := List.all_eq_true.1 hgood c (List.mem_of_getElem? hcc)
      cases c <;> first | exact h1 | exact trivial | (simp [goodCap] at h2)
    · cases hc
  · cases hc

/-- An operation does what its symbolic step says. -/
theorem op_sound {C : Table} (hC : TableOk P C) {r : Option Nat} {n : Nat} {s : St} {a : Act} {o : Oper} {K : St → List Nat → Prop} {next : Act → World → Prop} {Q : Exit → Act → World → Prop} (g : GamS E0 E s a) (h : vcOp P C s o K)
    (hnext : ∀ s' E' v tl, K s' tl → GamS E0 E' s' (a.put o.dst v) → Keep tl E E' → next (a.put o.dst v) E'.w) : o.wpIn (wideR r) n P a E.w next Q := by
  refine ⟨fun _ _ => trivial, ?_⟩
  have doesX : DoesX P E0 E s a o (fun s' x tl => K (s'.put o.dst x) tl) → (∀ c, o.op ≠ .defer c) → o.uponIn (wideR r) n P a next Q ((o.semAt (wideR r).round a.eval).run P E.w) := by
    rintro ⟨nx, E', s', x, tl, hrun, hK, g', hx, hkp⟩ hnd
    have hsem : o.semAt (wideR r).round a.eval = execOp a.eval o := Oper.semAt_eq _ _ o hnd
    rw [hsem, hrun]
    rcases hx with ⟨v, rfl, hv⟩ | ⟨rfl, rfl⟩
    · rw [Oper.uponIn_value]
      exact hnext _ E' v _ hK ⟨by cases o.dst <;> exact g'.toGam, g'.slots.put o.dst hv⟩ hkp
    · rw [Oper.uponIn_skip]
      exact hnext _ E' undef _ hK ⟨by cases o.dst <;> exact g'.toGam, g'.slots.put o.dst (show RepV E' undef .any from trivial)⟩ hkp
  unfold vcOp at h
  split at h
  · rename_i F hY
    exact doesX (run_opY g hY h) (opY_ne_defer hY)
  split at h
  · rename_i p x hp
    obtain ⟨v, hrun, hv⟩ := run_pure g.slots g.objs hp h.1
    have hsem : o.semAt (wideR r).round a.eval = execOp a.eval o := Oper.semAt_eq _ _ o (pure_ne_defer hp)
    rw [hsem, hrun, Oper.uponIn_value]
    exact hnext _ E v _ h.2 ⟨by cases o.dst <;> exact g.toGam, g.slots.put o.dst hv⟩ (Keep.refl _ _)
  · split at h
    · rename_i p s' x hp
      obtain ⟨nx, E', hrun, g', hx, hkp⟩ := run_heap g hp h.1
      have hsem : o.semAt (wideR r).round a.eval = execOp a.eval o := Oper.semAt_eq _ _ o (heap_ne_defer hp)
      rw [hsem, hrun]
      rcases hx with ⟨v, rfl, hv⟩ | ⟨rfl, rfl⟩
      · rw [Oper.uponIn_value]
        exact hnext _ E' v _ h.2 ⟨by cases o.dst <;> exact g'.toGam, g'.slots.put o.dst hv⟩ hkp
      · rw [Oper.uponIn_skip]
        exact hnext _ E' undef _ h.2 ⟨by cases o.dst <;> exact g'.toGam, g'.slots.put o.dst (show RepV E' undef .any from trivial)⟩ hkp
    · split at h
      · rename_i F hX
        exact doesX (run_opX hC.keys g hX h) (opX_ne_defer hX)
      split at h
      · rename_i fo args argTypes ho
        split at h
        · rename_i f caps hcal
          obtain ⟨vs, hfv, hvl, hvr⟩ := callee_spec (g.slots.ev fo) hcal
          have hnd : ∀ c, o.op ≠ .defer c := by intro c hc; rw [hc] at ho; cases ho
          have hsem : o.semAt (wideR r).round a.eval = execOp a.eval o := Oper.semAt_eq _ _ o hnd
          have hcall := call_sound hC g.toGam g.slots (xs := args.toList.map s.ev ++ caps) (vs := args.toList.map a.eval ++ vs) (by simp [hvl]) (fun i v x hv hx => by
            rw [List.getElem?_append] at hv hx
            simp only [List.length_map] at hv hx
            split at hv
            · rename_i hlt
              rw [if_pos hlt] at hx
              rw [List.getElem?_map, Option.map_eq_some_iff] at hv hx
              obtain ⟨q, hq, rfl⟩ := hv
              obtain ⟨q', hq', rfl⟩ := hx
              rw [hq] at hq'
              injection hq' with hq'
              subst hq'
              exact g.slots.ev _
            · rename_i hge
              rw [if_neg hge] at hx
              exact hvr _ v x hv hx) h
          have hrun : ∀ nx, (callFunc f (args.toList.map a.eval ++ vs).toArray).run P E.w = .ok nx E.w → (execOp a.eval o).run P E.w = .ok nx E.w := by
            intro nx this
            have e1 : (args.map a.eval ++ vs.toArray : Array Value) = (args.toList.map a.eval ++ vs).toArray := by apply Array.ext'; simp
            simp only [execOp, ho, resolve, Deferred.ofValue, hfv, Sem.run_bind, Sem.run_pure, Result.andThen_ok, invoke]
            simp only [Array.empty_append, e1]
            exact this
          rcases hcall with ⟨hent, hcall⟩ | ⟨v, x, s', tl, hval, hK, g', hs', hv, hkp⟩
          · rw [hsem, hrun _ (hent _ _), Oper.uponIn_enter]
            refine ⟨fun hh => by simp [wideR, Fence.wide] at hh, callsIn_wideR (hcall.mono ?_)⟩
            rintro e w' ⟨v, x, s', tl, E', rfl, hK, rfl, g', hs', hv, hkp⟩
            refine hnext _ E' v _ hK ⟨?_, ?_⟩ hkp
            · cases o.dst <;> exact g'
            · exact SlotsOk.put (s := s') hs' o.dst hv
          · rw [hsem, hrun _ hval, Oper.uponIn_value]
            refine hnext _ E v _ hK ⟨?_, ?_⟩ hkp
            · cases o.dst <;> exact g'
            · exact SlotsOk.put (s := s') hs' o.dst hv
        · exact h.elim
      · exact h.elim

end
end Go.Am

namespace Go.Am
open Go.RowKit

/-- Slots that hold a value only where a test has said so (else: nothing): the slot, the test (its slot, what it has to say), whether it says so, the value. -/
abbrev Opt := List (Nat × (Nat × Bool) × Bool × AV)
def look : Opt → Nat → Option ((Nat × Bool) × Bool × AV)
  | [], _ => none
  | (t, q, b, x) :: r, u => if u = t then some (q, b, x) else look r u
def delT : Opt → Nat → Opt
  | [], _ => []
  | (t, q, b, x) :: r, u => if u = t ∨ u = q.1 then delT r u else (t, q, b, x) :: delT r u
def delO (opt : Opt) : Option Nat → Opt
  | none => opt
  | some t => delT opt t
def flatOpt : Opt → Opt
  | [] => []
  | (t, q, b, x) :: r => match flatB x with
    | true => (t, q, b, x) :: flatOpt r
    | false => flatOpt r
def addO (opt : Opt) (d : Option Nat) (q : Nat × Bool) (b : Bool) (x : AV) : Opt := match d with
  | none => opt
  | some t => if t = q.1 then opt else (t, q, b, x) :: opt

/-- Does the slot say so? -/
def says (tmps : Array Value) (q : Nat × Bool) : Prop := tmps[q.1]? = some (.bool q.2)

def OptOk (E : Env) (tmps : Array Value) (opt : Opt) : Prop :=
  ∀ t q b x, (t, q, b, x) ∈ opt → (b = true → RepV E (tmps.getD t undef) x) ∧ (b = false → tmps.getD t undef = undef) ∧ t < tmps.size ∧ (b = true ↔ says tmps q)

/-- Conditions, and what is under them. -/
def allP : List Prop → Prop → Prop
  | [], r => r
  | p :: ps, r => p ∧ allP ps r
def holdP : List Prop → Prop
  | [] => True
  | p :: ps => p ∧ holdP ps
theorem allP_iff : ∀ (ps : List Prop) (r : Prop), allP ps r ↔ holdP ps ∧ r := by
  intro ps
  induction ps with
  | nil => intro r; simp [allP, holdP]
  | cons p ps ih => intro r; simp only [allP, holdP, ih, and_assoc]
/-- Conditions that are asked for where a test says yes. -/
def underP (g : Bool) : List Prop → Prop → Prop
  | [], r => r
  | p :: ps, r => (g = true → holdP (p :: ps)) ∧ r
theorem underP_iff (g : Bool) (ps : List Prop) (r : Prop) : underP g ps r ↔ (g = true → holdP ps) ∧ r := by
  cases ps with
  | nil => simp [underP, holdP]
  | cons p ps => rfl

/-- The condition that a slot holds its value, where the test k is known to say yes. -/
def condOf (k : Option (Nat × Bool)) (q : Nat × Bool) (b : Bool) : List Prop := match k with
  | some k => if k.1 = q.1 ∧ k.2 = q.2 then [] else [b = true]
  | none => [b = true]

/-- The slots that are asked for, with what they hold where their test has said yes; and that it has. -/
def stripS (k : Option (Nat × Bool)) (opt : Opt) : List Operand → St → List Prop × St
  | [], s => ([], s)
  | .tmp t :: os, s => match look opt t with
    | some (q, b, x) => match stripS k opt os (s.put (some t) x) with
      | (ps, s') => (condOf k q b ++ ps, s')
    | none => stripS k opt os s
  | _ :: os, s => stripS k opt os s

/-- What is known where a test has said yes; and what is known else. -/
def keysO (t : Nat) (want : Bool) : Opt → List Operand
  | [] => []
  | (t', q, _, _) :: r => match Nat.beq q.1 t && gEqB q.2 want with
    | true => .tmp t' :: keysO t want r
    | false => keysO t want r
where gEqB : Bool → Bool → Bool
  | true, b => b
  | false, b => !b
def restO (t : Nat) (want : Bool) : Opt → Opt
  | [] => []
  | (t', q, b, x) :: r => match Nat.beq q.1 t && keysO.gEqB q.2 want with
    | true => restO t want r
    | false => (t', q, b, x) :: restO t want r
theorem mem_restO {t : Nat} {want : Bool} {e : Nat × (Nat × Bool) × Bool × AV} : ∀ {opt : Opt}, e ∈ restO t want opt → e ∈ opt := by
  intro opt
  induction opt with
  | nil => intro h; cases h
  | cons f r ih =>
    intro h
    obtain ⟨t', q, b, x⟩ := f
    simp only [restO] at h
    split at h
    · exact List.mem_cons_of_mem _ (ih h)
    · rcases List.mem_cons.1 h with h | h
      · exact h ▸ List.mem_cons_self
      · exact List.mem_cons_of_mem _ (ih h)
theorem OptOk.rest {E : Env} {tmps : Array Value} {opt : Opt} (h : OptOk E tmps opt) (t : Nat) (want : Bool) : OptOk E tmps (restO t want opt) := fun t' q b x hm => h t' q b x (mem_restO hm)

def optEv (s : St) (opt : Opt) : Operand → Option (Nat × Bool) × Bool × AV
  | .tmp t => match look opt t with
    | some (q, b, x) => (some q, b, x)
    | none => (none, true, s.get t)
  | x => (none, true, s.ev x)

/-- The condition that an operand of a choice is there, on the way on which it is taken. -/
def wayP (c : Operand) (want : Bool) (cb : Bool) (q : Option (Nat × Bool)) (b : Bool) : List Prop := match q with
  | none => []
  | some q => match c with
    | .tmp t => if q.1 = t ∧ q.2 = want then [] else [cb = want → b = true]
    | _ => [cb = want → b = true]
def hereP (k : Option (Nat × Bool)) (q : Option (Nat × Bool)) (b : Bool) : List Prop := match q with
  | none => []
  | some q => condOf k q b

def pickAV (k : Option (Nat × Bool)) (c : Operand) (cb : Bool) (qa qb : Option (Nat × Bool)) (ba bb : Bool) (x y : AV) : Option (List Prop × AV) := match x, y with
  | .pl (.bool p), .pl (.bool q) => some (wayP c true cb qa ba ++ wayP c false cb qb bb, .pl (.bool (bif cb then p else q)))
  | x, y => match cb with
    | true => some (hereP k qa ba, x)
    | false => some (hereP k qb bb, y)

/-- Operations that ask for nothing. -/
def easy (P : Program) (s : St) (o : Oper) : Bool := match o.op with
  | .move _ => true
  | .assign _ => true
  | .build _ _ => true
  | .fieldAddr _ _ _ => true
  | .binOp _ _ _ _ _ => true
  | .unOp _ _ _ => true
  | .convert _ _ _ => true
  | .extract _ _ => true
  | .makeFunc _ _ _ => true
  | .call _ => true
  | .load t a => match s.ev a with
    | .ptr l _ j _ => match s.heap[l]? with
      | some (.box _ cs) => match aggB P t, dropC cs j with
        | some true, _ => true
        | _, some (.iarr _ _ _ :: _) => false
        | _, _ => true
      | _ => false
    | .ipt x j _ => match partsOf x with
      | some cs => match aggB P t, dropC cs j with
        | some true, _ => true
        | _, some (.iarr _ _ _ :: _) => false
        | _, _ => true
      | none => false
    | _ => false
  | _ => false

def pureOpt (P : Program) (k : Option (Nat × Bool)) (s : St) (opt : Opt) (o : Oper) : Option (List Prop × AV) := match o.op with
  | .pick c a b => match optEv s opt c with
    | (qc, bc, .pl (.bool cb)) => match optEv s opt a, optEv s opt b with
      | (qa, ba, xa), (qb, bb, xb) => match pickAV k c cb qa qb ba bb xa xb with
        | some (p, x) => some (hereP k qc bc ++ p, x)
        | none => none
    | _ => none
  | _ => match stripS k opt o.op.operands.toList s with
    | (ps, s1) => match pureOp P s1 o with
      | some (p, x) => match easy P s1 o with
        | true => some (ps, x)
        | false => some (ps ++ [p], x)
      | none => none

def gEq (b want : Bool) : Bool := match want with
  | true => b
  | false => !b
theorem gEq_eq (b want : Bool) : gEq b want = (b == want) := by cases b <;> cases want <;> rfl

/-- Is an operation with a guard wanted? -/
def guardOf (s : St) (opt : Opt) (t : Nat) (want : Bool) : Option Bool := match look opt t with
  | some (_, b, .pl (.bool g)) => some (b && gEq g want)
  | some (_, _, .tup []) => some false
  | some _ => none
  | none => match s.get t with
    | .pl (.bool b) => some (gEq b want)
    | .tup [] => some false
    | _ => none

/-- What is known behind a test that said no. -/
def saidNo (s : St) (opt : Opt) (t : Nat) (want : Bool) : St := match look opt t with
  | some _ => s
  | none => match s.get t with
    | .pl (.bool _) => s.put (some t) (.pl (.bool !want))
    | _ => s

def noO : Opt → Nat → Bool → Opt
  | [], _, _ => []
  | (t, q, b, x) :: r, u, want => if u = t then (match x with
      | .pl (.bool _) => (t, q, b, .pl (.bool !want)) :: r
      | _ => (t, q, b, x) :: r) else (t, q, b, x) :: noO r u want
theorem noO_mem {want : Bool} {u : Nat} : ∀ {opt : Opt} {t : Nat} {q : Nat × Bool} {b : Bool} {x : AV}, (t, q, b, x) ∈ noO opt u want → (t, q, b, x) ∈ opt ∨ ∃ g, look opt u = some (q, b, .pl (.bool g)) ∧ t = u ∧ x = .pl (.bool !want) := by
  intro opt
  induction opt with
  | nil => intro t q b x h; cases h
  | cons e r ih =>
    obtain ⟨t', q', b', x'⟩ := e
    intro t q b x h
    simp only [noO] at h
    split at h
    · rename_i hu
      subst hu
      split at h
      · rename_i g
        rcases List.mem_cons.1 h with h | h
        · simp only [Prod.mk.injEq] at h
          obtain ⟨rfl, rfl, rfl, rfl⟩ := h
          exact .inr ⟨g, by simp [look], rfl, rfl⟩
        · exact .inl (List.mem_cons_of_mem _ h)
      · exact .inl h
    · rename_i hu
      rcases List.mem_cons.1 h with h | h
      · exact .inl (by rw [h]; exact List.mem_cons_self)
      · rcases ih h with h | ⟨g, h1, h2⟩
        · exact .inl (List.mem_cons_of_mem _ h)
        · exact .inr ⟨g, by simp [look, hu, h1], h2⟩
theorem look_mem0 : ∀ {opt : Opt} {u : Nat} {q : Nat × Bool} {b : Bool} {x : AV}, look opt u = some (q, b, x) → (u, q, b, x) ∈ opt := by
  intro opt
  induction opt with
  | nil => intro u q b x h; cases h
  | cons e r ih =>
    obtain ⟨t', q', b', x'⟩ := e
    intro u q b x h
    simp only [look] at h
    split at h
    · rename_i hu
      simp only [Option.some.injEq, Prod.mk.injEq] at h
      obtain ⟨rfl, rfl, rfl⟩ := h
      subst hu
      exact List.mem_cons_self
    · exact List.mem_cons_of_mem _ (ih h)
theorem OptOk.no {E : Env} {tmps : Array Value} {opt : Opt} (h : OptOk E tmps opt) {u : Nat} {want : Bool} (hn : ∀ q b g, look opt u = some (q, b, .pl (.bool g)) → (b && gEq g want) = false) : OptOk E tmps (noO opt u want) := by
  intro t q b x hm
  rcases noO_mem hm with hm | ⟨g, hl, rfl, rfl⟩
  · exact h t q b x hm
  · obtain ⟨h1, h2, h3, h4⟩ := h t q b _ (look_mem0 hl)
    refine ⟨fun hb => ?_, h2, h3, h4⟩
    have := hn q b g hl
    rw [hb, gEq_eq, Bool.true_and] at this
    have hg : g = !want := by cases g <;> cases want <;> simp_all
    rw [← hg]
    exact h1 hb

def inSlots (s : St) : Option Nat → Bool
  | none => true
  | some d => Nat.blt d s.slots.length

/- 'force': the same, but so that an evaluation by need has its parts in hand first. -/
def forceN (n : Nat) (k : Nat → Prop) : Prop := match n with
  | 0 => k 0
  | m + 1 => k (m + 1)
theorem forceN_eq (n : Nat) (k : Nat → Prop) : forceN n k = k n := by cases n <;> rfl
def forceV (v : Value) (k : Value → Prop) : Prop := match v with
  | .int a n => k (.int a n)
  | .bool b => k (.bool b)
  | .string x => k (.string x)
  | .slice a n c => k (.slice a n c)
  | .func f a b => k (.func f a b)
  | v => k v
theorem forceV_eq (v : Value) (k : Value → Prop) : forceV v k = k v := by cases v <;> rfl
mutual
def forceA : AV → (AV → Prop) → Prop
  | .any, k => k .any
  | .pl v, k => forceV v fun v => k (.pl v)
  | .iarr a n f, k => k (.iarr a n f)
  | .agg cs, k => forceL cs fun cs => k (.agg cs)
  | .tup cs, k => forceL cs fun cs => k (.tup cs)
  | .rows a n f, k => k (.rows a n f)
  | .own l a b, k => forceN l fun l => k (.own l a b)
  | .ptr l i j d, k => forceN l fun l => forceN j fun j => k (.ptr l i j d)
  | .ipt x j d, k => forceA x fun x => forceN j fun j => k (.ipt x j d)
  | .clo fn cs, k => forceL cs fun cs => k (.clo fn cs)
  | .ifc t x, k => forceA x fun x => k (.ifc t x)
  | .mp l, k => forceN l fun l => k (.mp l)
  | .emp, k => k .emp
def forceL : List AV → (List AV → Prop) → Prop
  | [], k => k []
  | c :: cs, k => forceA c fun c => forceL cs fun cs => k (c :: cs)
end
mutual
theorem forceA_eq : ∀ (x : AV) (k : AV → Prop), forceA x k = k x
  | .any, _ => rfl
  | .pl _, _ => by simp only [forceA, forceV_eq]
  | .iarr _ _ _, _ => rfl
  | .agg cs, k => by simp only [forceA]; rw [forceL_eq cs]
  | .tup cs, k => by simp only [forceA]; rw [forceL_eq cs]
  | .rows _ _ _, _ => rfl
  | .own _ _ _, _ => by simp only [forceA, forceN_eq]
  | .ptr _ _ _ _, _ => by simp only [forceA, forceN_eq]
  | .ipt x _ _, _ => by simp only [forceA]; rw [forceA_eq x]; simp only [forceN_eq]
  | .clo _ cs, k => by simp only [forceA]; rw [forceL_eq cs]
  | .ifc _ x, k => by simp only [forceA]; rw [forceA_eq x]
  | .mp _, _ => by simp only [forceA, forceN_eq]
  | .emp, _ => rfl
theorem forceL_eq : ∀ (cs : List AV) (k : List AV → Prop), forceL cs k = k cs
  | [], _ => rfl
  | c :: cs, k => by simp only [forceL]; rw [forceA_eq c, forceL_eq cs]
end
def forceO (o : LObj) (k : LObj → Prop) : Prop := match o with
  | .dead => k .dead
  | .box t cs => forceL cs fun cs => k (.box t cs)
  | .row a t n f => k (.row a t n f)
  | .raw ob => k (.raw ob)
  | .capo l c => forceN l fun l => k (.capo l c)
  | .mapo kt W has val => k (.mapo kt W has val)
theorem forceO_eq (o : LObj) (k : LObj → Prop) : forceO o k = k o := by cases o <;> simp only [forceO, forceL_eq, forceN_eq]
def forceH : List LObj → (List LObj → Prop) → Prop
  | [], k => k []
  | c :: cs, k => forceO c fun c => forceH cs fun cs => k (c :: cs)
theorem forceH_eq : ∀ (cs : List LObj) (k : List LObj → Prop), forceH cs k = k cs := by
  intro cs
  induction cs with
  | nil => intro k; rfl
  | cons c cs ih => intro k; simp only [forceH, forceO_eq, ih]
def forceS (s : St) (k : St → Prop) : Prop := forceL s.slots fun a => forceH s.heap fun b => k ⟨a, b⟩
theorem forceS_eq (s : St) (k : St → Prop) : forceS s k = k s := by simp only [forceS, forceL_eq, forceH_eq]
def forceOpt : Opt → (Opt → Prop) → Prop
  | [], k => k []
  | (t, q, b, x) :: r, k => forceA x fun x => forceOpt r fun r => k ((t, q, b, x) :: r)
theorem forceOpt_eq : ∀ (r : Opt) (k : Opt → Prop), forceOpt r k = k r := by
  intro r
  induction r with
  | nil => intro k; rfl
  | cons e r ih => obtain ⟨t, q, b, x⟩ := e; intro k; simp only [forceOpt, forceA_eq, ih]

/-- A slice up to a bound, of a row of which it is known how many it has room for: not within what is known. -/
def capped (s : St) (o : Oper) : Bool := match o.op with
  | .slice _ x none (some _) none => match s.ev x with
    | .own l 0 _ => match findCap l s.heap with
      | some _ => true
      | none => false
    | _ => false
  | _ => false
def tryPure (P : Program) (s : St) (opt : Opt) (o : Oper) : Option (List Prop × AV) := match capped s o with
  | true => none
  | false => pureOpt P none s opt o
theorem tryPure_some {P : Program} {s : St} {opt : Opt} {o : Oper} {r : List Prop × AV} (h : tryPure P s opt o = some r) : pureOpt P none s opt o = some r := by
  unfold tryPure at h
  split at h
  · cases h
  · exact h
/-- A test whose answer is known as it stands: its own entry says so. -/
def litOf (opt : Opt) (t : Nat) (want : Bool) : Option Bool := match look opt t with
  | some (q, b, _) => match Nat.beq q.1 t with
    | true => match b with
      | true => some (keysO.gEqB q.2 want)
      | false => none
    | false => none
  | none => none
/-- The entry that says so. -/
def sayO (t : Nat) (w : Bool) (opt : Opt) : Opt := (t, (t, w), true, .pl (.bool w)) :: opt
def knewNo (s : St) (opt : Opt) (t : Nat) (want : Bool) : Opt := match look opt t with
  | some _ => noO opt t want
  | none => match s.get t with
    | .pl (.bool _) => sayO t (!want) opt
    | _ => opt
/-- The condition of one operation that is wanted. -/
def vcFree (P : Program) (C : Table) (s : St) (opt : Opt) (o : Oper) (K : St → Opt → List Nat → Prop) : Prop := match tryPure P s opt o with
  | some (p, x) => allP p (K (s.put o.dst x) (delO opt o.dst) [])
  | none => match stripS none opt o.op.operands.toList s with
    | (ps, s1) => allP ps (vcOp P C s1 o fun s' tl => K s' (delO (flatOpt opt) o.dst) tl)
/-- The condition of one operation of a region; K is told the object that may have been written to. -/
def vcOne (P : Program) (C : Table) (ops : Array Oper) (i : Nat) (s : St) (opt : Opt) (K : St → Opt → List Nat → Prop) : Prop :=
  forceS s fun s => forceOpt opt fun opt => match ops[i]? with
    | none => K s opt []
    | some o => match o.guard with
      | none => vcFree P C s opt o K
      | some (j, want) => match (ops[j]?).bind (·.dst) with
        | none => False
        | some t => match litOf opt t want with
          | some true => vcFree P C s opt o K
          | some false => K (s.put o.dst (.tup [])) (delO opt o.dst) []
          | none => match guardOf s opt t want with
            | none => False
            | some g => match pureOpt P (some (t, want)) s opt o with
              | some (p, x) => match inSlots s o.dst with
                | true => underP g p (K (s.put o.dst .any) (addO (delO opt o.dst) o.dst (t, want) g x) [])
                | false => False
              | none => match stripS (some (t, want)) opt (keysO t want opt ++ o.op.operands.toList) s with
                | (ps, s1) => (g = true → allP ps (vcOp P C (s1.put (some t) (.pl (.bool want))) o fun s' tl => K s' (delO (flatOpt (sayO t want (restO t want (delT opt t)))) o.dst) tl)) ∧
                  (g = false → K ((saidNo s opt t want).put o.dst (.tup [])) (delO (knewNo s opt t want) o.dst) [])

def vcOps (P : Program) (C : Table) (ops : Array Oper) : List Nat → St → Opt → (St → Opt → Prop) → Prop
  | [], s, opt, K => K s opt
  | i :: is, s, opt, K => vcOne P C ops i s opt fun s opt _ => vcOps P C ops is s opt K

section
variable {P : Program} {E0 : Env}

theorem put_defers (a : Act) (d : Option Tmp) (v : Value) : (a.put d v).defers = a.defers := by cases d <;> rfl

theorem get_lt {s : St} {t : Nat} {x : AV} (h : s.get t = x) (hx : x ≠ .any) : s.slots[t]? = some x := by
  unfold St.get at h
  rw [List.getD_eq_getElem?_getD] at h
  cases ht : s.slots[t]? with
  | none => rw [ht] at h; exact absurd h.symm hx
  | some y => rw [ht] at h; simp at h; rw [h]

theorem GamS.val {E : Env} {s : St} {a : Act} (g : GamS E0 E s a) {t : Nat} {v : Value} (h : s.get t = .pl v) : a.tmps[t]? = some v := by
  have h1 := get_lt h (by simp)
  have hlt : t < a.tmps.size := by rw [g.slots.1]; exact (List.getElem?_eq_some_iff.1 h1).1
  have h2 := g.slots.2 t a.tmps[t] _ (Array.getElem?_eq_getElem hlt) h1
  rw [Array.getElem?_eq_getElem hlt, repV_pl h2]

/-- A slot may be said anew, by what is known of its value. -/
theorem GamS.said {E : Env} {s : St} {a : Act} (g : GamS E0 E s a) (t : Nat) {x : AV} (h : RepV E (a.tmps.getD t undef) x) : GamS E0 E (s.put (some t) x) a := by
  refine ⟨g.toGam, by simpa [St.put] using g.slots.1, fun i v y hv hy => ?_⟩
  simp only [St.put] at hy
  rw [List.getElem?_set] at hy
  split at hy
  · rename_i he
    subst he
    split at hy
    · injection hy with hy
      subst hy
      rw [Array.getD_eq_getD_getElem?, hv] at h
      exact h
    · cases hy
  · exact g.slots.2 i v y hv hy

theorem getD_of {tmps : Array Value} {t : Nat} {v : Value} (h : tmps[t]? = some v) : tmps.getD t undef = v := by rw [Array.getD_eq_getD_getElem?, h]; rfl

theorem GamS.refine_ {E : Env} {s : St} {a : Act} (g : GamS E0 E s a) {t : Nat} {b : Bool} (h : s.get t = .pl (.bool b)) : GamS E0 E (s.put (some t) (.pl (.bool b))) a :=
  g.said t (by rw [getD_of (g.val h)]; exact Rep.pl _ rfl)

theorem look_mem : ∀ {opt : Opt} {t : Nat} {q : Nat × Bool} {b : Bool} {x : AV}, look opt t = some (q, b, x) → (t, q, b, x) ∈ opt := by
  intro opt
  induction opt with
  | nil => intro t q b x h; simp [look] at h
  | cons e r ih =>
    intro t q b x h
    obtain ⟨t', q', b', x'⟩ := e
    simp only [look] at h
    split at h
    · rename_i he
      subst he
      simp only [Option.some.injEq, Prod.mk.injEq] at h
      obtain ⟨rfl, rfl, rfl⟩ := h
      exact List.mem_cons_self
    · exact List.mem_cons_of_mem _ (ih h)

/-- A test that is known to say yes. -/
def Known (tmps : Array Value) (k : Option (Nat × Bool)) : Prop := ∀ q, k = some q → says tmps q

theorem condOf_sound {tmps : Array Value} {k : Option (Nat × Bool)} (hk : Known tmps k) {q : Nat × Bool} {b : Bool} (hq : b = true ↔ says tmps q) (h : holdP (condOf k q b)) : b = true := by
  unfold condOf at h
  split at h
  · rename_i k'
    split at h
    · rename_i he
      have : k' = q := Prod.ext he.1 he.2
      subst this
      exact hq.2 (hk k' rfl)
    · exact h.1
  · exact h.1

theorem holdP_append : ∀ {a b : List Prop}, holdP (a ++ b) → holdP a ∧ holdP b := by
  intro a
  induction a with
  | nil => intro b h; exact ⟨trivial, h⟩
  | cons p a ih => intro b h; exact ⟨⟨h.1, (ih h.2).1⟩, (ih h.2).2⟩

theorem strip_sound {E : Env} {a : Act} {opt : Opt} (ho : OptOk E a.tmps opt) {k : Option (Nat × Bool)} (hk : Known a.tmps k) : ∀ (os : List Operand) (s : St), GamS E0 E s a → holdP (stripS k opt os s).1 → GamS E0 E (stripS k opt os s).2 a := by
  intro os
  induction os with
  | nil => intro s g _; exact g
  | cons x os ih =>
    intro s g h
    cases x with
    | tmp t =>
      simp only [stripS] at h ⊢
      split
      · rename_i q b y hl
        rw [hl] at h
        simp only at h
        obtain ⟨h1, h2⟩ := holdP_append h
        obtain ⟨o1, _, _, o4⟩ := ho t q b y (look_mem hl)
        exact ih _ (g.said t (o1 (condOf_sound hk o4 h1))) h2
      · rename_i hl
        rw [hl] at h
        exact ih s g h
    | _ => simp only [stripS] at h ⊢; exact ih s g h

theorem optEv_sound {E : Env} {a : Act} {s : St} {opt : Opt} (g : GamS E0 E s a) (ho : OptOk E a.tmps opt) {x : Operand} {q : Option (Nat × Bool)} {b : Bool} {y : AV} (he : optEv s opt x = (q, b, y)) :
    (b = true → RepV E (a.eval x) y) ∧ (q = none → b = true) ∧ ∀ q', q = some q' → (b = true ↔ says a.tmps q') := by
  cases x with
  | tmp t =>
    simp only [optEv] at he
    split at he
    · rename_i q1 b1 y1 hl
      simp only [Prod.mk.injEq] at he
      obtain ⟨rfl, rfl, rfl⟩ := he
      obtain ⟨o1, _, _, o4⟩ := ho t q1 b1 y1 (look_mem hl)
      exact ⟨o1, fun h => by simp at h, fun q' hq => by injection hq with hq; subst hq; exact o4⟩
    · simp only [Prod.mk.injEq] at he
      obtain ⟨rfl, rfl, rfl⟩ := he
      exact ⟨fun _ => g.slots.get t, fun _ => rfl, fun q' hq => by simp at hq⟩
  | const v =>
    simp only [optEv, Prod.mk.injEq] at he
    obtain ⟨rfl, rfl, rfl⟩ := he
    exact ⟨fun _ => g.slots.ev (.const v), fun _ => rfl, fun q' hq => by simp at hq⟩
  | global v =>
    simp only [optEv, Prod.mk.injEq] at he
    obtain ⟨rfl, rfl, rfl⟩ := he
    exact ⟨fun _ => g.slots.ev (.global v), fun _ => rfl, fun q' hq => by simp at hq⟩
  | func v =>
    simp only [optEv, Prod.mk.injEq] at he
    obtain ⟨rfl, rfl, rfl⟩ := he
    exact ⟨fun _ => g.slots.ev (.func v), fun _ => rfl, fun q' hq => by simp at hq⟩

theorem easy_load {t : TypeId} {cs : List AV} {j d : Nat} {p : Prop} {x : AV} (hl : loadAV P t cs j d = some (p, x)) (he : (match aggB P t, dropC cs j with | some true, _ => true | _, some (.iarr _ _ _ :: _) => false | _, _ => true) = true) : p := by
  unfold loadAV at hl
  split at hl
  · split at hl
    · split at hl
      · simp only [Option.some.injEq, Prod.mk.injEq] at hl
        rw [← hl.1]
        trivial
      · cases hl
    · cases hl
  · rename_i hagg
    rw [hagg] at he
    split at hl
    · rename_i k n f rest hd
      rw [hd] at he
      simp at he
    · cases hl
    · cases hl
    · split at hl
      · simp only [Option.some.injEq, Prod.mk.injEq] at hl
        rw [← hl.1]
        trivial
      · cases hl
    · cases hl
  · cases hl

theorem true_of {p : Prop} {x y : AV} (h : some (True, x) = some (p, y)) : p := by
  simp only [Option.some.injEq, Prod.mk.injEq] at h
  rw [← h.1]
  trivial

theorem easy_spec {s : St} {o : Oper} {p : Prop} {x : AV} (h : pureOp P s o = some (p, x)) (he : easy P s o = true) : p := by
  unfold pureOp at h
  unfold easy at he
  split at h
  · exact true_of h
  · exact true_of h
  · split at h
    · exact true_of h
    · cases h
  · split at h
    · exact true_of h
    · cases h
  · rename_i t ad ho
    rw [ho] at he
    simp only at he
    split at h
    · rename_i l i j d hev
      rw [hev] at he
      simp only at he
      split at h
      · rename_i bt cs hl
        rw [hl] at he
        simp only at he
        split at h
        · exact easy_load h he
        · cases h
      · rename_i k t' n f hl
        rw [hl] at he
        cases he
      · cases h
    · rename_i y j d hev
      rw [hev] at he
      simp only at he
      split at h
      · rename_i cs hcs
        rw [hcs] at he
        simp only at he
        exact easy_load h he
      · cases h
    · cases h
  · split at h
    · exact true_of h
    · cases h
  · rename_i t y f ho; rw [ho] at he; cases he
  · rename_i t y i ho; rw [ho] at he; cases he
  · rename_i t y i ho; rw [ho] at he; cases he
  · rename_i t y lo hi mx ho; rw [ho] at he; cases he
  · split at h
    · exact true_of h
    · cases h
  · split at h
    · exact true_of h
    · cases h
  · split at h
    · exact true_of h
    · cases h
  · split at h
    · split at h
      · exact true_of h
      · cases h
    · cases h
  · split at h
    · exact true_of h
    · cases h
  · split at h
    · exact true_of h
    · cases h
  · cases h

theorem hereP_sound {tmps : Array Value} {k q : Option (Nat × Bool)} {b : Bool} (hk : Known tmps k) (h1 : q = none → b = true) (h2 : ∀ q', q = some q' → (b = true ↔ says tmps q')) (h : holdP (hereP k q b)) : b = true := by
  cases q with
  | none => exact h1 rfl
  | some q => exact condOf_sound hk (h2 q rfl) h

theorem wayP_sound {a : Act} {c : Operand} {want cb : Bool} {q : Option (Nat × Bool)} {b : Bool} (hc : a.eval c = .bool cb) (hcl : ∀ t, c = .tmp t → a.tmps[t]? = some (a.eval c)) (h1 : q = none → b = true) (h2 : ∀ q', q = some q' → (b = true ↔ says a.tmps q'))
    (h : holdP (wayP c want cb q b)) (hw : cb = want) : b = true := by
  cases q with
  | none => exact h1 rfl
  | some q =>
    simp only [wayP] at h
    split at h
    · rename_i t
      split at h
      · rename_i he
        refine (h2 q rfl).2 ?_
        unfold says
        rw [he.1, he.2, hcl t rfl, hc, hw]
      · exact h.1 hw
    · exact h.1 hw

theorem run_pureOptS {T : World → Prop} {E : Env} {s : St} {a : Act} {o : Oper} {opt : Opt} {k : Option (Nat × Bool)} {p : List Prop} {x : AV} (hT : isLoad o.op = true → ∀ w, T w → Same E w) (g : GamS E0 E s a) (ho : OptOk E a.tmps opt) (hk : Known a.tmps k) (h : pureOpt P k s opt o = some (p, x)) (hp : holdP p) :
    (∃ v, (∀ w, T w → (execOp a.eval o).run P w = .ok (.value v) w) ∧ RepV E v x) ∧ ∀ c, o.op ≠ .defer c := by
  unfold pureOpt at h
  split at h
  · rename_i c ea eb hop
    split at h
    · rename_i qc bc cb hev
      split at h
      rename_i qa ba xa qb bb xb hea heb
      split at h
      · rename_i q y hpk
        simp only [Option.some.injEq, Prod.mk.injEq] at h
        obtain ⟨rfl, rfl⟩ := h
        obtain ⟨hp1, hp2⟩ := holdP_append hp
        obtain ⟨c1, c2, c3⟩ := optEv_sound g ho hev
        obtain ⟨a1, a2, a3⟩ := optEv_sound g ho hea
        obtain ⟨b1, b2, b3⟩ := optEv_sound g ho heb
        have hcv := repV_pl (c1 (hereP_sound hk c2 c3 hp1))
        refine ⟨?_, fun c' hh => by rw [hh] at hop; cases hop⟩
        have hcl : ∀ t, c = .tmp t → a.tmps[t]? = some (a.eval c) := by
          rintro t rfl
          have h9 : a.tmps.getD t undef = .bool cb := hcv
          rw [Array.getD_eq_getD_getElem?] at h9
          show a.tmps[t]? = some (a.tmps.getD t undef)
          rw [Array.getD_eq_getD_getElem?]
          cases ht : a.tmps[t]? with
          | none => rw [ht] at h9; cases h9
          | some v => rfl
        have hrun : ∀ v, (if cb then a.eval ea else a.eval eb) = v → ∀ w, T w → (execOp a.eval o).run P w = .ok (.value v) w := by
          intro v hv w _
          simp only [execOp, hop, hcv, asBool, Sem.run_bind, Sem.run_pure, Result.andThen_ok, hv]
        unfold pickAV at hpk
        split at hpk
        · rename_i p1 q1
          simp only [Option.some.injEq, Prod.mk.injEq] at hpk
          obtain ⟨rfl, rfl⟩ := hpk
          obtain ⟨w1, w2⟩ := holdP_append hp2
          refine ⟨_, hrun _ rfl, ?_⟩
          cases hcb : cb with
          | true => simpa [hcb] using a1 (wayP_sound hcv hcl a2 a3 w1 hcb)
          | false => simpa [hcb] using b1 (wayP_sound hcv hcl b2 b3 w2 hcb)
        · split at hpk
          · simp only [Option.some.injEq, Prod.mk.injEq] at hpk
            obtain ⟨rfl, rfl⟩ := hpk
            exact ⟨_, hrun _ rfl, by simpa using a1 (hereP_sound hk a2 a3 hp2)⟩
          · simp only [Option.some.injEq, Prod.mk.injEq] at hpk
            obtain ⟨rfl, rfl⟩ := hpk
            exact ⟨_, hrun _ rfl, by simpa using b1 (hereP_sound hk b2 b3 hp2)⟩
      · cases h
    · cases h
  · split at h
    rename_i ps s1 hst
    have hs1 : s1 = (stripS k opt o.op.operands.toList s).2 := by rw [hst]
    have hps : ps = (stripS k opt o.op.operands.toList s).1 := by rw [hst]
    split at h
    · rename_i q y hpu
      split at h
      · rename_i hez
        simp only [Option.some.injEq, Prod.mk.injEq] at h
        obtain ⟨rfl, rfl⟩ := h
        have g1 : GamS E0 E s1 a := by rw [hs1]; exact strip_sound ho hk _ s g (by rw [← hps]; exact hp)
        exact ⟨run_pureS hT g1.slots g1.objs hpu (easy_spec hpu hez), pure_ne_defer hpu⟩
      · simp only [Option.some.injEq, Prod.mk.injEq] at h
        obtain ⟨rfl, rfl⟩ := h
        obtain ⟨h1, h2⟩ := holdP_append hp
        have g1 : GamS E0 E s1 a := by rw [hs1]; exact strip_sound ho hk _ s g (by rw [← hps]; exact h1)
        exact ⟨run_pureS hT g1.slots g1.objs hpu h2.1, pure_ne_defer hpu⟩
    · cases h

theorem run_pureOpt {E : Env} {s : St} {a : Act} {o : Oper} {opt : Opt} {k : Option (Nat × Bool)} {p : List Prop} {x : AV} (g : GamS E0 E s a) (ho : OptOk E a.tmps opt) (hk : Known a.tmps k) (h : pureOpt P k s opt o = some (p, x)) (hp : holdP p) :
    (∃ v, (execOp a.eval o).run P E.w = .ok (.value v) E.w ∧ RepV E v x) ∧ ∀ c, o.op ≠ .defer c := by
  obtain ⟨⟨v, h1, h2⟩, h3⟩ := run_pureOptS (T := Same E) (fun _ _ h => h) g ho hk h hp
  exact ⟨⟨v, h1 _ (Same.refl E), h2⟩, h3⟩

theorem mem_delT : ∀ {opt : Opt} {u : Nat} {t : Nat} {q : Nat × Bool} {b : Bool} {x : AV}, (t, q, b, x) ∈ delT opt u → (t, q, b, x) ∈ opt ∧ t ≠ u ∧ q.1 ≠ u := by
  intro opt
  induction opt with
  | nil => intro u t q b x h; simp [delT] at h
  | cons e r ih =>
    intro u t q b x h
    obtain ⟨t', q', b', x'⟩ := e
    simp only [delT] at h
    split at h
    · obtain ⟨h1, h2⟩ := ih h
      exact ⟨List.mem_cons_of_mem _ h1, h2⟩
    · rename_i hne
      rcases List.mem_cons.1 h with h | h
      · simp only [Prod.mk.injEq] at h
        obtain ⟨rfl, rfl, rfl, rfl⟩ := h
        exact ⟨List.mem_cons_self, fun e => hne (.inl e.symm), fun e => hne (.inr e.symm)⟩
      · obtain ⟨h1, h2⟩ := ih h
        exact ⟨List.mem_cons_of_mem _ h1, h2⟩

theorem mem_flatOpt : ∀ {opt : Opt} {t : Nat} {q : Nat × Bool} {b : Bool} {x : AV}, (t, q, b, x) ∈ flatOpt opt → (t, q, b, x) ∈ opt ∧ flatB x = true := by
  intro opt
  induction opt with
  | nil => intro t q b x h; simp [flatOpt] at h
  | cons e r ih =>
    intro t q b x h
    obtain ⟨t', q', b', x'⟩ := e
    simp only [flatOpt] at h
    split at h
    · rename_i hf
      rcases List.mem_cons.1 h with h | h
      · simp only [Prod.mk.injEq] at h
        obtain ⟨rfl, rfl, rfl, rfl⟩ := h
        exact ⟨List.mem_cons_self, hf⟩
      · obtain ⟨h1, h2⟩ := ih h
        exact ⟨List.mem_cons_of_mem _ h1, h2⟩
    · obtain ⟨h1, h2⟩ := ih h
      exact ⟨List.mem_cons_of_mem _ h1, h2⟩

theorem put_get {a : Act} {d : Option Nat} {v : Value} {t : Nat} (h : ∀ u, d = some u → t ≠ u) : (a.put d v).tmps[t]? = a.tmps[t]? := by
  cases d with
  | none => rfl
  | some u =>
    have := h u rfl
    simp only [Act.put]
    rw [Array.getElem?_setIfInBounds]
    rw [if_neg (fun e => this e.symm)]

theorem put_getD {a : Act} {d : Option Nat} {v : Value} {t : Nat} (h : ∀ u, d = some u → t ≠ u) : (a.put d v).tmps.getD t undef = a.tmps.getD t undef := by
  rw [Array.getD_eq_getD_getElem?, Array.getD_eq_getD_getElem?, put_get h]

theorem put_size {a : Act} {d : Option Nat} {v : Value} : (a.put d v).tmps.size = a.tmps.size := by cases d <;> simp [Act.put]

theorem OptOk.del {E : Env} {a : Act} {opt : Opt} (ho : OptOk E a.tmps opt) (d : Option Nat) (v : Value) : OptOk E (a.put d v).tmps (delO opt d) := by
  intro t q b x hm
  cases d with
  | none => simpa [delO, Act.put] using ho t q b x hm
  | some u =>
    obtain ⟨h1, h2, h2'⟩ := mem_delT hm
    obtain ⟨h3, h4, h5, h6⟩ := ho t q b x h1
    rw [put_getD (fun w hw => by injection hw with hw; subst hw; exact h2), put_size]
    refine ⟨h3, h4, h5, ?_⟩
    unfold says at h6 ⊢
    rw [put_get (fun w hw => by injection hw with hw; subst hw; exact h2')]
    exact h6

theorem OptOk.flat {E E' : Env} {tmps : Array Value} {opt : Opt} (ho : OptOk E tmps opt) : OptOk E' tmps (flatOpt opt) := by
  intro t q b x hm
  obtain ⟨h1, h2⟩ := mem_flatOpt hm
  obtain ⟨h3, h4, h5, h6⟩ := ho t q b x h1
  exact ⟨fun hb => repV_flat (h3 hb) h2 _, h4, h5, h6⟩

theorem OptOk.delT_ {E : Env} {tmps : Array Value} {opt : Opt} (ho : OptOk E tmps opt) (u : Nat) : OptOk E tmps (delT opt u) :=
  fun t q b x hm => ho t q b x (mem_delT hm).1

theorem gEqB_eq (w want : Bool) : keysO.gEqB w want = (w == want) := by cases w <;> cases want <;> rfl
theorem OptOk.say {E : Env} {tmps : Array Value} {opt : Opt} (ho : OptOk E tmps opt) {t : Nat} {w : Bool} (hs : says tmps (t, w)) : OptOk E tmps (sayO t w opt) := by
  intro t' q b x hm
  rcases List.mem_cons.1 hm with hm | hm
  · simp only [Prod.mk.injEq] at hm
    obtain ⟨rfl, rfl, rfl, rfl⟩ := hm
    have hlt : t' < tmps.size := (Array.getElem?_eq_some_iff.1 hs).1
    have hget : tmps.getD t' undef = .bool w := by
      unfold says at hs
      rw [Array.getD_eq_getD_getElem?, hs]; rfl
    exact ⟨fun _ => (by rw [hget]; exact Rep.pl _ rfl), fun hb => (by cases hb), hlt, ⟨fun _ => hs, fun _ => rfl⟩⟩
  · exact ho t' q b x hm
theorem lit_says {E : Env} {tmps : Array Value} {opt : Opt} (ho : OptOk E tmps opt) {t : Nat} {want g : Bool} (h : litOf opt t want = some g) : ∃ w, says tmps (t, w) ∧ (w == want) = g := by
  unfold litOf at h
  split at h
  · rename_i q b _ hl
    split at h
    · rename_i hb
      split at h
      · injection h with h
        have hu := Nat.eq_of_beq_eq_true hb
        obtain ⟨_, _, _, h4⟩ := ho _ _ _ _ (look_mem hl)
        refine ⟨q.2, ?_, by rw [← h, gEqB_eq]⟩
        rw [← hu]
        exact h4.1 rfl
      · cases h
    · cases h
  · cases h
theorem lit_yields {E : Env} {tmps : Array Value} {ops : Array Oper} {opt : Opt} (ho : OptOk E tmps opt) {j t : Nat} (ht : (ops[j]?).bind (·.dst) = some t) {want g : Bool} (h : litOf opt t want = some g) : (yielded ops tmps j == some want) = g := by
  obtain ⟨w, hs, hw⟩ := lit_says ho h
  unfold says at hs
  simp only [yielded, ht, Option.bind_some, hs]
  rw [← hw]
  cases w <;> cases want <;> rfl

/-- An operation that is wanted does what its condition says. -/
theorem free_sound {C : Table} (hC : TableOk P C) {r : Option Nat} {n : Nat} {Q : Exit → Act → World → Prop} {K : St → Opt → List Nat → Prop} {next : Act → World → Prop} {s : St} {opt : Opt} {E : Env} {a : Act} {o : Oper}
    (g : GamS E0 E s a) (hopt : OptOk E a.tmps opt) (h : vcFree P C s opt o K)
    (hK : ∀ s' opt' tl E' v, K s' opt' tl → GamS E0 E' s' (a.put o.dst v) → OptOk E' (a.put o.dst v).tmps opt' → Keep tl E E' → next (a.put o.dst v) E'.w) : o.wpIn (wideR r) n P a E.w next Q := by
  have hk0 : Known a.tmps none := fun q hq => by cases hq
  unfold vcFree at h
  split at h
  · rename_i p x hpu'
    have hpu := tryPure_some hpu'
    obtain ⟨h1, h2⟩ := (allP_iff _ _).1 h
    obtain ⟨⟨v, hrun, hv⟩, hnd⟩ := run_pureOpt g hopt hk0 hpu h1
    refine ⟨fun _ _ => trivial, ?_⟩
    rw [Oper.semAt_eq _ _ o hnd, hrun, Oper.uponIn_value]
    exact hK _ _ _ E v h2 ⟨by cases o.dst <;> exact g.toGam, g.slots.put o.dst hv⟩ (hopt.del o.dst v) (Keep.refl _ _)
  · generalize hst : stripS none opt o.op.operands.toList s = z at h
    obtain ⟨ps, s1⟩ := z
    simp only at h
    obtain ⟨h1, h2⟩ := (allP_iff _ _).1 h
    have g1 : GamS E0 E s1 a := by
      have := strip_sound hopt hk0 o.op.operands.toList s g (by rw [hst]; exact h1)
      rwa [hst] at this
    exact op_sound hC g1 h2 (fun s' E' v tl hs' g' hkp => hK s' _ _ E' v hs' g' (OptOk.del (OptOk.flat hopt) o.dst v) hkp)

/-- One operation of a region does what its condition says. -/
theorem one_sound {C : Table} (hC : TableOk P C) {r : Option Nat} {n : Nat} {ops : Array Oper} {Q : Exit → Act → World → Prop} {K : St → Opt → List Nat → Prop} {next : Act → World → Prop} {i : Nat} {s : St} {opt : Opt} {E : Env} {a : Act}
    (g : GamS E0 E s a) (hopt : OptOk E a.tmps opt) (h : vcOne P C ops i s opt K)
    (hK : ∀ s' opt' tl E' d v, d = (ops[i]?).bind (·.dst) → K s' opt' tl → GamS E0 E' s' (a.put d v) → OptOk E' (a.put d v).tmps opt' → Keep tl E E' → next (a.put d v) E'.w) : wpOpIn (wideR r) n P ops Q i next a E.w := by
  simp only [vcOne, forceS_eq, forceOpt_eq] at h
  unfold wpOpIn
  have hk0 : Known a.tmps none := fun q hq => by cases hq
  cases ho : ops[i]? with
  | none =>
    rw [ho] at h
    exact hK s opt [] E none undef (by rw [ho]; rfl) h g hopt (Keep.refl _ _)
  | some o =>
    rw [ho] at h
    simp only at h ⊢
    cases hg : o.guard with
    | none =>
      rw [hg] at h
      simp only at h
      rw [if_pos (by simp [Region.wanted, hg])]
      exact free_sound hC g hopt h (fun s' opt' tl E' v hs' g' ho' hkp => hK s' opt' tl E' o.dst v (by rw [ho]; rfl) hs' g' ho' hkp)
    | some jw =>
      obtain ⟨j, want⟩ := jw
      rw [hg] at h
      simp only at h
      split at h
      · exact h.elim
      · rename_i t ht
        have hundef : RepV E undef (.tup []) := ⟨[], rfl, rfl, fun i u x hu => by simp at hu⟩
        split at h
        · rename_i hlit
          rw [if_pos (by simp only [Region.wanted, hg]; exact lit_yields hopt ht hlit)]
          exact free_sound hC g hopt h (fun s' opt' tl E' v hs' g' ho' hkp => hK s' opt' tl E' o.dst v (by rw [ho]; rfl) hs' g' ho' hkp)
        · rename_i hlit
          rw [if_neg (by simp only [Region.wanted, hg]; rw [lit_yields hopt ht hlit]; simp)]
          exact ⟨fun _ _ => trivial, hK _ _ _ E o.dst undef (by rw [ho]; rfl) h ⟨by cases o.dst <;> exact g.toGam, g.slots.put o.dst hundef⟩ (hopt.del o.dst undef) (Keep.refl _ _)⟩
        split at h
        · exact h.elim
        · rename_i gb hgb
          have hy : (yielded ops a.tmps j == some want) = gb := by
            unfold guardOf at hgb
            split at hgb
            · rename_i q b g0 hl
              injection hgb with hgb
              rw [gEq_eq] at hgb
              obtain ⟨h1, h2, h3, _⟩ := hopt t q b _ (look_mem hl)
              have hget : a.tmps[t]? = some (a.tmps.getD t undef) := by rw [Array.getD_eq_getD_getElem?, Array.getElem?_eq_getElem h3]; rfl
              cases b with
              | true =>
                have h4 := repV_pl (h1 rfl)
                simp only [yielded, ht, Option.bind_some, hget, h4]
                rw [← hgb]
                cases g0 <;> cases want <;> rfl
              | false =>
                have h4 := h2 rfl
                simp only [yielded, ht, Option.bind_some, hget, h4]
                rw [← hgb]
                rfl
            · rename_i q b hl
              injection hgb with hgb
              obtain ⟨h1, h2, h3, _⟩ := hopt t q b _ (look_mem hl)
              have hget : a.tmps[t]? = some (a.tmps.getD t undef) := by rw [Array.getD_eq_getD_getElem?, Array.getElem?_eq_getElem h3]; rfl
              rw [← hgb]
              cases b with
              | true =>
                obtain ⟨vs, h4, _⟩ := h1 rfl
                simp only [yielded, ht, Option.bind_some, hget, h4]
                rfl
              | false =>
                have h4 := h2 rfl
                simp only [yielded, ht, Option.bind_some, hget, h4]
                rfl
            · cases hgb
            · split at hgb
              · rename_i b hb
                injection hgb with hgb
                rw [gEq_eq] at hgb
                simp only [yielded, ht, Option.bind_some, g.val hb]
                rw [← hgb]
                cases b <;> cases want <;> rfl
              · rename_i hb
                injection hgb with hgb
                have h1 := get_lt hb (by simp)
                have hlt : t < a.tmps.size := by rw [g.slots.1]; exact (List.getElem?_eq_some_iff.1 h1).1
                obtain ⟨vs, h2, _⟩ := g.slots.2 t a.tmps[t] _ (Array.getElem?_eq_getElem hlt) h1
                simp only [yielded, ht, Option.bind_some, Array.getElem?_eq_getElem hlt, h2]
                rw [← hgb]
                rfl
              · cases hgb
          have hsay : gb = true ↔ says a.tmps (t, want) := by
            rw [← hy]
            unfold says
            simp only [yielded, ht, Option.bind_some, beq_iff_eq]
            constructor
            · intro h9
              split at h9
              · rename_i b hb
                injection h9 with h9
                rw [hb, h9]
              · cases h9
            · intro h9
              rw [h9]
          have hkn : gb = true → Known a.tmps (some (t, want)) := fun hgt q hq => by injection hq with hq; subst hq; exact hsay.1 hgt
          have hundef : RepV E undef (.tup []) := ⟨[], rfl, rfl, fun i u x hu => by simp at hu⟩
          split at h
          · rename_i p x hpu
            have hin9 : inSlots s o.dst = true := by
              cases hi9 : inSlots s o.dst with
              | true => rfl
              | false => rw [hi9] at h; exact h.elim
            rw [hin9] at h
            simp only at h
            obtain ⟨hu1, hu2⟩ := (underP_iff _ _ _).1 h
            have step : ∀ v, ((gb = true → RepV E v x) ∧ (gb = false → v = undef)) → next (a.put o.dst v) E.w := by
              intro v hv
              refine hK _ _ _ E o.dst v (by rw [ho]; rfl) hu2 ⟨by cases o.dst <;> exact g.toGam, g.slots.put o.dst (show RepV E v .any from trivial)⟩ ?_ (Keep.refl _ _)
              intro t' q' b' x' hm
              cases hdst : o.dst with
              | none =>
                rw [hdst] at hm
                simp only [addO, delO] at hm
                simpa [Act.put] using hopt t' q' b' x' hm
              | some d =>
                rw [hdst] at hm
                simp only [addO, delO] at hm
                split at hm
                · exact (OptOk.del hopt (some d) v) t' q' b' x' hm
                · rename_i hdt
                  rcases List.mem_cons.1 hm with hm | hm
                  · simp only [Prod.mk.injEq] at hm
                    obtain ⟨rfl, rfl, rfl, rfl⟩ := hm
                    have hin : t' < a.tmps.size := by
                      have h9 := hin9
                      rw [hdst] at h9
                      simp only [inSlots, Nat.blt_eq] at h9
                      rw [g.slots.1]
                      exact h9
                    have : (a.put (some t') v).tmps.getD t' undef = v := by
                      rw [Array.getD_eq_getD_getElem?]
                      simp [Act.put, hin]
                    rw [this, put_size]
                    refine ⟨hv.1, hv.2, hin, ?_⟩
                    unfold says at hsay ⊢
                    rw [put_get (fun w hw => by injection hw with hw; subst hw; exact fun e => hdt e.symm)]
                    exact hsay
                  · exact (OptOk.del hopt (some d) v) t' q' b' x' hm
            cases hgb' : gb with
            | true =>
              rw [if_pos (by simp only [Region.wanted, hg]; rw [hy]; exact hgb')]
              obtain ⟨⟨v, hrun, hv⟩, hnd⟩ := run_pureOpt g hopt (hkn hgb') hpu (hu1 hgb')
              refine ⟨fun _ _ => trivial, ?_⟩
              rw [Oper.semAt_eq _ _ o hnd, hrun, Oper.uponIn_value]
              exact step v ⟨fun _ => hv, fun hh => by rw [hgb'] at hh; cases hh⟩
            | false =>
              rw [if_neg (by simp only [Region.wanted, hg]; rw [hy, hgb']; simp)]
              exact ⟨fun _ _ => trivial, step undef ⟨fun hh => by (rw [hgb'] at hh; cases hh), fun _ => rfl⟩⟩
          · generalize hst : stripS (some (t, want)) opt (keysO t want opt ++ o.op.operands.toList) s = z at h
            obtain ⟨ps, s1⟩ := z
            simp only at h
            cases hgb' : gb with
            | true =>
              rw [if_pos (by simp only [Region.wanted, hg]; rw [hy]; exact hgb')]
              obtain ⟨h1, h2⟩ := (allP_iff _ _).1 (h.1 hgb')
              have g1 : GamS E0 E s1 a := by
                have := strip_sound hopt (hkn hgb') (keysO t want opt ++ o.op.operands.toList) s g (by rw [hst]; exact h1)
                rwa [hst] at this
              have g2 : GamS E0 E (s1.put (some t) (.pl (.bool want))) a := by
                refine g1.said t ?_
                have h9 := hsay.1 hgb'
                unfold says at h9
                rw [getD_of h9]
                exact Rep.pl _ rfl
              exact op_sound hC g2 h2 (fun s' E' v tl hs' g' hkp => hK s' _ _ E' o.dst v (by rw [ho]; rfl) hs' g' (OptOk.del (OptOk.flat (((hopt.delT_ t).rest t want).say (hsay.1 hgb'))) o.dst v) hkp)
            | false =>
              rw [if_neg (by simp only [Region.wanted, hg]; rw [hy, hgb']; simp)]
              refine ⟨fun _ _ => trivial, ?_⟩
              have g1 : GamS E0 E (saidNo s opt t want) a := by
                unfold saidNo
                split
                · exact g
                · rename_i hl
                  split
                  · rename_i b hb
                    have : b = !want := by
                      unfold guardOf at hgb
                      rw [hl] at hgb
                      simp only [hb] at hgb
                      injection hgb with hgb
                      rw [gEq_eq, hgb'] at hgb
                      cases b <;> cases want <;> simp_all
                    rw [← this]
                    exact g.refine_ hb
                  · exact g
              refine hK _ _ _ E o.dst undef (by rw [ho]; rfl) (h.2 hgb') ⟨?_, g1.slots.put o.dst hundef⟩ (OptOk.del ?_ o.dst undef) (Keep.refl _ _)
              case refine_2 =>
                unfold knewNo
                split
                · refine hopt.no ?_
                  intro q b g0 hl
                  unfold guardOf at hgb
                  rw [hl] at hgb
                  simp only at hgb
                  injection hgb with hgb
                  rw [hgb, hgb']
                · rename_i hl
                  split
                  · rename_i b hb
                    refine hopt.say ?_
                    have : b = !want := by
                      unfold guardOf at hgb
                      rw [hl] at hgb
                      simp only [hb] at hgb
                      injection hgb with hgb
                      rw [gEq_eq, hgb'] at hgb
                      cases b <;> cases want <;> simp_all
                    rw [← this]
                    unfold says
                    exact g.val hb
                  · exact hopt
              cases o.dst <;> exact g1.toGam

theorem ops_sound {C : Table} (hC : TableOk P C) {DP : Env → List Deferred → Prop} (hDP : ∀ {E E' : Env} {tl : List Nat} {ds : List Deferred}, DP E ds → Keep tl E E' → DP E' ds) {r : Option Nat} {n : Nat} {ops : Array Oper} {Q : Exit → Act → World → Prop} {K : St → Opt → Prop} : ∀ (is : List Nat) (s : St) (opt : Opt) (E : Env) (a : Act), GamS E0 E s a → OptOk E a.tmps opt → DP E a.defers → vcOps P C ops is s opt K →
    (∀ s' opt' E' a', K s' opt' → GamS E0 E' s' a' → OptOk E' a'.tmps opt' → DP E' a'.defers → Q .normal a' E'.w) → wpOpsIn (wideR r) n P ops Q is a E.w := by
  intro is
  induction is with
  | nil => intro s opt E a g ho hd h hK; exact hK s opt E a h g ho hd
  | cons i is ih =>
    intro s opt E a g hopt hd h hK
    simp only [vcOps] at h
    rw [wpOpsIn_cons]
    exact one_sound hC g hopt h fun s' opt' _ E' d v _ hs g' ho' hkp => ih s' opt' E' _ g' ho' (by rw [put_defers]; exact hDP hd hkp) hs hK

/-- In whatever world a state stands for, the code comes to an exit and a state of which Q holds. -/
def AWp (nb : Nat) (r : Option Nat) (P : Program) (c : Code) (Q : Exit → St → Prop) (s : St) : Prop :=
  ∀ (E0 E : Env) (a : Act) (n : Nat) (R : List (Nat × Obj)), E0.m = nb → GamS E0 E s a → ProtR r E0 R E a.defers → c.wpIn (wideR r) n P (fun e a' w' => ∃ s' E', Q e s' ∧ GamS E0 E' s' a' ∧ E'.w = w' ∧ ProtR r E0 R E' a'.defers) a E.w

variable {nb : Nat} {r : Option Nat} {Q Q' : Exit → St → Prop} {s : St}

theorem AWp.mono {c : Code} (h : AWp nb r P c Q s) (hq : ∀ e s', Q e s' → Q' e s') : AWp nb r P c Q' s :=
  fun E0 E a n R hb g hd => wpIn_mono (h E0 E a n R hb g hd) fun _ _ _ ⟨s', E', hQ, rest⟩ => ⟨s', E', hq _ _ hQ, rest⟩

/-- How the code behind goes on from a normal end. -/
def thenK (K : St → Prop) (Q : Exit → St → Prop) : Exit → St → Prop
  | .normal, s => K s
  | e, s => Q e s

theorem awp_seq {x y : Code} (h : AWp nb r P x (thenK (AWp nb r P y Q) Q) s) : AWp nb r P (.seq x y) Q s := by
  intro E0 E a n R hb g hd
  refine wpIn_seq (wpIn_mono (h E0 E a n R hb g hd) ?_)
  rintro e a' w' ⟨s', E', hQ, g', rfl, hd'⟩
  cases e with
  | normal => exact hQ E0 E' a' n R hb g' hd'
  | _ => exact ⟨s', E', hQ, g', rfl, hd'⟩

theorem awp_skip (h : Q .normal s) : AWp nb r P .skip Q s := fun _ E _ _ _ _ g hd => wpIn_skip ⟨s, E, h, g, rfl, hd⟩
theorem awp_ret (h : Q .ret s) : AWp nb r P .ret Q s := fun _ E _ _ _ _ g hd => wpIn_ret ⟨s, E, h, g, rfl, hd⟩
theorem awp_exit {id : Nat} (h : Q (.exit id) s) : AWp nb r P (.exit id) Q s := fun _ E _ _ _ _ g hd => wpIn_exit ⟨s, E, h, g, rfl, hd⟩

def blockK (id : Nat) (Q : Exit → St → Prop) : Exit → St → Prop
  | .exit i, s => if i = id then Q .normal s else Q (.exit i) s
  | e, s => Q e s

theorem awp_block {id : Nat} {c : Code} (h : AWp nb r P c (blockK id Q) s) : AWp nb r P (.block id c) Q s := by
  intro E0 E a n R hb g hd
  refine wpIn_block (wpIn_mono (h E0 E a n R hb g hd) ?_)
  rintro e a' w' ⟨s', E', hQ, g', rfl, hd'⟩
  cases e with
  | exit i =>
    simp only [Exit.inBlock, blockK] at hQ ⊢
    split at hQ
    · rename_i he; rw [if_pos he]; exact ⟨s', E', hQ, g', rfl, hd'⟩
    · rename_i he; rw [if_neg he]; exact ⟨s', E', hQ, g', rfl, hd'⟩
  | _ => exact ⟨s', E', hQ, g', rfl, hd'⟩

/-- What is known of a condition on its two ways. -/
def condSt (c : Operand) (s : St) (b : Bool) : St := match c with
  | .tmp t => s.put (some t) (.pl (.bool b))
  | _ => s

theorem awp_cond {c : Operand} {x y : Code} {b : Bool} (hc : s.ev c = .pl (.bool b)) (ht : b = true → AWp nb r P x Q (condSt c s true)) (hf : b = false → AWp nb r P y Q (condSt c s false)) : AWp nb r P (.cond c x y) Q s := by
  intro E0 E a n R hb g hd
  have hev := g.slots.ev c
  rw [hc] at hev
  have hv := repV_pl hev
  have hs : ∀ b', b = b' → GamS E0 E (condSt c s b') a := by
    rintro b' rfl
    cases c with
    | tmp t => exact g.refine_ hc
    | _ => exact g
  cases b with
  | true => exact wpIn_cond_true hv (ht rfl E0 E a n R hb (hs _ rfl) hd)
  | false => exact wpIn_cond_false hv (hf rfl E0 E a n R hb (hs _ rfl) hd)

theorem awp_region {C : Table} (hC : TableOk P C) {id : Nat} {ops : Array Oper} (h : vcOps P C ops (List.range ops.size) s [] fun s _ => Q .normal s) : AWp nb r P (.region id ops false) Q s :=
  fun E0 E a _ _ _ g hd => wpIn_region (ops_sound hC (DP := ProtR r E0 _) (fun h k => h.keep k) _ s [] E a g (fun t q b x hm => by simp at hm) hd h fun s' _ E' _ hK g' _ hd' => ⟨s', E', hK, g', rfl, hd'⟩)

/-- A loop, so many rounds at most. -/
def LoopN (nb : Nat) (r : Option Nat) (P : Program) (c : Code) (Q : Exit → St → Prop) : Nat → St → Prop
  | 0, _ => False
  | m + 1, s => AWp nb r P c (thenK (LoopN nb r P c Q m) Q) s

theorem exists_min {p : Nat → Prop} (h : ∃ m, p m) : ∃ m, p m ∧ ∀ k, k < m → ¬ p k := by
  obtain ⟨m, hm⟩ := h
  induction m using Nat.strongRecOn with
  | _ m ih =>
    by_cases hk : ∃ k, k < m ∧ p k
    · obtain ⟨k, hk, hp⟩ := hk
      exact ih k hk hp
    · exact ⟨m, hm, fun k hkm hp => hk ⟨k, hkm, hp⟩⟩

theorem awp_loop {c : Code} (m : Nat) (h : LoopN nb r P c Q m s) : AWp nb r P (.loop c) Q s := by
  intro E0 E a n R hb g hd
  let U : Nat → Act → World → Prop := fun m a' w' => ∃ s' E', LoopN nb r P c Q m s' ∧ GamS E0 E' s' a' ∧ E'.w = w' ∧ ProtR r E0 R E' a'.defers
  have mu : ∃ μ : Act → World → Nat, ∀ a' w', (∃ m, U m a' w') → U (μ a' w') a' w' ∧ ∀ k, U k a' w' → μ a' w' ≤ k := by
    have : ∀ x : Act × World, ∃ m, (∃ m, U m x.1 x.2) → U m x.1 x.2 ∧ ∀ k, U k x.1 x.2 → m ≤ k := by
      intro x
      by_cases hx : ∃ m, U m x.1 x.2
      · obtain ⟨m, hm, hmin⟩ := exists_min hx
        exact ⟨m, fun _ => ⟨hm, fun k hk => Nat.le_of_not_lt fun hlt => hmin k hlt hk⟩⟩
      · exact ⟨0, fun h => absurd h hx⟩
    exact ⟨fun a' w' => Classical.choose (this (a', w')), fun a' w' hx => Classical.choose_spec (this (a', w')) hx⟩
  obtain ⟨μ, hμ⟩ := mu
  refine wpIn_loop (fun a' w' => ∃ m, U m a' w') μ ⟨m, s, E, h, g, rfl, hd⟩ ?_
  intro a' w' hx
  obtain ⟨h1, h2⟩ := hμ a' w' hx
  obtain ⟨s', E', hL, g', rfl, hd'⟩ := h1
  cases hm : μ a' E'.w with
  | zero => rw [hm] at hL; exact hL.elim
  | succ q =>
    rw [hm] at hL
    refine wpIn_mono (hL E0 E' a' n R hb g' hd') ?_
    rintro e a'' w'' ⟨s'', E'', hQ, g'', rfl, hd''⟩
    cases e with
    | normal =>
      have hU : U q a'' E''.w := ⟨s'', E'', hQ, g'', rfl, hd''⟩
      exact ⟨⟨q, hU⟩, by have := (hμ a'' E''.w ⟨q, hU⟩).2 q hU; omega⟩
    | _ => exact ⟨s'', E'', hQ, g'', rfl, hd''⟩

end
end Go.Am

namespace Go.Am
open Go.RowKit

section
variable {P : Program} {E0 E : Env} {H : List LObj}

def notTup : AV → Bool
  | .tup _ => false
  | .iarr .. => false
  | _ => true

/-- One result. -/
def oneRes (P : Program) (s : St) : ResultVar → Option (Prop × AV)
  | .tmp t => match notTup (s.get t) with
    | true => some (True, s.get t)
    | false => none
  | .cell a t => match s.get a with
    | .ptr l i j d => match s.heap[l]? with
      | some (.box _ cs) => match i with
        | 0 => loadAV P t cs j d
        | _ + 1 => none
      | _ => none
    | _ => none

def allRes (P : Program) (s : St) : List ResultVar → Option (Prop × List AV)
  | [] => some (True, [])
  | x :: xs => match oneRes P s x, allRes P s xs with
    | some (p, y), some (q, ys) => match notTup y with
      | true => some (p ∧ q, y :: ys)
      | false => none
    | _, _ => none

def oneRun (tmps : Array Value) : ResultVar → Sem Value := fun
    | .tmp t => pure (tmps.getD t undef)
    | .cell a t => do loadVar t (← asAddr (tmps.getD a undef))

theorem run_oneRes {s : St} {a : Act} (g : GamS E0 E s a) {x : ResultVar} {p : Prop} {y : AV} (h : oneRes P s x = some (p, y)) (hp : p) : ∃ v, (oneRun a.tmps x).run P E.w = .ok v E.w ∧ RepV E v y := by
  cases x with
  | tmp t =>
    simp only [oneRes] at h
    split at h
    · simp only [Option.some.injEq, Prod.mk.injEq] at h
      obtain ⟨_, rfl⟩ := h
      exact ⟨_, rfl, g.slots.get t⟩
    · cases h
  | cell b t =>
    simp only [oneRes] at h
    have hb := g.slots.get b
    split at h
    · rename_i l i j d hev
      split at h
      · rename_i bt cs hl
        split at h
        · have hb' : RepV E (a.tmps.getD b undef) (s.get b) := hb
          rw [hev] at hb'
          obtain ⟨L, us, hL, _, _, hg, hr⟩ := g.objs _ _ hl
          obtain ⟨L', hL', hv⟩ := Rep.ptr_inv (show Rep E [_] (.ptr l 0 j d) from hb')
          rw [hL] at hL'
          injection hL' with hL'
          subst hL'
          have hm : Mem E.w ⟨L.b, 0, none⟩ us := fun i u hu => by
            rw [addr_add, cell_of_row E.w L.b _ _ _ _ hg]
            simpa using hu
          obtain ⟨v, hrun, hv2⟩ := run_loadAV (T := fun w => w = E.w) (fun w hw => by rw [hw]; exact hm) hr h hp
          have hrun := hrun E.w rfl
          refine ⟨v, ?_, hv2⟩
          rw [addr_add, show 0 + (j + d) = 0 * L.k + j + d by omega] at hrun
          simp only [oneRun, hv, asAddr, Sem.run_bind, Sem.run_pure, Result.andThen_ok]
          simpa [Instr.loadAt, Instr.sureAddr] using hrun
        · cases h
      · cases h
    · cases h

theorem run_allRes {s : St} {a : Act} (g : GamS E0 E s a) : ∀ {xs : List ResultVar} {p : Prop} {ys : List AV}, allRes P s xs = some (p, ys) → p →
    ∃ vs : List Value, (xs.mapM (oneRun a.tmps)).run P E.w = .ok vs E.w ∧ vs.length = ys.length ∧ (∀ (i : Nat) (v : Value) (y : AV), vs[i]? = some v → ys[i]? = some y → RepV1 E v y) := by
  intro xs
  induction xs with
  | nil =>
    intro p ys h _
    simp only [allRes, Option.some.injEq, Prod.mk.injEq] at h
    obtain ⟨_, rfl⟩ := h
    exact ⟨[], by simp, rfl, fun i v y hv => by simp at hv⟩
  | cons x xs ih =>
    intro p ys h hp
    simp only [allRes] at h
    split at h
    · rename_i p1 y q ys' h1 h2
      split at h
      · rename_i hnt
        simp only [Option.some.injEq, Prod.mk.injEq] at h
        obtain ⟨rfl, rfl⟩ := h
        obtain ⟨v, hv1, hv2⟩ := run_oneRes g h1 hp.1
        obtain ⟨vs, hvs1, hvs2, hvs3⟩ := ih h2 hp.2
        refine ⟨v :: vs, by simp only [List.mapM_cons, Sem.run_bind, hv1, hvs1, Result.andThen_ok, Sem.run_pure], by simp [hvs2], fun i u z hu hz => ?_⟩
        cases i with
        | zero =>
          simp at hu hz
          subst hu hz
          rwa [repV_eq _ (by intro zs hh; subst hh; simp [notTup] at hnt)] at hv2
        | succ i => exact hvs3 i u z (by simpa using hu) (by simpa using hz)
      · cases h
    · cases h

def packRes : List AV → AV
  | [x] => x
  | xs => .tup xs

theorem run_results {fn : Func} {s : St} {a : Act} (g : GamS E0 E s a) {p : Prop} {ys : List AV} (h : allRes P s fn.results.toList = some (p, ys)) (hp : p) : ∃ v, (results fn a.tmps).run P E.w = .ok v E.w ∧ RepV E v (packRes ys) := by
  obtain ⟨vs, h1, h2, h3⟩ := run_allRes g h hp
  have e1 : (results fn a.tmps).run P E.w = .ok (if hh : vs.toArray.size = 1 then vs.toArray[0] else .tuple vs.toArray) E.w := by
    have e2 : results fn a.tmps = (do let vs ← fn.results.mapM (oneRun a.tmps); pure (if h : vs.size = 1 then vs[0] else .tuple vs)) := rfl
    rw [e2, Array.mapM_eq_mapM_toList]
    simp only [Sem.run_bind, Sem.run_map, h1, Result.andThen_ok, Sem.run_pure]
  refine ⟨_, e1, ?_⟩
  clear h h1 e1
  match vs, ys, h2, h3 with
  | [], [], _, h3 => exact ⟨[], by simp, rfl, h3⟩
  | [v], [y], _, h3 =>
    have := h3 0 v y rfl rfl
    simp only [packRes]
    cases y with
    | tup xs => exact this.elim
    | _ => exact this
  | v :: v' :: vs, y :: y' :: ys, h2, h3 => exact ⟨v :: v' :: vs, by simp, h2, h3⟩

/-- What is handed back: an owned row as such, all else frozen. -/
def retOf (H : List LObj) : AV → Option (Prop × AV × List LObj)
  | .own l off n => match H[l]? with
    | some (.row k t m f) => some (True, .own 0 off n, [.row k t m f])
    | _ => none
  | .tup (.own l off n :: ys) => match H[l]?, immVs ys with
    | some (.row k t m f), true => some (True, .tup (.own 0 off n :: ys), [.row k t m f])
    | _, _ => none
  | .tup xs => match argVs [] H xs with
    | some (p, ys) => some (p, .tup ys, [])
    | none => none
  | x => match argV [] H x with
    | some (p, y) => some (p, y, [])
    | none => none

theorem gam_lent (g : Gam E0 E H) (h0 : E0.m = 0) : Gam E0 (E.lent []) [] where
  objs := fun l o hl => by simp at hl
  dom := fun l L hL => by simp [Env.lent] at hL
  own := fun l L hL => by simp [Env.lent] at hL
  inj := fun l l' L L' hL => by simp [Env.lent] at hL
  lt := by
    rintro b (hb | ⟨l, L, hL, hc, rfl, _⟩)
    · exact g.lt b hb
    · exact (g.own l L hL hc).2.1
  up := fun b hb => .inl (g.up b hb)
  down := by
    rintro b (hb | ⟨l, L, hL, hc, rfl, _⟩)
    · exact g.down b hb
    · exact .inr (g.own l L hL hc).1
  below := g.below
  stay := fun l hl => by omega
  hm := by rw [h0]; exact Nat.zero_le _

def Env.only (E : Env) (l : Nat) : Env := { w := E.w, F := E.F, m := E.m, loc := fun q => if q = 0 then E.loc l else none }

theorem gam_only (g : Gam E0 E H) {l : Nat} {k : Nat} {t : TypeId} {m : Nat} {f : Nat → AV} (hl : H[l]? = some (.row k t m f)) (h0 : E0.m = 0) : Gam E0 (E.only l) [.row k t m f] where
  objs := by
    intro q o hq
    cases q with
    | zero =>
      simp at hq
      subst hq
      obtain ⟨L, hL, h1, h2, h3, h4, h5⟩ := g.objs _ _ hl
      exact ⟨L, by simp [Env.only, hL], h1, h2, h3, h4, h5⟩
    | succ q => simp at hq
  dom := by
    intro q L hL
    simp only [Env.only] at hL
    split at hL
    · simp; omega
    · cases hL
  own := by
    intro q L hL hc
    simp only [Env.only] at hL
    split at hL
    · exact g.own l L hL hc
    · cases hL
  inj := by
    intro q q' L L' hL hL' _ _ _
    simp only [Env.only] at hL hL'
    split at hL <;> split at hL' <;> first | omega | cases hL | cases hL'
  lt := g.lt
  up := g.up
  down := g.down
  below := g.below
  stay := fun l hl => by omega
  hm := by rw [h0]; exact Nat.zero_le _

theorem only_imm (E : Env) (l : Nat) : (E.only l).imm = E.imm := rfl

theorem repV1_only {v : Value} {x : AV} {l : Nat} (h : RepV1 E v x) (hi : immB x = true) : RepV1 (E.only l) v x := by
  have e : Ext E.imm (E.only l) := ⟨fun _ h => h, fun _ _ => rfl, fun _ _ h => by simp at h⟩
  cases x <;> first
    | exact trivial
    | exact h.elim
    | (simp [immB] at hi; done)
    | exact (rep_imm (show Rep E [v] _ from h) hi).mono e
    | (obtain ⟨us, hv, hr⟩ := h; exact ⟨us, hv, (rep_imm hr hi).mono e⟩)

theorem argC_notTup {ks : List Nat} {x y : AV} {p : Prop} (h : argC ks H x = some (p, y)) (zs : List AV) : y ≠ .tup zs := by
  unfold argC at h
  split at h
  · split at h
    · simp only [Option.some.injEq, Prod.mk.injEq] at h
      obtain ⟨_, rfl⟩ := h
      intro hh; cases hh
    · split at h
      · simp only [Option.some.injEq, Prod.mk.injEq] at h
        obtain ⟨_, rfl⟩ := h
        intro hh; cases hh
      · cases h
  · unfold argC0 at h
    split at h
    · split at h
      · simp only [Option.some.injEq, Prod.mk.injEq] at h
        obtain ⟨_, rfl⟩ := h
        intro hh; cases hh
      · cases h
    · split at h
      · split at h
        · split at h
          · simp only [Option.some.injEq, Prod.mk.injEq] at h
            obtain ⟨_, rfl⟩ := h
            intro hh; cases hh
          · cases h
        · cases h
      · simp only [Option.some.injEq, Prod.mk.injEq] at h
        obtain ⟨_, rfl⟩ := h
        intro hh; cases hh
      · cases h
    · split at h
      · rename_i him
        simp only [Option.some.injEq, Prod.mk.injEq] at h
        obtain ⟨_, rfl⟩ := h
        intro hh
        subst hh
        simp [immB] at him
      · cases h

theorem argV_notTup {ks : List Nat} {x y : AV} {p : Prop} (h : argV ks H x = some (p, y)) (zs : List AV) : y ≠ .tup zs := by
  unfold argV at h
  split at h
  · split at h
    · simp only [Option.some.injEq, Prod.mk.injEq] at h
      obtain ⟨_, rfl⟩ := h
      intro hh; cases hh
    · cases h
  · exact argC_notTup h zs

theorem ret_sound (g : Gam E0 E H) (h0 : E0.m = 0) {x y : AV} {v : Value} {p : Prop} {H' : List LObj} (hx : RepV E v x) (h : retOf H x = some (p, y, H')) (hp : p) : ∃ E', E'.w = E.w ∧ Gam E0 E' H' ∧ RepV E' v y := by
  unfold retOf at h
  split at h
  · rename_i l off n
    split at h
    · rename_i k t m f hl
      simp only [Option.some.injEq, Prod.mk.injEq] at h
      obtain ⟨_, rfl, rfl⟩ := h
      obtain ⟨L, A, hL, hb, hA, rfl⟩ := Rep.own_inv (show Rep E [v] (.own l off n) from hx)
      exact ⟨E.only l, rfl, gam_only g hl h0, Rep.own (E := E.only l) (l := 0) (by simp [Env.only, hL]) hb hA⟩
    · cases h
  · rename_i l off n ys
    split at h
    · rename_i k t m f hl him
      simp only [Option.some.injEq, Prod.mk.injEq] at h
      obtain ⟨_, rfl, rfl⟩ := h
      obtain ⟨vs, hv, hvl, hvr⟩ := hx
      refine ⟨E.only l, rfl, gam_only g hl h0, vs, hv, by simpa using hvl, fun i u z hu hz => ?_⟩
      cases i with
      | zero =>
        simp at hz
        subst hz
        obtain ⟨L, A, hL, hb, hA, rfl⟩ := Rep.own_inv (show Rep E [u] (.own l off n) from hvr 0 u _ hu rfl)
        exact Rep.own (E := E.only l) (l := 0) (by simp [Env.only, hL]) hb hA
      | succ i =>
        have hz' : ys[i]? = some z := by simpa using hz
        exact repV1_only (hvr (i + 1) u z hu (by simpa using hz)) (immVs_get him hz')
    · cases h
  · rename_i xs _
    split at h
    · rename_i q ys ha
      simp only [Option.some.injEq, Prod.mk.injEq] at h
      obtain ⟨rfl, rfl, rfl⟩ := h
      obtain ⟨vs, hv, hvl, hvr⟩ := hx
      have hne : ∀ (i : Nat) (u : Value) (z : AV), vs[i]? = some u → xs[i]? = some z → RepV E u z := by
        intro i u z hu hz
        have := hvr i u z hu hz
        cases z with
        | tup zs => exact this.elim
        | _ => exact this
      obtain ⟨h1, h2⟩ := argVs_rep g hvl hne ha hp
      have hnt : ∀ (H : List LObj) {xs ys : List AV} {q : Prop}, argVs [] H xs = some (q, ys) → ∀ (i : Nat) (z : AV), ys[i]? = some z → ∀ zs, z ≠ .tup zs := by
        intro H xs
        induction xs with
        | nil =>
          intro ys q ha i z hz
          simp only [argVs, Option.some.injEq, Prod.mk.injEq] at ha
          obtain ⟨_, rfl⟩ := ha
          simp at hz
        | cons x xs ih =>
          intro ys q ha i z hz zs hzz
          simp only [argVs] at ha
          split at ha
          · rename_i p1 y1 q1 ys1 hy1 hys1
            simp only [Option.some.injEq, Prod.mk.injEq] at ha
            obtain ⟨_, rfl⟩ := ha
            cases i with
            | zero =>
              simp at hz
              subst hz
              exact argV_notTup hy1 zs hzz
            | succ i => exact ih hys1 i z (by simpa using hz) zs hzz
          · cases ha
      refine ⟨E.lent [], rfl, gam_lent g h0, vs, hv, h1, fun i u z hu hz => ?_⟩
      have := h2 i u z hu hz
      rwa [repV_eq _ (hnt H ha i z hz)] at this
    · cases h
  · split at h
    · rename_i q z ha
      simp only [Option.some.injEq, Prod.mk.injEq] at h
      obtain ⟨rfl, rfl, rfl⟩ := h
      exact ⟨E.lent [], rfl, gam_lent g h0, argV_rep g hx ha hp⟩
    · cases h

def RetK (P : Program) (fn : Func) (s : St) (R : AV → List LObj → Prop) : Prop := match allRes P s fn.results.toList with
  | some (p, ys) => match retOf s.heap (packRes ys) with
    | some (q, y, H') => p ∧ q ∧ R y H'
    | none => False
  | none => False

def finalK (P : Program) (fn : Func) (R : AV → List LObj → Prop) : Exit → St → Prop
  | .normal, s => RetK P fn s R
  | .ret, s => RetK P fn s R
  | _, _ => False

def startSt (fn : Func) (args : List AV) : St := { slots := args ++ List.replicate (fn.ntmps - args.length) .any, heap := [] }

/-- At the end the marks are taken off. -/
theorem leaves_marks {fn : Func} {sl : List AV} {tmps : Array Value} {n : Nat} {R : Ending → World → Prop} : ∀ (Ds : List Nat) {E : Env} {H : List LObj}, Ds.Nodup → (∀ D ∈ Ds, MarkOk E0 E D) → Gam E0 E H → SlotsOk E tmps sl →
    (∀ E', Gam E0 E' H → SlotsOk E' tmps sl → ∃ v w', (results fn tmps).run P E'.w = .ok v w' ∧ w' = E'.w ∧ R (.returned v) w') → LeavesInM Fence.wide n P fn tmps R (Ds.map mark) .returning E.w := by
  intro Ds
  induction Ds with
  | nil =>
    intro E H _ _ g hs hk
    obtain ⟨v, w', h1, rfl, h2⟩ := hk E g hs
    exact ⟨v, h1, h2⟩
  | cons D Ds ih =>
    intro E H hn hok g hs hk
    have hD := hok D List.mem_cons_self
    have hlt : D < E.w.heap.size := (Array.getElem?_eq_some_iff.1 hD.at_).1
    let E1 : Env := { E with w := E.w.putObj D (.deferred none) }
    have hoth : ∀ b, b ≠ D → E1.w.heap[b]? = E.w.heap[b]? := fun b hb => World.putObj_heap_other hb
    have hcell : ∀ a : Addr, E1.w.cell? a = E.w.cell? a := by
      intro a
      by_cases ha : a.block = D
      · simp only [World.cell?, ha]
        rw [show E1.w.heap[D]? = some (.deferred none) from World.putObj_heap_same hlt, hD.at_]
      · exact World.cell?_of_block (w := E.w) (hoth _ ha)
    have e : Ext E E1 := ⟨fun _ h => h, fun a _ => hcell a, fun _ _ h => h⟩
    have hsz : E1.w.heap.size = E.w.heap.size := by simp [E1, World.putObj]
    have g1 : Gam E0 E1 H := {
      objs := fun l o hl => (g.objs l o hl).mono e (fun L hL hc => hoth _ (hD.own l L hL hc))
      dom := g.dom
      own := fun l L hL hc => by have := g.own l L hL hc; exact ⟨this.1, by rw [hsz]; exact this.2.1, this.2.2⟩
      inj := g.inj
      lt := fun b hb => by rw [hsz]; exact g.lt b hb
      up := g.up
      down := g.down
      below := g.below.next rfl rfl rfl (by rw [hsz]; exact Nat.le_refl _) (fun k hk => hoth k (fun e => hD.new (e ▸ hk)))
      stay := g.stay
      hm := g.hm }
    refine ⟨by simp, .inl ⟨D, E1.w, rfl, run_takeDeferred hD.at_, ?_⟩⟩
    refine ih (List.nodup_cons.1 hn).2 (fun D' hD' => ?_) g1 (hs.mono e) hk
    have h' := hok D' (List.mem_cons_of_mem _ hD')
    refine ⟨?_, h'.own, h'.new⟩
    rw [hoth D' (fun e => (List.nodup_cons.1 hn).1 (e ▸ hD'))]
    exact h'.at_

theorem start_slots {fn : Func} {args : List AV} {vs : List Value} {H0 : List LObj} (g0 : Gam E0 E0 H0) (hl : vs.length = args.length) (hr : ∀ (i : Nat) (v : Value) (x : AV), vs[i]? = some v → args[i]? = some x → RepV E0 v x) :
    GamS E0 E0 { slots := args ++ List.replicate (fn.ntmps - args.length) .any, heap := H0 } { tmps := vs.toArray ++ Array.replicate (fn.ntmps - vs.toArray.size) undef, defers := [] } := by
  refine ⟨g0, by simp [hl], fun i v x hv hx => ?_⟩
  simp only at hx
  rw [List.getElem?_append] at hx
  rw [Array.getElem?_append] at hv
  simp only [List.size_toArray, hl] at hv
  split at hx
  · rename_i hlt'
    rw [if_pos hlt'] at hv
    exact hr i v x (by simpa using hv) hx
  · rw [List.getElem?_replicate] at hx
    split at hx
    · injection hx with hx
      subst hx
      exact trivial
    · cases hx

theorem spec_of_code {f : FuncId} {fn : Func} {c : Code} {args : List AV} {R : AV → List LObj → Prop} (hf : P.funcs[f]? = some fn) (hb : fn.body = some c) (h : AWp 0 none P c (finalK P fn R) (startSt fn args)) : Spec P f args R := by
  intro E0 vs hloc hm0 hlt hl hr
  have g0 : Gam E0 E0 [] := {
    objs := fun l o hl => by simp at hl
    dom := fun l L hL => by rw [hloc] at hL; cases hL
    own := fun l L hL => by rw [hloc] at hL; cases hL
    inj := fun l l' L L' hL => by rw [hloc] at hL; cases hL
    lt := hlt
    up := fun _ h => h
    down := fun _ h => .inl h
    below := BelowO.refl _
    stay := fun l hl => .inl rfl
    hm := by rw [hm0]; exact Nat.zero_le _ }
  have gs := start_slots (fn := fn) g0 hl hr
  refine callsIn_wide.1 (callsIn_of_wp_marks (F := Fence.wide) (n := 0) hf hb trivial ?_)
  refine wpIn_mono (h E0 E0 _ 0 [] hm0 gs (Prot.nil _ _)) ?_
  rintro e a' w' ⟨s', E', hQ, g', rfl, hd⟩
  obtain ⟨Ds, hn, hds, hok⟩ := hd.marks
  have hret : RetK P fn s' R → LeavesInM Fence.wide 0 P fn a'.tmps (fun e w' => ∃ v x H E', e = .returned v ∧ R x H ∧ E'.w = w' ∧ Gam E0 E' H ∧ RepV E' v x) a'.defers .returning E'.w := by
    intro hk
    unfold RetK at hk
    rw [hds]
    refine leaves_marks Ds hn hok g'.toGam g'.slots (fun E2 g2 hs2 => ?_)
    split at hk
    · rename_i p ys hall
      split at hk
      · rename_i q y H' hro
        obtain ⟨hp, hq, hR⟩ := hk
        obtain ⟨v, h1, h2⟩ := run_results (a := a') ⟨g2, hs2⟩ hall hp
        obtain ⟨E3, hw3, g3, hv3⟩ := ret_sound g2 hm0 h2 hro hq
        exact ⟨v, E2.w, h1, rfl, v, y, H', E3, rfl, hR, hw3, g3, hv3⟩
      · exact hk.elim
    · exact hk.elim
  cases e with
  | normal => exact hret hQ
  | ret => exact hret hQ
  | _ => exact hQ.elim

def RetKH (P : Program) (fn : Func) (s : St) (R : AV → List LObj → Prop) : Prop := match allRes P s fn.results.toList with
  | some (p, ys) => p ∧ R (packRes ys) s.heap
  | none => False

def finalKH (P : Program) (fn : Func) (R : AV → List LObj → Prop) : Exit → St → Prop
  | .normal, s => RetKH P fn s R
  | .ret, s => RetKH P fn s R
  | _, _ => False

def startStH (fn : Func) (H0 : List LObj) (args : List AV) : St := { slots := args ++ List.replicate (fn.ntmps - args.length) .any, heap := H0 }

/-- A function that is handed objects. -/
theorem spec_of_codeH {f : FuncId} {fn : Func} {c : Code} {H0 : List LObj} {args : List AV} {R : AV → List LObj → Prop} (hf : P.funcs[f]? = some fn) (hb : fn.body = some c) (h : AWp H0.length none P c (finalKH P fn R) (startStH fn H0 args)) : SpecH P f H0 args R := by
  intro E0 vs g0 hm0 hl hr
  have gs := start_slots (fn := fn) g0 hl hr
  refine callsIn_wide.1 (callsIn_of_wp_marks (F := Fence.wide) (n := 0) hf hb trivial ?_)
  refine wpIn_mono (h E0 E0 _ 0 [] hm0 gs (Prot.nil _ _)) ?_
  rintro e a' w' ⟨s', E', hQ, g', rfl, hd⟩
  obtain ⟨Ds, hn, hds, hok⟩ := hd.marks
  have hret : RetKH P fn s' R → LeavesInM Fence.wide 0 P fn a'.tmps (fun e w' => ∃ v x H E', e = .returned v ∧ R x H ∧ E'.w = w' ∧ Gam E0 E' H ∧ RepV E' v x) a'.defers .returning E'.w := by
    intro hk
    unfold RetKH at hk
    rw [hds]
    refine leaves_marks Ds hn hok g'.toGam g'.slots (fun E2 g2 hs2 => ?_)
    split at hk
    · rename_i p ys hall
      obtain ⟨hp, hR⟩ := hk
      obtain ⟨v, h1, h2⟩ := run_results (a := a') ⟨g2, hs2⟩ hall hp
      exact ⟨v, E2.w, h1, rfl, v, _, _, E2, rfl, hR, rfl, g2, h2⟩
    · exact hk.elim
  cases e with
  | normal => exact hret hQ
  | ret => exact hret hQ
  | _ => exact hQ.elim

end
end Go.Am
