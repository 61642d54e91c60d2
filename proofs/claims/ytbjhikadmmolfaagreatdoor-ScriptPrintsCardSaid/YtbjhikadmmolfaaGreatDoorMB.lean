/- Calls: what is handed to a function, and what comes back. -/
import Derived.Test.YtbjhikadmmolfaaGreatDoorMA
import Derived.WideKeyMaps
import Derived.MapKept
import Derived.DeepKeys3
import Derived.WalkSpells
import Derived.Lib.AppendZerosOnto
import Derived.Lib.AppendStr
import Derived.Lib.UnsafeStr
import Derived.Lib.ConvBytes
import Derived.Lib.Builder
import Derived.Laws.MakeOwn
import Derived.Laws.IdiomStrings
import Derived.RangeFuncSeq
set_option linter.unusedSectionVars false
set_option linter.unusedVariables false
set_option linter.unusedSimpArgs false
namespace Go.Am
open Go.RowKit
variable [Inhabited GlT]
def Spec (P : Program) (f : FuncId) (args : List AV) (R : AV -> List LObj -> Prop) : Prop :=
 ∀ (E0 : Env) (vs : List Value), (∀ l, E0.loc l = none) -> E0.m = 0 -> (∀ b, E0.F b -> b < E0.w.heap.size) -> GloE E0 -> vs.length = args.length -> (∀ (i : Nat) (v : Value) (x : AV), vs[i]? = some v -> args[i]? = some x -> RepV E0 v x) ->
  Calls P f vs.toArray E0.w λ e w' => ∃ v x H E', e = .returned v /\ R x H /\ E'.w = w' /\ Gam E0 E' H /\ RepV E' v x
theorem Spec.mono {P : Program} {f : FuncId} {args : List AV} {R R' : AV -> List LObj -> Prop} (h : Spec P f args R) (hr : ∀ x H, R x H -> R' x H) : Spec P f args R' :=
 λ E0 vs h1 h0 h2 hG h3 h4 => (h E0 vs h1 h0 h2 hG h3 h4).mono λ _ _ ⟨v, x, H, E', he, hR, hw, hg, hv⟩ => ⟨v, x, H, E', he, hr x H hR, hw, hg, hv⟩
mutual
def flatB : AV -> Bool
 | .any => true
 | .pl _ => true
 | .iarr _ _ _ => true
 | .agg cs => flatL cs
 | .tup cs => flatL cs
 | .ifc _ x => flatB x
 | .emp => true
 | .rows _ _ _ => false
 | .own _ _ _ => false
 | .ptr _ _ _ _ => false
 | .ipt _ _ _ => false
 | .clo _ _ => false
 | .mp _ => false
def flatL : List AV -> Bool
 | [] => true
 | c :: cs => flatB c && flatL cs
end
theorem flatL_get {cs : List AV} (h : flatL cs = true) {i : Nat} {c : AV} (hc : cs[i]? = some c) : flatB c = true := by
 induction cs generalizing i with
 | nil => simp at hc
 | cons d cs ih =>
  simp only [flatL, Bool.and_eq_true] at h
  cases i with
  | zero => simp at hc; subst hc; exact h.1
  | succ i => exact ih h.2 (by simpa using hc)
theorem rep_flat {E : Env} {us : List Value} {x : AV} (h : Rep E us x) : flatB x = true -> ∀ E2 : Env, Rep E2 us x := by
 induction h with
 | any v h => intro _ E2; exact .any v h
 | pl v h => intro _ E2; exact .pl v h
 | iarr hl h => intro _ E2; exact .iarr hl h
 | nil => intro _ E2; exact .nil
 | cons hl _ _ ih1 ih2 =>
  intro hi E2
  simp only [flatB, flatL, Bool.and_eq_true] at hi ih2
  exact .cons hl (ih1 hi.1 E2) (ih2 hi.2 E2)
 | ifc hv _ ih => intro hi E2; exact .ifc hv (ih (by simpa [flatB] using hi) E2)
 | ifca _ ih => intro hi E2; exact .ifca (ih (by simpa [flatB] using hi) E2)
 | emp A => intro _ E2; exact .emp A
 | _ => intro hi; simp [flatB] at hi
theorem repV1_flat {E : Env} {v : Value} {x : AV} (h : RepV1 E v x) (hf : flatB x = true) (E2 : Env) : RepV1 E2 v x := by
 cases x <;> first
  | exact trivial
  | exact h.elim
  |(obtain ⟨us, hv, hr⟩ := h; exact ⟨us, hv, rep_flat hr hf E2⟩)
  | exact rep_flat (show Rep E [v] _ from h) hf E2
theorem repV_flat {E : Env} {v : Value} {x : AV} (h : RepV E v x) (hf : flatB x = true) (E2 : Env) : RepV E2 v x := by
 cases x with
 | tup xs => obtain ⟨vs, hv, hl, hr⟩ := h; exact ⟨vs, hv, hl, λ i u y hu hy => repV1_flat (hr i u y hu hy) (flatL_get (by simpa [flatB] using hf) hy) E2⟩
 | _ => simp only [RepV] at h ⊢; exact repV1_flat h hf E2
mutual
def shB (d : Nat) : AV -> AV
 | .any => .any
 | .pl v => .pl v
 | .iarr k n f => .iarr k n f
 | .agg cs => .agg (shL d cs)
 | .tup cs => .tup (shL d cs)
 | .rows k n f => .rows k n f
 | .own l a b => .own (l + d) a b
 | .ptr l i j e => .ptr (l + d) i j e
 | .ipt x j e => .ipt x j e
 | .clo fn cs => .clo fn (shL d cs)
 | .ifc t x => .ifc t (shB d x)
 | .mp l => .mp (l + d)
 | .emp => .emp
def shL (d : Nat) : List AV -> List AV
 | [] => []
 | c :: cs => shB d c :: shL d cs
end
theorem shL_get (d : Nat) : ∀ (cs : List AV) (i : Nat), (shL d cs)[i]? = (cs[i]?).map (shB d) := by
 intro cs
 induction cs with
 | nil => intro i; simp [shL]
 | cons c cs ih => intro i; cases i with
  | zero => simp [shL]
  | succ i => simpa [shL] using ih i
theorem shL_length (d : Nat) (cs : List AV) : (shL d cs).length = cs.length := by
 induction cs with
 | nil => simp [shL]
 | cons c cs ih => simp [shL, ih]
theorem cw_sh (d : Nat) (c : AV) : cw (shB d c) = cw c := by cases c <;> simp only [shB] <;> rfl
structure ExtSh (d : Nat) (E E' : Env) : Prop where
 F : ∀ b, E.F b -> E'.F b
 cell : ∀ a : Addr, E.F a.block -> E'.w.cell? a = E.w.cell? a
 loc : ∀ q L, E.loc q = some L -> E'.loc (q + d) = some L
theorem ExtSh.imm {d : Nat} {E E' : Env} (h : ExtSh d E E') : Ext E.imm E'.imm := ⟨h.F, h.cell, λ _ _ h => by simp at h⟩
theorem rep_sh {d : Nat} {E : Env} {us : List Value} {x : AV} (h : Rep E us x) : ∀ {E' : Env}, ExtSh d E E' -> Rep E' us (shB d x) := by
 induction h with
 | any v h => intro E' _; exact .any v h
 | pl v h => intro E' _; exact .pl v h
 | iarr hl h => intro E' _; exact .iarr hl h
 | nil => intro E' _; exact .nil
 | cons hl _ _ ih1 ih2 =>
  intro E' e
  have h2 := ih2 e
  simp only [shB] at h2
  simp only [shB, shL]
  exact .cons (by rw [cw_sh]; exact hl) (ih1 e) h2
 | rows hc hm ha hl hcell h _ =>
  intro E' e
  simp only [shB]
  refine .rows hc hm (λ h => ⟨(ha h).1, e.F _ (ha h).2⟩) hl (λ i hi j u hu => ?_) (λ i hi => (h i hi).mono e.imm)
  rw [e.cell _ (by rw [block_add]; exact (ha (by omega)).2)]
  exact hcell i hi j u hu
 | own hL hb ha => intro E' e; exact .own (e.loc _ _ hL) hb ha
 | ptr hL => intro E' e; exact .ptr (e.loc _ _ hL)
 | ipt hF hcell h _ =>
  intro E' e
  refine .ipt (e.F _ hF) (λ i u hu => ?_) (h.mono e.imm)
  rw [e.cell _ (by rw [block_add]; exact hF)]
  exact hcell i u hu
 | clo hl h ih =>
  intro E' e
  simp only [shB]
  refine .clo (by rw [shL_length]; exact hl) (λ i v c hv hc => ?_)
  rw [shL_get, Option.map_eq_some_iff] at hc
  obtain ⟨c', hc', rfl⟩ := hc
  exact ih i v c' hv hc' e
 | ifc hv _ ih => intro E' e; exact .ifc hv (ih e)
 | ifca _ ih =>
  intro E' e
  have h2 := ih e
  simp only [shB] at h2 ⊢
  exact .ifca h2
 | mp hL => intro E' e; exact .mp (e.loc _ _ hL)
 | emp A => intro E' _; exact .emp A
theorem repV1_sh {d : Nat} {E E' : Env} {v : Value} {x : AV} (h : RepV1 E v x) (e : ExtSh d E E') : RepV1 E' v (shB d x) := by
 cases x <;> first
  | exact trivial
  | exact h.elim
  | exact rep_sh (show Rep E [v] _ from h) e
  |(obtain ⟨us, hv, hr⟩ := h
    have h2 := rep_sh hr e
    simp only [shB] at h2 ⊢
    exact ⟨us, hv, h2⟩)
theorem repV_sh {d : Nat} {E E' : Env} {v : Value} {x : AV} (h : RepV E v x) (e : ExtSh d E E') : RepV E' v (shB d x) := by
 cases x with
 | tup xs =>
  obtain ⟨vs, hv, hl, hr⟩ := h
  refine ⟨vs, hv, by rw [shL_length]; exact hl, λ i u y hu hy => ?_⟩
  rw [shL_get, Option.map_eq_some_iff] at hy
  obtain ⟨y', hy', rfl⟩ := hy
  exact repV1_sh (hr i u y' hu hy') e
 | _ =>
  rw [repV_eq _ (by intro xs hh; cases hh)] at h
  rw [repV_eq _ (by intro xs hh; simp only [shB] at hh; cases hh)]
  exact repV1_sh h e
def shO (d : Nat) : LObj -> LObj
 | .box t cs => .box t (shL d cs)
 | .prow t cs => .prow t (shL d cs)
 | .capo q c => .capo (q + d) c
 | o => o
theorem ObjOk.sh {d q : Nat} {E E' : Env} {o : LObj} (h : ObjOk E q o) (e : ExtSh d E E') (hw : E'.w = E.w) : ObjOk E' (q + d) (shO d o) := by
 cases o with
 | dead => trivial
 | box t cs =>
  obtain ⟨L, us, hL, ht, hc, hg, hr⟩ := h
  have := rep_sh hr e
  simp only [shB] at this
  exact ⟨L, us, e.loc _ _ hL, ht, hc, by rw [hw]; exact hg, this⟩
 | row k t n f =>
  obtain ⟨L, hL, ht, hk, hn, hm, hrow⟩ := h
  refine ⟨L, e.loc _ _ hL, ht, hk, hn, hm, λ hpos => ?_⟩
  obtain ⟨arr, hg, hsz, hel⟩ := hrow hpos
  refine ⟨arr, by rw [hw]; exact hg, hsz, λ i hi => ?_⟩
  obtain ⟨us, h1, h2, h3⟩ := hel i hi
  exact ⟨us, h1, h2.mono e.imm, h3⟩
 | prow t cs =>
  obtain ⟨L, us, hL, ht, hk, hc, hn, h0, hg, hr⟩ := h
  have := rep_sh hr e
  simp only [shB] at this
  exact ⟨L, us, e.loc _ _ hL, ht, hk, hc, by rw [shL_length]; exact hn, h0, by rw [hw]; exact hg, this⟩
 | raw ob =>
  obtain ⟨L, hL, hc, hg⟩ := h
  exact ⟨L, e.loc _ _ hL, hc, by rw [hw]; exact hg⟩
 | capo q2 c =>
  obtain ⟨L, hL, hc⟩ := h
  exact ⟨L, e.loc _ _ hL, hc⟩
 | mapo kt W has val =>
  obtain ⟨L, es, clock, hL, hc, hg, h1, h2, h3, h4⟩ := h
  exact ⟨L, es, clock, e.loc _ _ hL, hc, by rw [hw]; exact hg, h1, h2, h3, λ x hx => (h4 x hx).mono e.imm⟩
def posN : List Nat -> Nat -> Option Nat
 | [], _ => none
 | k :: ks, q => match Nat.beq q k with
  | true => some 0
  | false => match posN ks q with
   | some j => some (j + 1)
   | none => none
def nodupN : List Nat -> Bool
 | [] => true
 | k :: ks => (match posN ks k with
  | some _ => false
  | none => true) && nodupN ks
theorem posN_get : ∀ {ks : List Nat} {q j : Nat}, posN ks q = some j -> ks[j]? = some q := by
 intro ks
 induction ks with
 | nil => intro q j h; simp [posN] at h
 | cons k ks ih =>
  intro q j h
  simp only [posN] at h
  split at h
  ·rename_i he
   injection h with h
   subst h
   rw [Nat.eq_of_beq_eq_true he]
   rfl
  ·cases hp : posN ks q with
   | none => rw [hp] at h; cases h
   | some j' =>
    rw [hp] at h
    injection h with h
    subst h
    simpa using ih hp
theorem posN_none : ∀ {ks : List Nat} {q j : Nat}, posN ks q = none -> ks[j]? ≠ some q := by
 intro ks
 induction ks with
 | nil => intro q j _ h; simp at h
 | cons k ks ih =>
  intro q j hp h
  simp only [posN] at hp
  split at hp
  ·cases hp
  ·rename_i hne
   cases j with
   | zero =>
    simp at h
    subst h
    exact (Nat.ne_of_beq_eq_false hne : ¬ k = k) rfl
   | succ j =>
    refine ih (j := j) ?_ (by simpa using h)
    cases hq : posN ks q with
    | none => rfl
    | some x => rw [hq] at hp; cases hp
theorem nodupN_inj : ∀ {ks : List Nat}, nodupN ks = true -> ∀ {i j q : Nat}, ks[i]? = some q -> ks[j]? = some q -> i = j := by
 intro ks
 induction ks with
 | nil => intro _ i j q h; simp at h
 | cons k ks ih =>
  intro hn i j q hi hj
  simp only [nodupN, Bool.and_eq_true] at hn
  obtain ⟨h1, h2⟩ := hn
  have hk : posN ks k = none := by
   cases hq : posN ks k with
   | none => rfl
   | some x => rw [hq] at h1; cases h1
  cases i with
  | zero =>
   cases j with
   | zero => rfl
   | succ j =>
    simp at hi
    subst hi
    exact absurd (by simpa using hj) (posN_none (j := j) hk)
  | succ i =>
   cases j with
   | zero =>
    simp at hj
    subst hj
    exact absurd (by simpa using hi) (posN_none (j := i) hk)
   | succ j => exact congrArg (· + 1) (ih h2 (by simpa using hi) (by simpa using hj))
theorem posN_of {ks : List Nat} (hn : nodupN ks = true) {j q : Nat} (h : ks[j]? = some q) : posN ks q = some j := by
 cases hp : posN ks q with
 | none => exact absurd h (posN_none hp)
 | some i => rw [nodupN_inj hn (posN_get hp) h]
def Env.lends (E : Env) (ks : List Nat) (b : Nat) : Prop := ∃ l L, E.loc l = some L /\ 0 < L.cap /\ L.b = b /\ posN ks l = none
theorem lends_nil {E : Env} {b : Nat} : E.lends [] b ↔ E.owns b :=
 ⟨λ ⟨l, L, h1, h2, h3, _⟩ => ⟨l, L, h1, h2, h3⟩, λ ⟨l, L, h1, h2, h3⟩ => ⟨l, L, h1, h2, h3, rfl⟩⟩
def argC0 (ks : List Nat) (H : List LObj) : AV -> Option (Prop × AV)
 | .own l off len => match posN ks l, H[l]? with
  | none, some (.row k _ n f) => some (off + len <= n, .rows k len (λ i => f (off + i)))
  | _, _ => none
 | .ptr l i j d => match posN ks l, H[l]? with
  | none, some (.box _ cs) => match i with
   | 0 => if immL cs then some (True, .ipt (.agg cs) j d) else none
   | _ + 1 => none
  | none, some (.row _ _ n f) => some (i < n, .ipt (f i) j d)
  | _, _ => none
 | x => if immB x then some (True, x) else none
def argCl (ks : List Nat) (H : List LObj) : List AV -> Option (Prop × List AV)
 | [] => some (True, [])
 | c :: cs => match argC0 ks H c, argCl ks H cs with
  | some (p, x), some (q, xs) => some (p /\ q, x :: xs)
  | _, _ => none
def argC (ks : List Nat) (H : List LObj) : AV -> Option (Prop × AV)
 | .clo fn cs => match immL cs with
  | true => some (True, .clo fn cs)
  | false => match argCl ks H cs with
   | some (p, ys) => some (p, .clo fn ys)
   | none => none
 | x => argC0 ks H x
def argL (ks : List Nat) (H : List LObj) : List AV -> Option (Prop × List AV)
 | [] => some (True, [])
 | c :: cs => match argC ks H c, argL ks H cs with
  | some (p, x), some (q, xs) => some (p /\ q, x :: xs)
  | _, _ => none
def argV (ks : List Nat) (H : List LObj) : AV -> Option (Prop × AV)
 | .agg cs => match argL ks H cs with
  | some (p, xs) => some (p, .agg xs)
  | none => none
 | x => argC ks H x
def argVs (ks : List Nat) (H : List LObj) : List AV -> Option (Prop × List AV)
 | [] => some (True, [])
 | c :: cs => match argV ks H c, argVs ks H cs with
  | some (p, x), some (q, xs) => some (p /\ q, x :: xs)
  | _, _ => none
def Env.lent (E : Env) (ks : List Nat) : Env := { w := E.w, F := λ b => E.F b ∨ E.lends ks b, loc := λ _ => none, m := 0 }
theorem ext_lent (E : Env) (ks : List Nat) : Ext E.imm (E.lent ks) := ⟨λ _ h => .inl h, λ _ _ => rfl, λ _ _ h => by simp at h⟩
theorem ext_lent_imm (E : Env) (ks : List Nat) : Ext E.imm (E.lent ks).imm := ⟨λ _ h => .inl h, λ _ _ => rfl, λ _ _ h => by simp at h⟩
section
variable {P : Program} {E0 E : Env} {H : List LObj}
theorem argC0_rep (g : Gam E0 E H) {x y : AV} {v : Value} {p : Prop} (h : Rep E [v] x) {ks : List Nat} (ha : argC0 ks H x = some (p, y)) (hp : p) : Rep (E.lent ks) [v] y /\ cw y = cw x := by
 unfold argC0 at ha
 split at ha
 ·rename_i l off len
  split at ha
  ·rename_i k t n f hpn hl
   simp only [Option.some.injEq, Prod.mk.injEq] at ha
   obtain ⟨rfl, rfl⟩ := ha
   obtain ⟨L, A, hL, hb, hA, rfl⟩ := h.own_inv
   obtain ⟨L', hL', ht, hk, hn, hm, hrow⟩ := g.objs _ _ hl
   rw [hL] at hL'
   injection hL' with hL'
   subst hL'
   refine ⟨?_, rfl⟩
   by_cases hpos : 0 < L.cap
   ·obtain ⟨arr, hg, hsz, hel⟩ := hrow hpos
    have hel' : ∀ i, ∃ us : List Value, i < n -> us.length = k /\ Rep E.imm us (f i) /\ ∀ (j : Nat) (u : Value), us[j]? = some u -> arr[i * k + j]? = some u := by
     intro i
     by_cases hi : i < n
     ·obtain ⟨us, hus⟩ := hel i hi
      exact ⟨us, λ _ => hus⟩
     ·exact ⟨[], λ h => absurd h hi⟩
    refine Rep.rows (us := λ i => Classical.choose (hel' (off + i))) (a := ⟨L.b, off * k, none⟩) (by omega) (by omega) (λ h0 => ⟨by rw [hA (by omega), hk], .inr ⟨l, L, hL, hpos, rfl, hpn⟩⟩) (λ i hi => (Classical.choose_spec (hel' (off + i)) (by omega)).1)
     (λ i hi j u hu => ?_) (λ i hi => ((Classical.choose_spec (hel' (off + i)) (by omega)).2.1).mono (ext_lent_imm E ks))
    have := (Classical.choose_spec (hel' (off + i)) (by omega)).2.2 j u hu
    show E.w.cell? _ = _
    rw [addr_add, hg.cell, show off * k + (i * k + j) = (off + i) * k + j by rw [Nat.add_mul]; omega]
    exact this
   ·exact Rep.rows (us := λ _ => []) (a := default) (by omega) (by omega) (by omega) (by omega) (by omega) (by omega)
  ·cases ha
 ·rename_i l i j d
  split at ha
  ·rename_i t cs hpn hl
   split at ha
   ·split at ha
    ·rename_i him
     simp only [Option.some.injEq, Prod.mk.injEq] at ha
     obtain ⟨_, rfl⟩ := ha
     obtain ⟨L, hL, rfl⟩ := h.ptr_inv
     obtain ⟨L', us, hL', ht, hc, hg, hr⟩ := g.objs _ _ hl
     rw [hL] at hL'
     injection hL' with hL'
     subst hL'
     refine ⟨?_, rfl⟩
     have := Rep.ipt (E := E.lent ks) (x := .agg cs) (j := j) (d := d) (a := ⟨L.b, 0, none⟩) (us := us) (.inr ⟨l, L, hL, by omega, rfl, hpn⟩) (λ i u hu => by
      show E.w.cell? _ = _
      rw [addr_add, (CellsAt.of (k := 0) hg).cell]
      simpa using hu) ((rep_imm hr (by simpa [immB] using him)).mono (ext_lent_imm E ks))
     rwa [addr_add, show 0 + (j + d) = 0 * L.k + j + d by omega] at this
    ·cases ha
   ·cases ha
  ·rename_i k t n f hpn hl
   simp only [Option.some.injEq, Prod.mk.injEq] at ha
   obtain ⟨rfl, rfl⟩ := ha
   obtain ⟨L, hL, rfl⟩ := h.ptr_inv
   obtain ⟨L', hL', ht, hk, hn, hm, hrow⟩ := g.objs _ _ hl
   rw [hL] at hL'
   injection hL' with hL'
   subst hL'
   refine ⟨?_, rfl⟩
   obtain ⟨arr, hg, hsz, hel⟩ := hrow (by omega)
   obtain ⟨us, h1, h2, h3⟩ := hel i hp
   have := Rep.ipt (E := E.lent ks) (x := f i) (j := j) (d := d) (a := ⟨L.b, i * k, none⟩) (us := us) (.inr ⟨l, L, hL, by omega, rfl, hpn⟩) (λ q u hu => by
    show E.w.cell? _ = _
    rw [addr_add, hg.cell]
    exact h3 q u hu) (h2.mono (ext_lent_imm E ks))
   rwa [addr_add, show i * k + (j + d) = i * L.k + j + d by rw [hk]; omega] at this
  ·cases ha
 ·split at ha
  ·rename_i him
   simp only [Option.some.injEq, Prod.mk.injEq] at ha
   obtain ⟨_, rfl⟩ := ha
   exact ⟨(rep_imm h him).mono (ext_lent E ks), rfl⟩
  ·cases ha
theorem argCl_rep {ks : List Nat} (g : Gam E0 E H) : ∀ {xs ys : List AV} {p : Prop}, argCl ks H xs = some (p, ys) -> p -> ∀ {vs : List Value}, vs.length = xs.length -> (∀ (i : Nat) (v : Value) (c : AV), vs[i]? = some v -> xs[i]? = some c -> Rep E [v] c) ->
  vs.length = ys.length /\ ∀ (i : Nat) (v : Value) (c : AV), vs[i]? = some v -> ys[i]? = some c -> Rep (E.lent ks) [v] c := by
 intro xs
 induction xs with
 | nil =>
  intro ys p ha _ vs hl _
  simp only [argCl, Option.some.injEq, Prod.mk.injEq] at ha
  obtain ⟨_, rfl⟩ := ha
  exact ⟨hl, λ i v c _ hc => by simp at hc⟩
 | cons x xs ih =>
  intro ys p ha hp vs hl h
  simp only [argCl] at ha
  split at ha
  ·rename_i p1 y q ys' h1 h2
   simp only [Option.some.injEq, Prod.mk.injEq] at ha
   obtain ⟨rfl, rfl⟩ := ha
   cases vs with
   | nil => simp at hl
   | cons v vs =>
    obtain ⟨i1, i2⟩ := ih h2 hp.2 (vs := vs) (by simpa using hl) (λ i v c hv hc => h (i + 1) v c (by simpa using hv) (by simpa using hc))
    refine ⟨by simpa using i1, λ i u c hu hc => ?_⟩
    cases i with
    | zero =>
     simp at hu hc
     subst hu hc
     exact (argC0_rep g (h 0 v x rfl rfl) h1 hp.1).1
    | succ i => exact i2 i u c (by simpa using hu) (by simpa using hc)
  ·cases ha
theorem argC_rep (g : Gam E0 E H) {x y : AV} {v : Value} {p : Prop} (h : Rep E [v] x) {ks : List Nat} (ha : argC ks H x = some (p, y)) (hp : p) : Rep (E.lent ks) [v] y /\ cw y = cw x := by
 unfold argC at ha
 split at ha
 ·rename_i fn cs
  obtain ⟨vs, hl, hr, rfl⟩ := h.clo_inv
  split at ha
  ·rename_i him
   simp only [Option.some.injEq, Prod.mk.injEq] at ha
   obtain ⟨_, rfl⟩ := ha
   exact ⟨(rep_imm h (by simpa [immB] using him)).mono (ext_lent E ks), rfl⟩
  ·split at ha
   ·rename_i q ys hc
    simp only [Option.some.injEq, Prod.mk.injEq] at ha
    obtain ⟨rfl, rfl⟩ := ha
    obtain ⟨h1, h2⟩ := argCl_rep g hc hp hl hr
    exact ⟨.clo h1 h2, rfl⟩
   ·cases ha
 ·exact argC0_rep g h ha hp
end
end Go.Am

namespace Go.Am
open Go.RowKit
variable [Inhabited GlT]
section
variable {P : Program} {E0 E : Env} {H : List LObj}
theorem argC_rep' {ks : List Nat} (g : Gam E0 E H) {x y : AV} {us : List Value} {p : Prop} (h : Rep E us x) (ha : argC ks H x = some (p, y)) (hp : p) : Rep (E.lent ks) us y /\ cw y = cw x := by
 cases x with
 | own l off len => obtain ⟨L, A, _, _, _, rfl⟩ := h.own_inv'; exact argC_rep g h ha hp
 | ptr l i j d => obtain ⟨L, _, rfl⟩ := h.ptr_inv'; exact argC_rep g h ha hp
 | clo fn cs => obtain ⟨vs, _, _, rfl⟩ := h.clo_inv'; exact argC_rep g h ha hp
 | _ =>
  simp only [argC, argC0] at ha
  split at ha
  ·rename_i him
   simp only [Option.some.injEq, Prod.mk.injEq] at ha
   obtain ⟨_, rfl⟩ := ha
   exact ⟨(rep_imm h him).mono (ext_lent E ks), rfl⟩
  ·cases ha
theorem argL_rep {ks : List Nat} (g : Gam E0 E H) : ∀ {xs ys : List AV} {us : List Value} {p : Prop}, Rep E us (.agg xs) -> argL ks H xs = some (p, ys) -> p -> Rep (E.lent ks) us (.agg ys) := by
 intro xs
 induction xs with
 | nil =>
  intro ys us p h ha hp
  simp only [argL, Option.some.injEq, Prod.mk.injEq] at ha
  obtain ⟨_, rfl⟩ := ha
  obtain rfl := h.nil_inv
  exact .nil
 | cons x xs ih =>
  intro ys us p h ha hp
  simp only [argL] at ha
  split at ha
  ·rename_i p1 y q ys' h1 h2
   simp only [Option.some.injEq, Prod.mk.injEq] at ha
   obtain ⟨rfl, rfl⟩ := ha
   obtain ⟨c1, c2, c3⟩ := h.cons_inv
   obtain ⟨r1, r2⟩ := argC_rep' g c2 h1 hp.1
   have := Rep.cons (c := y) (by rw [r2]; exact c1) r1 (ih c3 h2 hp.2)
   rwa [List.take_append_drop] at this
  ·cases ha
theorem argV_rep {ks : List Nat} (g : Gam E0 E H) {x y : AV} {v : Value} {p : Prop} (h : RepV E v x) (ha : argV ks H x = some (p, y)) (hp : p) : RepV (E.lent ks) v y := by
 cases x with
 | agg cs =>
  simp only [argV] at ha
  split at ha
  ·rename_i q ys hl
   simp only [Option.some.injEq, Prod.mk.injEq] at ha
   obtain ⟨rfl, rfl⟩ := ha
   obtain ⟨us, hv, hr⟩ := h
   exact ⟨us, hv, argL_rep g hr hl hp⟩
  ·cases ha
 | any =>
  simp only [argV, argC, argC0, immB, if_true, Option.some.injEq, Prod.mk.injEq] at ha
  obtain ⟨_, rfl⟩ := ha
  exact trivial
 | tup xs => simp [argV, argC, argC0, immB] at ha
 | iarr k n f => exact h.elim
 | own l off len =>
  have := (argC_rep (ks := ks) g (show Rep E [v] (.own l off len) from h) ha hp).1
  simp only [argV, argC, argC0] at ha
  split at ha
  ·simp only [Option.some.injEq, Prod.mk.injEq] at ha
   obtain ⟨_, rfl⟩ := ha
   exact this
  ·cases ha
 | ptr l i j d =>
  have := (argC_rep (ks := ks) g (show Rep E [v] (.ptr l i j d) from h) ha hp).1
  simp only [argV, argC, argC0] at ha
  split at ha
  ·split at ha
   ·split at ha
    ·simp only [Option.some.injEq, Prod.mk.injEq] at ha
     obtain ⟨_, rfl⟩ := ha
     exact this
    ·cases ha
   ·cases ha
  ·simp only [Option.some.injEq, Prod.mk.injEq] at ha
   obtain ⟨_, rfl⟩ := ha
   exact this
  ·cases ha
 | mp l => simp [argV, argC, argC0, immB] at ha
 | clo fn cs =>
  have := (argC_rep (ks := ks) g (show Rep E [v] (.clo fn cs) from h) ha hp).1
  simp only [argV, argC] at ha
  split at ha
  ·simp only [Option.some.injEq, Prod.mk.injEq] at ha
   obtain ⟨_, rfl⟩ := ha
   exact this
  ·split at ha
   ·simp only [Option.some.injEq, Prod.mk.injEq] at ha
    obtain ⟨_, rfl⟩ := ha
    exact this
   ·cases ha
 | _ =>
  have := (argC_rep (ks := ks) g (show Rep E [v] _ from h) ha hp).1
  simp only [argV, argC, argC0] at ha
  split at ha
  ·simp only [Option.some.injEq, Prod.mk.injEq] at ha
   obtain ⟨_, rfl⟩ := ha
   exact this
  ·cases ha
theorem argVs_rep {ks : List Nat} (g : Gam E0 E H) : ∀ {xs ys : List AV} {vs : List Value} {p : Prop}, vs.length = xs.length -> (∀ (i : Nat) (v : Value) (x : AV), vs[i]? = some v -> xs[i]? = some x -> RepV E v x) -> argVs ks H xs = some (p, ys) -> p ->
  vs.length = ys.length /\ ∀ (i : Nat) (v : Value) (y : AV), vs[i]? = some v -> ys[i]? = some y -> RepV (E.lent ks) v y := by
 intro xs
 induction xs with
 | nil =>
  intro ys vs p hl h ha hp
  simp only [argVs, Option.some.injEq, Prod.mk.injEq] at ha
  obtain ⟨_, rfl⟩ := ha
  exact ⟨hl, λ i v y _ hy => by simp at hy⟩
 | cons x xs ih =>
  intro ys vs p hl h ha hp
  simp only [argVs] at ha
  split at ha
  ·rename_i p1 y q ys' h1 h2
   simp only [Option.some.injEq, Prod.mk.injEq] at ha
   obtain ⟨rfl, rfl⟩ := ha
   cases vs with
   | nil => simp at hl
   | cons v vs =>
    obtain ⟨i1, i2⟩ := ih (vs := vs) (by simpa using hl) (λ i u z hu hz => h (i + 1) u z (by simpa using hu) (by simpa using hz)) h2 hp.2
    refine ⟨by simpa using i1, λ i u z hu hz => ?_⟩
    cases i with
    | zero =>
     simp at hu hz
     subst hu hz
     exact argV_rep g (h 0 v x rfl rfl) h1 hp.1
    | succ i => exact i2 i u z (by simpa using hu) (by simpa using hz)
  ·cases ha
def flatO : LObj -> Prop
 | .dead => True
 | .box _ cs => flatL cs = true
 | .row _ _ n f => ∀ i, i < n -> flatB (f i) = true
 | _ => False
def ownOrFlat : AV -> Bool
 | .own _ _ _ => true
 | x => flatB x
def flatR : AV -> Bool
 | .tup xs => xs.all ownOrFlat
 | x => ownOrFlat x
def Env.back (E E' : Env) (d : Nat) (lent : Prop) : Env := { w := E'.w, F := λ b => E'.F b /\ (lent -> ¬ E.owns b), loc := λ l => if l < d then E.loc l else E'.loc (l - d), m := E.m }
theorem gam_back (g : Gam E0 E H) {E' : Env} {H' : List LObj} (g' : Gam E.imm E' H') : Ext E (E.back E' H.length False) /\ ExtSh H.length E' (E.back E' H.length False) /\ Gam E0 (E.back E' H.length False) (H ++ H'.map (shO H.length)) := by
 have hF : ∀ b, (E.back E' H.length False).F b ↔ E'.F b := λ b => by simp [Env.back]
 have e1 : Ext E (E.back E' H.length False) := ⟨λ b hb => (hF b).2 (g'.up b hb), λ a ha => (g'.belowN (λ _ => rfl)).cell (p := a) (g.lt _ ha), λ l L hL => by
  have := g.dom l L hL
  simp only [Env.back]
  rw [if_pos this]
  exact hL⟩
 have e2 : ExtSh H.length E' (E.back E' H.length False) := ⟨λ b hb => (hF b).2 hb, λ _ _ => rfl, λ q L hL => by
  simp only [Env.back]
  rw [if_neg (by omega), show q + H.length - H.length = q by omega]
  exact hL⟩
 refine ⟨e1, e2, ?_⟩
 constructor
 ·intro l o hl
  rw [List.getElem?_append] at hl
  split at hl
  ·exact (g.objs l o hl).mono e1 (λ L hL hc => (g'.belowN (λ _ => rfl)).block L.b (g.own l L hL hc).2.1)
  ·rename_i hge
   rw [List.getElem?_map, Option.map_eq_some_iff] at hl
   obtain ⟨o', ho', rfl⟩ := hl
   have := (g'.objs _ o' ho').sh e2 rfl
   rwa [show l - H.length + H.length = l by omega] at this
 ·intro l L hL
  simp only [Env.back] at hL
  split at hL
  ·simp; omega
  ·have := g'.dom _ L hL
   simp; omega
 ·intro l L hL hc
  simp only [Env.back] at hL
  split at hL
  ·have h1 := g.own l L hL hc
   refine ⟨h1.1, Nat.lt_of_lt_of_le h1.2.1 (g'.belowN (λ _ => rfl)).size, λ hh => ?_⟩
   rcases g'.downN (λ _ => rfl) _ ((hF _).1 hh) with h2 | h2
   ·exact h1.2.2 h2
   ·simp at h2; omega
  ·have h1 := g'.ownN (λ _ => rfl) _ L hL hc
   have := g.below.size
   exact ⟨λ ho => by have := Env.old_lt g.below ho; simp at h1; omega, h1.2.1, λ hh => h1.2.2 ((hF _).1 hh)⟩
 ·intro l l' L L' hL hL' hc hc' hb
  simp only [Env.back] at hL hL'
  split at hL <;> split at hL'
  ·exact g.inj l l' L L' hL hL' hc hc' hb
  ·have h1 := (g.own l L hL hc).2.1
   have h2 := (g'.ownN (λ _ => rfl) _ L' hL' hc').1
   simp at h2
   omega
  ·have h1 := (g.own l' L' hL' hc').2.1
   have h2 := (g'.ownN (λ _ => rfl) _ L hL hc).1
   simp at h2
   omega
  ·have := g'.inj _ _ L L' hL hL' hc hc' hb
   omega
 ·intro b hb
  exact g'.lt b ((hF b).1 hb)
 ·intro b hb
  exact (hF b).2 (g'.up b (g.up b hb))
 ·intro b hb
  rcases g'.downN (λ _ => rfl) b ((hF b).1 hb) with h | h
  ·exact g.down b h
  ·have := g.below.size
   right
   intro ho
   have := Env.old_lt g.below ho
   simp at h
   omega
 ·exact g.below.to (g'.belowN (λ _ => rfl))
 ·intro l hl
  have := g.hm
  simp only [Env.back]
  rw [if_pos (by omega)]
  exact g.stay l hl
 ·have := g.hm
  simp
  omega
end
end Go.Am

namespace Go.Am
open Go.RowKit
variable [Inhabited GlT]
mutual
def mapB (ρ : Nat -> Option Nat) : AV -> AV
 | .any => .any
 | .pl v => .pl v
 | .iarr k n f => .iarr k n f
 | .agg cs => .agg (mapL ρ cs)
 | .tup cs => .tup (mapL ρ cs)
 | .rows k n f => .rows k n f
 | .own l a b => match ρ l with
  | some l' => .own l' a b
  | none => .any
 | .ptr l i j d => match ρ l with
  | some l' => .ptr l' i j d
  | none => .any
 | .ipt x j d => .ipt x j d
 | .clo fn cs => .clo fn (mapL ρ cs)
 | .ifc t x => .ifc t (mapB ρ x)
 | .mp l => match ρ l with
  | some l' => .mp l'
  | none => .any
 | .emp => .emp
def mapL (ρ : Nat -> Option Nat) : List AV -> List AV
 | [] => []
 | c :: cs => mapB ρ c :: mapL ρ cs
end
def mapO (ρ : Nat -> Option Nat) : LObj -> LObj
 | .box t cs => .box t (mapL ρ cs)
 | .prow t cs => .prow t (mapL ρ cs)
 | .capo q c => match ρ q with
  | some q' => .capo q' c
  | none => .dead
 | o => o
theorem mapL_get (ρ : Nat -> Option Nat) : ∀ (cs : List AV) (i : Nat), (mapL ρ cs)[i]? = (cs[i]?).map (mapB ρ) := by
 intro cs
 induction cs with
 | nil => intro i; simp [mapL]
 | cons c cs ih => intro i; cases i with
  | zero => simp [mapL]
  | succ i => simpa [mapL] using ih i
theorem mapL_length (ρ : Nat -> Option Nat) (cs : List AV) : (mapL ρ cs).length = cs.length := by
 induction cs with
 | nil => simp [mapL]
 | cons c cs ih => simp [mapL, ih]
theorem cw_map (ρ : Nat -> Option Nat) (c : AV) : cw (mapB ρ c) = cw c := by
 cases c <;> simp only [mapB] <;> first | rfl | (split <;> rfl)
structure ExtMap (ρ : Nat -> Option Nat) (E E' : Env) : Prop where
 F : ∀ b, E.F b -> E'.F b
 cell : ∀ a : Addr, E.F a.block -> E'.w.cell? a = E.w.cell? a
 loc : ∀ q q' L, ρ q = some q' -> E.loc q = some L -> E'.loc q' = some L
theorem ExtMap.imm {ρ : Nat -> Option Nat} {E E' : Env} (h : ExtMap ρ E E') : Ext E.imm E'.imm := ⟨h.F, h.cell, λ _ _ h => by simp at h⟩
theorem rep_map {ρ : Nat -> Option Nat} {E : Env} {us : List Value} {x : AV} (h : Rep E us x) : ∀ {E' : Env}, ExtMap ρ E E' -> Rep E' us (mapB ρ x) := by
 induction h with
 | any v h => intro E' _; exact .any v h
 | pl v h => intro E' _; exact .pl v h
 | iarr hl h => intro E' _; exact .iarr hl h
 | nil => intro E' _; exact .nil
 | cons hl _ _ ih1 ih2 =>
  intro E' e
  have h2 := ih2 e
  simp only [mapB] at h2
  simp only [mapB, mapL]
  exact .cons (by rw [cw_map]; exact hl) (ih1 e) h2
 | rows hc hm ha hl hcell h _ =>
  intro E' e
  simp only [mapB]
  refine .rows hc hm (λ h => ⟨(ha h).1, e.F _ (ha h).2⟩) hl (λ i hi j u hu => ?_) (λ i hi => (h i hi).mono e.imm)
  rw [e.cell _ (by rw [block_add]; exact (ha (by omega)).2)]
  exact hcell i hi j u hu
 | own hL hb ha =>
  intro E' e
  simp only [mapB]
  split
  ·rename_i q' hq; exact .own (e.loc _ _ _ hq hL) hb ha
  ·exact .any _ rfl
 | ptr hL =>
  intro E' e
  simp only [mapB]
  split
  ·rename_i q' hq; exact .ptr (e.loc _ _ _ hq hL)
  ·exact .any _ rfl
 | ipt hF hcell h _ =>
  intro E' e
  simp only [mapB]
  refine .ipt (e.F _ hF) (λ i u hu => ?_) (h.mono e.imm)
  rw [e.cell _ (by rw [block_add]; exact hF)]
  exact hcell i u hu
 | clo hl h ih =>
  intro E' e
  simp only [mapB]
  refine .clo (by rw [mapL_length]; exact hl) (λ i v c hv hc => ?_)
  rw [mapL_get, Option.map_eq_some_iff] at hc
  obtain ⟨c', hc', rfl⟩ := hc
  exact ih i v c' hv hc' e
 | ifc hv _ ih => intro E' e; simp only [mapB]; exact .ifc hv (ih e)
 | ifca _ ih =>
  intro E' e
  have h2 := ih e
  simp only [mapB] at h2 ⊢
  exact .ifca h2
 | mp hL =>
  intro E' e
  simp only [mapB]
  split
  ·rename_i q' hq; exact .mp (e.loc _ _ _ hq hL)
  ·exact .any _ rfl
 | emp A => intro E' _; exact .emp A
theorem repV1_map {ρ : Nat -> Option Nat} {E E' : Env} {v : Value} {x : AV} (h : RepV1 E v x) (e : ExtMap ρ E E') : RepV1 E' v (mapB ρ x) := by
 cases x with
 | agg cs =>
  obtain ⟨us, hv, hr⟩ := h
  have := rep_map hr e
  simp only [mapB] at this ⊢
  exact ⟨us, hv, this⟩
 | any => exact trivial
 | iarr k n f => exact h.elim
 | tup vs => exact h.elim
 | own l' a b =>
  have := rep_map (show Rep E [v] (.own l' a b) from h) e
  simp only [mapB] at this ⊢
  split
  ·rename_i q' hq; rw [hq] at this; exact this
  ·exact trivial
 | ptr l' i j d =>
  have := rep_map (show Rep E [v] (.ptr l' i j d) from h) e
  simp only [mapB] at this ⊢
  split
  ·rename_i q' hq; rw [hq] at this; exact this
  ·exact trivial
 | mp l' =>
  have := rep_map (show Rep E [v] (.mp l') from h) e
  simp only [mapB] at this ⊢
  split
  ·rename_i q' hq; rw [hq] at this; exact this
  ·exact trivial
 | pl u => exact rep_map (show Rep E [v] (.pl u) from h) e
 | rows k n f => exact rep_map (show Rep E [v] (.rows k n f) from h) e
 | ipt y j d => exact rep_map (show Rep E [v] (.ipt y j d) from h) e
 | clo fn cs => exact rep_map (show Rep E [v] (.clo fn cs) from h) e
 | ifc t y => exact rep_map (show Rep E [v] (.ifc t y) from h) e
 | emp => exact rep_map (show Rep E [v] .emp from h) e
theorem repV_map {ρ : Nat -> Option Nat} {E E' : Env} {v : Value} {x : AV} (h : RepV E v x) (e : ExtMap ρ E E') : RepV E' v (mapB ρ x) := by
 cases x with
 | tup xs =>
  obtain ⟨vs, hv, hl, hr⟩ := h
  refine ⟨vs, hv, by rw [mapL_length]; exact hl, λ i u y hu hy => ?_⟩
  rw [mapL_get, Option.map_eq_some_iff] at hy
  obtain ⟨y', hy', rfl⟩ := hy
  exact repV1_map (hr i u y' hu hy') e
 | _ =>
  rw [repV_eq _ (by intro xs hh; cases hh)] at h
  rw [repV_eq _ (by intro xs hh; simp only [mapB] at hh; first | cases hh | (split at hh <;> cases hh))]
  exact repV1_map h e
theorem GloE.map {ρ : Nat -> Option Nat} {E E' : Env} (h : GloE E) (e : ExtMap ρ E E') : GloE E' := h.next e.F e.cell e.imm
theorem SlotsOk.map {ρ : Nat -> Option Nat} {E E' : Env} {tmps : Array Value} {slots : List AV} (h : SlotsOk E tmps slots) (e : ExtMap ρ E E') : SlotsOk E' tmps (mapL ρ slots) := by
 refine ⟨⟨by rw [mapL_length]; exact h.1.1, h.1.2.map e⟩, λ i v x hv hx => ?_⟩
 rw [mapL_get, Option.map_eq_some_iff] at hx
 obtain ⟨y, hy, rfl⟩ := hx
 exact repV_map (h.2 i v y hv hy) e
theorem ObjOk.map {ρ : Nat -> Option Nat} {q q' : Nat} {E E' : Env} {o : LObj} (h : ObjOk E q o) (e : ExtMap ρ E E') (hq : ∀ L, E.loc q = some L -> E'.loc q' = some L) (hb : ∀ L, E.loc q = some L -> 0 < L.cap -> E'.w.heap[L.b]? = E.w.heap[L.b]?) : ObjOk E' q' (mapO ρ o) := by
 cases o with
 | dead => trivial
 | box t cs =>
  obtain ⟨L, us, hL, ht, hc, hg, hr⟩ := h
  have := rep_map hr e
  simp only [mapB] at this
  exact ⟨L, us, hq _ hL, ht, hc, by rw [hb L hL (by omega)]; exact hg, this⟩
 | row k t n f =>
  obtain ⟨L, hL, ht, hk, hn, hm, hrow⟩ := h
  refine ⟨L, hq _ hL, ht, hk, hn, hm, λ hpos => ?_⟩
  obtain ⟨arr, hg, hsz, hel⟩ := hrow hpos
  refine ⟨arr, hg.congr (hb L hL hpos), hsz, λ i hi => ?_⟩
  obtain ⟨us, h1, h2, h3⟩ := hel i hi
  exact ⟨us, h1, h2.mono e.imm, h3⟩
 | prow t cs =>
  obtain ⟨L, us, hL, ht, hk, hc, hn, h0, hg, hr⟩ := h
  have := rep_map hr e
  simp only [mapB] at this
  exact ⟨L, us, hq _ hL, ht, hk, hc, by rw [mapL_length]; exact hn, h0, by rw [hb L hL (by omega)]; exact hg, this⟩
 | raw ob =>
  obtain ⟨L, hL, hc, hg⟩ := h
  exact ⟨L, hq _ hL, hc, by rw [hb L hL (by omega)]; exact hg⟩
 | capo q2 c =>
  obtain ⟨L, hL, hc⟩ := h
  simp only [mapO]
  split
  ·rename_i q3 h3; exact ⟨L, e.loc _ _ _ h3 hL, hc⟩
  ·exact trivial
 | mapo kt W has val =>
  obtain ⟨L, es, clock, hL, hc, hg, h1, h2, h3, h4⟩ := h
  exact ⟨L, es, clock, hq _ hL, hc, by rw [hb L hL (by omega)]; exact hg, h1, h2, h3, λ x hx => (h4 x hx).mono e.imm⟩
mutual
def nflB : AV -> Bool
 | .any => true
 | .pl _ => true
 | .iarr _ _ _ => true
 | .agg cs => nflL cs
 | .tup cs => nflL cs
 | .ifc _ x => nflB x
 | .emp => true
 | .rows _ _ _ => false
 | .own _ _ _ => true
 | .ptr _ _ _ _ => true
 | .ipt _ _ _ => false
 | .clo _ cs => nflL cs
 | .mp _ => true
def nflL : List AV -> Bool
 | [] => true
 | c :: cs => nflB c && nflL cs
end
theorem nflL_get {cs : List AV} (h : nflL cs = true) {i : Nat} {c : AV} (hc : cs[i]? = some c) : nflB c = true := by
 induction cs generalizing i with
 | nil => simp at hc
 | cons d cs ih =>
  simp only [nflL, Bool.and_eq_true] at h
  cases i with
  | zero => simp at hc; subst hc; exact h.1
  | succ i => exact ih h.2 (by simpa using hc)
def nflO : LObj -> Prop
 | .dead => True
 | .box _ cs => nflL cs = true
 | .prow _ cs => nflL cs = true
 | .row _ _ n f => ∀ i, i < n -> flatB (f i) = true
 | .raw _ => True
 | .capo _ _ => True
 | .mapo _ _ has val => ∀ v, has v -> flatB (val v) = true
def Env.noF (E : Env) : Env := { E with F := λ _ => False }
theorem rep_noF {E : Env} {us : List Value} {x : AV} (h : Rep E us x) : nflB x = true -> Rep E.noF us x := by
 induction h with
 | any v h => intro _; exact .any v h
 | pl v h => intro _; exact .pl v h
 | iarr hl h => intro _; exact .iarr hl h
 | nil => intro _; exact .nil
 | cons hl _ _ ih1 ih2 =>
  intro hi
  simp only [nflB, nflL, Bool.and_eq_true] at hi ih2
  exact .cons hl (ih1 hi.1) (ih2 hi.2)
 | own hL hb ha => intro _; exact .own hL hb ha
 | ptr hL => intro _; exact .ptr hL
 | clo hl _ ih => intro hi; exact .clo hl (λ i v c hv hc => ih i v c hv hc (nflL_get (by simpa [nflB] using hi) hc))
 | ifc hv _ ih => intro hi; exact .ifc hv (ih (by simpa [nflB] using hi))
 | ifca _ ih => intro hi; exact .ifca (ih (by simpa [nflB] using hi))
 | mp hL => intro _; exact .mp hL
 | emp A => intro _; exact .emp A
 | _ => intro hi; simp [nflB] at hi
theorem repV1_noF {E : Env} {v : Value} {x : AV} (h : RepV1 E v x) (hf : nflB x = true) : RepV1 E.noF v x := by
 cases x <;> first
  | exact trivial
  | exact h.elim
  |(obtain ⟨us, hv, hr⟩ := h; exact ⟨us, hv, rep_noF hr hf⟩)
  | exact rep_noF (show Rep E [v] _ from h) hf
theorem repV_noF {E : Env} {v : Value} {x : AV} (h : RepV E v x) (hf : nflB x = true) : RepV E.noF v x := by
 cases x with
 | tup xs => obtain ⟨vs, hv, hl, hr⟩ := h; exact ⟨vs, hv, hl, λ i u y hu hy => repV1_noF (hr i u y hu hy) (nflL_get (by simpa [nflB] using hf) hy)⟩
 | _ => simp only [RepV] at h ⊢; exact repV1_noF h hf
theorem ObjOk.noF {E : Env} {l : Nat} {o : LObj} (h : ObjOk E l o) (hf : nflO o) : ObjOk E.noF l o := by
 cases o with
 | dead => trivial
 | box t cs =>
  obtain ⟨L, us, hL, ht, hc, hg, hr⟩ := h
  exact ⟨L, us, hL, ht, hc, hg, rep_noF hr (by have h9 : nflL cs = true := hf; simpa [nflB] using h9)⟩
 | prow t cs =>
  obtain ⟨L, us, hL, ht, hk, hc, hn, h0, hg, hr⟩ := h
  exact ⟨L, us, hL, ht, hk, hc, hn, h0, hg, rep_noF hr (by have h9 : nflL cs = true := hf; simpa [nflB] using h9)⟩
 | row k t n f =>
  obtain ⟨L, hL, ht, hk, hn, hm, hrow⟩ := h
  refine ⟨L, hL, ht, hk, hn, hm, λ hpos => ?_⟩
  obtain ⟨arr, hg, hsz, hel⟩ := hrow hpos
  refine ⟨arr, hg, hsz, λ i hi => ?_⟩
  obtain ⟨us, h1, h2, h3⟩ := hel i hi
  exact ⟨us, h1, rep_flat h2 (hf i hi) _, h3⟩
 | raw ob => exact h
 | capo q c => exact h
 | mapo kt W has val =>
  obtain ⟨L, es, clock, hL, hc, hg, h1, h2, h3, h4⟩ := h
  exact ⟨L, es, clock, hL, hc, hg, h1, h2, h3, λ x hx => repV1_flat (h4 x hx) (hf _ ((h3 _).2 ⟨x, hx, rfl⟩)) _⟩
def Env.hand (E : Env) (ks : List Nat) (lent : Prop) : Env := { w := E.w, F := λ b => E.F b ∨ (lent /\ E.lends ks b), m := ks.length, loc := λ j => match ks[j]? with
 | some q => E.loc q
 | none => none }
section
variable {E0 E : Env} {H : List LObj}
theorem hand_loc {ks : List Nat} {lent : Prop} {j : Nat} {L : Loc} (h : (E.hand ks lent).loc j = some L) : ∃ q, ks[j]? = some q /\ E.loc q = some L := by
 simp only [Env.hand] at h
 split at h
 ·rename_i q hq; exact ⟨q, hq, h⟩
 ·cases h
theorem ext_hand (E : Env) (ks : List Nat) (lent : Prop) : ExtMap (posN ks) E (E.hand ks lent) := ⟨λ _ h => .inl h, λ _ _ => rfl, λ q q' L hq hL => by
 simp only [Env.hand, posN_get hq]
 exact hL⟩
def handO (ks : List Nat) (H : List LObj) : List Nat -> List LObj
 | [] => []
 | q :: qs => mapO (posN ks) (H.getD q .dead) :: handO ks H qs
theorem handO_get (ks : List Nat) (H : List LObj) : ∀ (qs : List Nat) (j : Nat), (handO ks H qs)[j]? = (qs[j]?).map λ q => mapO (posN ks) (H.getD q .dead) := by
 intro qs
 induction qs with
 | nil => intro j; simp [handO]
 | cons q qs ih => intro j; cases j with
  | zero => simp [handO]
  | succ j => simpa [handO] using ih j
theorem handO_length (ks : List Nat) (H : List LObj) (qs : List Nat) : (handO ks H qs).length = qs.length := by
 induction qs with
 | nil => rfl
 | cons q qs ih => simp [handO, ih]
theorem hand_owns {ks : List Nat} {lent : Prop} {b : Nat} : (E.hand ks lent).owns b ↔ ∃ (l : Nat) (L : Loc) (j : Nat), E.loc l = some L /\ 0 < L.cap /\ L.b = b /\ ks[j]? = some l := by
 constructor
 ·rintro ⟨j, L, hL, hc, hb⟩
  obtain ⟨q, hq, hL'⟩ := hand_loc hL
  exact ⟨q, L, j, hL', hc, hb, hq⟩
 ·rintro ⟨l, L, j, hL, hc, hb, hj⟩
  exact ⟨j, L, by simp only [Env.hand, hj]; exact hL, hc, hb⟩
theorem gam_hand (g : Gam E0 E H) {ks : List Nat} (hn : nodupN ks = true) (lent : Prop) : Gam (E.hand ks lent) (E.hand ks lent) (handO ks H ks) where
 objs := by
  intro j o hj
  rw [handO_get, Option.map_eq_some_iff] at hj
  obtain ⟨q, hq, rfl⟩ := hj
  rw [List.getD_eq_getElem?_getD]
  cases ho : H[q]? with
  | none => exact trivial
  | some o =>
   refine (g.objs q o ho).map (ext_hand E ks lent) (λ L hL => ?_) (λ L hL hc => rfl)
   simp only [Env.hand, hq]
   exact hL
 dom := by
  intro j L hL
  obtain ⟨q, hq, _⟩ := hand_loc hL
  rw [handO_length]
  exact (List.getElem?_eq_some_iff.1 hq).1
 own := by
  intro j L hL hc
  obtain ⟨q, hq, hL'⟩ := hand_loc hL
  have h1 := g.own q L hL' hc
  refine ⟨λ ho => ho.2 ⟨j, L, hL, hc, rfl⟩, h1.2.1, λ hF => ?_⟩
  rcases hF with h | ⟨_, l, L2, h2, h3, h4, h5⟩
  ·exact h1.2.2 h
  ·have := g.inj l q L2 L h2 hL' h3 hc h4
   subst this
   exact posN_none h5 hq
 inj := by
  intro j j' L L' hL hL' hc hc' hb
  obtain ⟨q, hq, h1⟩ := hand_loc hL
  obtain ⟨q', hq', h2⟩ := hand_loc hL'
  have := g.inj q q' L L' h1 h2 hc hc' hb
  subst this
  exact nodupN_inj hn hq hq'
 lt := by
  rintro b (hb | ⟨_, l, L, hL, hc, rfl, _⟩)
  ·exact g.lt b hb
  ·exact (g.own l L hL hc).2.1
 up := λ _ h => h
 down := λ _ h => .inl h
 below := BelowO.refl _
 stay := λ l h => .inl rfl
 hm := by rw [handO_length]; exact Nat.le_refl _
def bkN (ks : List Nat) (n0 : Nat) (j : Nat) : Option Nat := match ks[j]? with
 | some q => some q
 | none => some (n0 + (j - ks.length))
def isDead : Option LObj -> Bool
 | some .dead => true
 | some (.capo _ _) => true
 | none => true
 | _ => false
theorem loc_of_alive {E0 E : Env} {H : List LObj} (g : Gam E0 E H) {l : Nat} (h : isDead H[l]? = false) : ∃ L, E.loc l = some L := by
 cases ho : H[l]? with
 | none => rw [ho] at h; cases h
 | some o =>
  have := g.objs l o ho
  cases o with
  | dead => rw [ho] at h; cases h
  | box t cs => obtain ⟨L, us, hL, _⟩ := this; exact ⟨L, hL⟩
  | row k t n f => obtain ⟨L, hL, _⟩ := this; exact ⟨L, hL⟩
  | prow t cs => obtain ⟨L, us, hL, _⟩ := this; exact ⟨L, hL⟩
  | raw ob => obtain ⟨L, hL, _⟩ := this; exact ⟨L, hL⟩
  | capo q c => rw [ho] at h; cases h
  | mapo kt W has val => obtain ⟨L, es, clock, hL, _⟩ := this; exact ⟨L, hL⟩
def kpN (ks : List Nat) (H1 : List LObj) (l : Nat) : Option Nat := match posN ks l with
 | some j => match isDead H1[j]? with
  | true => none
  | false => some l
 | none => some l
def backEnv (E E' : Env) (n0 : Nat) (ks : List Nat) (lent : Prop) : Env := { w := E'.w, F := λ b => E'.F b /\ (lent -> ¬ E.lends ks b), m := E.m, loc := λ l => match posN ks l with
 | some j => E'.loc j
 | none => if l < n0 then E.loc l else E'.loc (l - n0 + ks.length) }
def backO (ks : List Nat) (n0 : Nat) (H1 : List LObj) : Nat -> List LObj -> List LObj
 | _, [] => (H1.drop ks.length).map (mapO (bkN ks n0))
 | i, o :: os => (match posN ks i with
  | some j => mapO (bkN ks n0) (H1.getD j .dead)
  | none => mapO (kpN ks H1) o) :: backO ks n0 H1 (i + 1) os
theorem backO_get (ks : List Nat) (n0 : Nat) (H1 : List LObj) : ∀ (os : List LObj) (i l : Nat), (backO ks n0 H1 i os)[l]? = if l < os.length then (match posN ks (i + l) with
  | some j => some (mapO (bkN ks n0) (H1.getD j .dead))
  | none => (os[l]?).map (mapO (kpN ks H1))) else (H1[l - os.length + ks.length]?).map (mapO (bkN ks n0)) := by
 intro os
 induction os with
 | nil => intro i l; simp [backO, List.getElem?_drop, Nat.add_comm]
 | cons o os ih =>
  intro i l
  cases l with
  | zero =>
   simp only [backO, List.getElem?_cons_zero, List.length_cons, Nat.zero_lt_succ, if_true, Nat.add_zero, Option.map_some]
   split <;> rfl
  | succ l =>
   simp only [backO, List.getElem?_cons_succ, List.length_cons, Nat.add_lt_add_iff_right]
   rw [ih (i + 1) l, show i + 1 + l = i + (l + 1) by omega, show l + 1 - (os.length + 1) = l - os.length by omega]
theorem backO_length (ks : List Nat) (n0 : Nat) (H1 : List LObj) : ∀ (os : List LObj) (i : Nat), (backO ks n0 H1 i os).length = os.length + (H1.length - ks.length) := by
 intro os
 induction os with
 | nil => intro i; simp [backO]
 | cons o os ih => intro i; simp only [backO, List.length_cons, ih]; omega
def handOk (H : List LObj) : List Nat -> Bool
 | [] => true
 | q :: qs => (match H[q]? with
  | some .dead => false
  | some _ => true
  | none => false) && handOk H qs
theorem handOk_get : ∀ {ks : List Nat}, handOk H ks = true -> ∀ {j q : Nat}, ks[j]? = some q -> ∃ o, H[q]? = some o /\ o ≠ .dead := by
 intro ks
 induction ks with
 | nil => intro _ j q h; simp at h
 | cons k ks ih =>
  intro h j q hj
  simp only [handOk, Bool.and_eq_true] at h
  cases j with
  | zero =>
   simp at hj
   subst hj
   have h1 := h.1
   split at h1
   ·cases h1
   ·rename_i o ho hne; exact ⟨o, hne, λ e => ho e⟩
   ·cases h1
  | succ j => exact ih h.2 (by simpa using hj)
section
variable {ks : List Nat} {lent : Prop} {E' : Env} {H1 : List LObj}
theorem bkN_lt {n0 j q : Nat} (h : ks[j]? = some q) : bkN ks n0 j = some q := by simp [bkN, h]
theorem bkN_ge {n0 j : Nat} (h : ks.length <= j) : bkN ks n0 j = some (n0 + (j - ks.length)) := by
 unfold bkN
 rw [List.getElem?_eq_none h]
theorem hand_old (_ : Gam E0 E H) {b : Nat} (h1 : b < E.w.heap.size) (h2 : ∀ (l : Nat) (L : Loc), E.loc l = some L -> 0 < L.cap -> L.b = b -> posN ks l = none) : (E.hand ks lent).old b :=
 ⟨h1, λ ho => by
  obtain ⟨l, L, j, hL, hc, hb, hj⟩ := hand_owns.1 ho
  exact posN_none (h2 l L hL hc hb) hj⟩
theorem backEnv_loc {n0 l : Nat} {L : Loc} (h : (backEnv E E' n0 ks lent).loc l = some L) : (∃ j, posN ks l = some j /\ E'.loc j = some L) ∨ (posN ks l = none /\ l < n0 /\ E.loc l = some L) ∨ (posN ks l = none /\ n0 <= l /\ E'.loc (l - n0 + ks.length) = some L) := by
 simp only [backEnv] at h
 split at h
 ·rename_i j hj; exact .inl ⟨j, hj, h⟩
 ·rename_i hn
  split at h
  ·rename_i hlt; exact .inr (.inl ⟨hn, hlt, h⟩)
  ·rename_i hge; exact .inr (.inr ⟨hn, by omega, h⟩)
theorem backEnv_bk (hn : nodupN ks = true) (hok : handOk H ks = true) {j q : Nat} (h : bkN ks H.length j = some q) : (backEnv E E' H.length ks lent).loc q = E'.loc j := by
 unfold bkN at h
 split at h
 ·rename_i q' hq
  injection h with h
  subst h
  simp only [backEnv, posN_of hn hq]
 ·rename_i hq
  injection h with h
  subst h
  have hge : ks.length <= j := List.getElem?_eq_none_iff.1 hq
  have hp : posN ks (H.length + (j - ks.length)) = none := by
   cases hp : posN ks (H.length + (j - ks.length)) with
   | none => rfl
   | some i =>
    obtain ⟨o, ho, _⟩ := handOk_get hok (posN_get hp)
    have := (List.getElem?_eq_some_iff.1 ho).1
    omega
  simp only [backEnv, hp]
  rw [if_neg (by omega), show H.length + (j - ks.length) - H.length + ks.length = j by omega]
theorem gam_handback (g : Gam E0 E H) (hn : nodupN ks = true) (hok : handOk H ks = true) (g' : Gam (E.hand ks lent) E' H1) (hfl : lent -> ∀ o ∈ H1, nflO o) :
  ExtMap (kpN ks H1) E (backEnv E E' H.length ks lent) /\ Gam E0 (backEnv E E' H.length ks lent) (backO ks H.length H1 0 H) /\ Keep ks E (backEnv E E' H.length ks lent) /\
  (∀ v x, RepV E' v x -> (lent -> nflB x = true) -> RepV (backEnv E E' H.length ks lent) v (mapB (bkN ks H.length) x)) := by
 have old_lt : ∀ b, (E.hand ks lent).old b -> b < E.w.heap.size := λ b hb => hb.1
 have hsize : E.w.heap.size <= E'.w.heap.size := g'.below.size
 have hblk : ∀ b, b < E.w.heap.size -> (∀ (l : Nat) (L : Loc), E.loc l = some L -> 0 < L.cap -> L.b = b -> posN ks l = none) -> E'.w.heap[b]? = E.w.heap[b]? := λ b h1 h2 => g'.below.block b (hand_old g h1 h2)
 have hFold : ∀ b, E.F b -> ∀ (l : Nat) (L : Loc), E.loc l = some L -> 0 < L.cap -> L.b ≠ b := λ b hb l L hL hc e => (g.own l L hL hc).2.2 (e ▸ hb)
 have hup : ∀ b, E.F b -> (backEnv E E' H.length ks lent).F b := λ b hb => ⟨g'.up b (.inl hb), λ _ ⟨l, L, hL, hc, he, _⟩ => hFold b hb l L hL hc he⟩
 have hcellF : ∀ a : Addr, E.F a.block -> E'.w.cell? a = E.w.cell? a := λ a ha => World.cell?_of_block (w := E.w) (hblk _ (g.lt _ ha) (λ l L hL hc he => absurd he (hFold _ ha l L hL hc)))
 have cal : ∀ q L, E'.loc q = some L -> 0 < L.cap -> ¬ (E.hand ks lent).old L.b /\ L.b < E'.w.heap.size /\ ¬ E'.F L.b := λ q L hL hc => g'.own q L hL hc
 have notold : ∀ b, ¬ (E.hand ks lent).old b -> ¬ E0.old b := by
  intro b hb ho
  have h1 : b < E.w.heap.size := Env.old_lt g.below ho
  refine hb ⟨h1, λ hw => ?_⟩
  obtain ⟨l, L, j, hL, hc, hbb, hj⟩ := hand_owns.1 hw
  exact (g.own l L hL hc).1 (hbb ▸ ho)
 have kp : ExtMap (kpN ks H1) E (backEnv E E' H.length ks lent) := by
  refine ⟨hup, hcellF, λ q q' L hq hL => ?_⟩
  have hqlt := g.dom q L hL
  unfold kpN at hq
  split at hq
  ·rename_i j hj
   split at hq
   ·cases hq
   ·rename_i hd
    injection hq with hq
    subst hq
    have hhl : (E.hand ks lent).loc j = some L := by simp only [Env.hand, posN_get hj]; exact hL
    simp only [backEnv, hj]
    have hjl : j < (E.hand ks lent).m := (List.getElem?_eq_some_iff.1 (posN_get hj)).1
    rcases g'.stay j hjl with h | h
    ·rw [h]; exact hhl
    ·obtain ⟨L9, hL9⟩ := loc_of_alive g' hd
     rw [h] at hL9; cases hL9
  ·rename_i hp
   injection hq with hq
   subst hq
   simp only [backEnv, hp]
   rw [if_pos hqlt]
   exact hL
 have mp : ∀ (us : List Value) (x : AV), Rep E' us x -> (lent -> nflB x = true) -> Rep (backEnv E E' H.length ks lent) us (mapB (bkN ks H.length) x) := by
  intro us x hr hf
  by_cases hl : lent
  ·exact rep_map (rep_noF hr (hf hl)) ⟨λ _ h => h.elim, λ _ h => h.elim, λ q q' L hq hL => by rw [backEnv_bk hn hok hq]; exact hL⟩
  ·exact rep_map hr ⟨λ b hb => ⟨hb, λ h => absurd h hl⟩, λ _ _ => rfl, λ q q' L hq hL => by rw [backEnv_bk hn hok hq]; exact hL⟩
 have mo : ∀ (q q' : Nat) (o : LObj), bkN ks H.length q = some q' -> H1[q]? = some o -> ObjOk (backEnv E E' H.length ks lent) q' (mapO (bkN ks H.length) o) := by
  intro q q' o hq ho
  have hob := g'.objs q o ho
  have hloc : ∀ L, E'.loc q = some L -> (backEnv E E' H.length ks lent).loc q' = some L := λ L hL => by rw [backEnv_bk hn hok hq]; exact hL
  by_cases hl : lent
  ·have := hob.noF (hfl hl o (List.mem_of_getElem? ho))
   exact this.map (E := E'.noF) ⟨λ _ h => h.elim, λ _ h => h.elim, λ q q' L hq hL => by rw [backEnv_bk hn hok hq]; exact hL⟩ hloc (λ L hL hc => rfl)
  ·exact hob.map (E := E') ⟨λ b hb => ⟨hb, λ h => absurd h hl⟩, λ _ _ => rfl, λ q q' L hq hL => by rw [backEnv_bk hn hok hq]; exact hL⟩ hloc (λ L hL hc => rfl)
 refine ⟨kp, ?_, ?_, ?_⟩
 ·constructor
  ·intro l o hl
   rw [backO_get] at hl
   split at hl
   ·rename_i hlt
    rw [Nat.zero_add] at hl
    split at hl
    ·rename_i j hj
     injection hl with hl
     subst hl
     rw [List.getD_eq_getElem?_getD]
     cases ho : H1[j]? with
     | none => exact trivial
     | some o1 => exact mo j l o1 (bkN_lt (posN_get hj)) ho
    ·rename_i hp
     rw [Option.map_eq_some_iff] at hl
     obtain ⟨o1, ho1, rfl⟩ := hl
     refine (g.objs l o1 ho1).map kp (λ L hL => ?_) (λ L hL hc => ?_)
     ·simp only [backEnv, hp]
      rw [if_pos hlt]
      exact hL
     ·refine hblk L.b (g.own l L hL hc).2.1 (λ l' L' hL' hc' he => ?_)
      have := g.inj l' l L' L hL' hL hc' hc he
      rw [this]; exact hp
   ·rename_i hge
    rw [Option.map_eq_some_iff] at hl
    obtain ⟨o1, ho1, rfl⟩ := hl
    refine mo _ l o1 ?_ ho1
    rw [bkN_ge (by omega)]
    congr 1
    omega
  ·intro l L hL
   rw [backO_length]
   rcases backEnv_loc hL with ⟨j, hj, hL'⟩ | ⟨_, hlt, _⟩ | ⟨_, hge, hL'⟩
   ·obtain ⟨o, ho, _⟩ := handOk_get hok (posN_get hj)
    have := (List.getElem?_eq_some_iff.1 ho).1
    omega
   ·omega
   ·have := g'.dom _ L hL'
    omega
  ·intro l L hL hc
   rcases backEnv_loc hL with ⟨j, hj, hL'⟩ | ⟨hp, hlt, hL'⟩ | ⟨_, hge, hL'⟩
   ·have h1 := cal j L hL' hc
    exact ⟨notold _ h1.1, h1.2.1, λ hF => h1.2.2 hF.1⟩
   ·have h1 := g.own l L hL' hc
    refine ⟨h1.1, Nat.lt_of_lt_of_le h1.2.1 hsize, λ hF => ?_⟩
    have hho : (E.hand ks lent).old L.b := hand_old g h1.2.1 (λ l' L2 hL2 hc2 he => by
     have := g.inj l' l L2 L hL2 hL' hc2 hc he
     rw [this]; exact hp)
    rcases g'.down _ hF.1 with h | h
    ·rcases h with h | ⟨hle, h⟩
     ·exact h1.2.2 h
     ·exact hF.2 hle h
    ·exact h hho
   ·have h1 := cal _ L hL' hc
    exact ⟨notold _ h1.1, h1.2.1, λ hF => h1.2.2 hF.1⟩
  ·have callee : ∀ l L, (backEnv E E' H.length ks lent).loc l = some L -> (∃ q, bkN ks H.length q = some l /\ E'.loc q = some L) ∨ (posN ks l = none /\ l < H.length /\ E.loc l = some L) := by
    intro l L hL
    rcases backEnv_loc hL with ⟨j, hj, hL'⟩ | h | ⟨_, hge, hL'⟩
    ·exact .inl ⟨j, bkN_lt (posN_get hj), hL'⟩
    ·exact .inr h
    ·refine .inl ⟨_, ?_, hL'⟩
     rw [bkN_ge (by omega)]
     congr 1
     omega
   have cross : ∀ q L l' L', E'.loc q = some L -> 0 < L.cap -> posN ks l' = none -> E.loc l' = some L' -> 0 < L'.cap -> L.b ≠ L'.b := by
    intro q L l' L' hL hc hp hL' hc' he
    have h1 := (cal q L hL hc).1
    refine h1 (he ▸ hand_old g (g.own l' L' hL' hc').2.1 (λ l2 L2 hL2 hc2 he2 => ?_))
    have := g.inj l2 l' L2 L' hL2 hL' hc2 hc' he2
    rw [this]; exact hp
   intro l l' L L' hL hL' hc hc' hb
   rcases callee l L hL with ⟨q, hq, h1⟩ | ⟨hp, hlt, h1⟩ <;> rcases callee l' L' hL' with ⟨q', hq', h1'⟩ | ⟨hp', hlt', h1'⟩
   ·have := g'.inj q q' L L' h1 h1' hc hc' hb
    subst this
    rw [hq] at hq'
    injection hq'
   ·exact absurd hb (cross q L l' L' h1 hc hp' h1' hc')
   ·exact absurd hb.symm (cross q' L' l L h1' hc' hp h1 hc)
   ·exact g.inj l l' L L' h1 h1' hc hc' hb
  ·intro b hb
   exact g'.lt b hb.1
  ·intro b hb
   exact hup b (g.up b hb)
  ·intro b hb
   rcases g'.down b hb.1 with h | h
   ·rcases h with h | ⟨hle, h⟩
    ·exact g.down b h
    ·exact absurd h (hb.2 hle)
   ·exact .inr (notold b h)
  ·refine g.below.next g'.below.os g'.below.tape g'.below.output hsize (λ k hk => ?_)
   exact hblk k (Env.old_lt g.below hk) (λ l L hL hc he => absurd (he ▸ hk) (g.own l L hL hc).1)
  ·intro l hl
   have hlt : l < H.length := Nat.lt_of_lt_of_le hl g.hm
   cases hp : posN ks l with
   | none =>
    simp only [backEnv, hp]
    rw [if_pos hlt]
    exact g.stay l hl
   | some j =>
    have hjl : j < (E.hand ks lent).m := (List.getElem?_eq_some_iff.1 (posN_get hp)).1
    have hhl : (E.hand ks lent).loc j = E.loc l := by simp only [Env.hand, posN_get hp]
    simp only [backEnv, hp]
    rcases g'.stay j hjl with h | h
    ·rw [h, hhl]; exact g.stay l hl
    ·exact .inr h
  ·have := g.hm
   rw [backO_length]
   omega
 ·refine ⟨g'.below.os, g'.below.tape, g'.below.output, hsize, λ b hb hne => ?_, λ l L' hL' hc => ?_⟩
  ·refine hblk b hb (λ l L hL hc he => ?_)
   cases hp : posN ks l with
   | none => rfl
   | some j => exact absurd he.symm (hne l L (List.mem_of_getElem? (posN_get hp)) hL hc)
  ·rcases backEnv_loc hL' with ⟨j, hj, h1⟩ | ⟨hp, hlt, h1⟩ | ⟨_, hge, h1⟩
   ·have h2 := (cal _ L' h1 hc).1
    by_cases hs : L'.b < E.w.heap.size
    ·right
     by_cases hw : (E.hand ks lent).owns L'.b
     ·obtain ⟨l2, L2, j2, a1, a2, a3, a4⟩ := hand_owns.1 hw
      exact ⟨l2, L2, .inr (List.mem_of_getElem? a4), a1, a2, a3⟩
     ·exact absurd ⟨hs, hw⟩ h2
    ·exact .inl (Nat.le_of_not_lt hs)
   ·exact .inr ⟨l, L', .inl rfl, h1, hc, rfl⟩
   ·have h2 := (cal _ L' h1 hc).1
    by_cases hs : L'.b < E.w.heap.size
    ·right
     by_cases hw : (E.hand ks lent).owns L'.b
     ·obtain ⟨l2, L2, j2, a1, a2, a3, a4⟩ := hand_owns.1 hw
      exact ⟨l2, L2, .inr (List.mem_of_getElem? a4), a1, a2, a3⟩
     ·exact absurd ⟨hs, hw⟩ h2
    ·exact .inl (Nat.le_of_not_lt hs)
 ·intro v x hr hf
  by_cases hl : lent
  ·exact repV_map (repV_noF hr (hf hl)) ⟨λ _ h => h.elim, λ _ h => h.elim, λ q q' L hq hL => by rw [backEnv_bk hn hok hq]; exact hL⟩
  ·exact repV_map hr ⟨λ b hb => ⟨hb, λ h => absurd h hl⟩, λ _ _ => rfl, λ q q' L hq hL => by rw [backEnv_bk hn hok hq]; exact hL⟩
end
end
end Go.Am

namespace Go.Am
open Go.RowKit
variable [Inhabited GlT]
structure KLaw (P : Program) (k : TypeId) (W : Value -> Prop) : Prop where
 check : ∀ (w : World) (em : Bool) {v : Value}, W v -> (Instr.checkKey em 10000 k v).run P w = .ok () w
 find : ∀ (w : World) {x : Value}, W x -> ∀ es : List MapEntry, (∀ e ∈ es, W e.key) ->
  ((Instr.findKey k x es).run P w = .ok none w /\ ∀ e ∈ es, e.key ≠ x) ∨ ∃ j e, (Instr.findKey k x es).run P w = .ok (some (j, e.val)) w /\ es[j]? = some e /\ e.key = x
 stays : ∀ (w : World) {v : Value}, W v -> (Instr.keyThatStays v v).run P w = .ok v w
def zeroOf (P : Program) (t : TypeId) : Option AV := match P.info? t with
 | some i => match i.zero with
  | some (.agg us) => match zeroC P 8 t with
   | some cs => match matchCells cs us.toList with
    | true => some (.agg cs)
    | false => none
   | none => none
  | some (.tuple _) => none
  | some v => match v.oneCell' with
   | true => some (.pl v)
   | false => none
  | none => none
 | none => none
abbrev XK := St -> AV -> List Nat -> Prop
def opX (P : Program) (KT : TypeId -> Option (Value -> Prop)) (s : St) (o : Oper) : Option (XK -> Prop) := match o.op with
 | .range t x => match P.underlying t, s.ev x with
  | some .string, .pl (.string b) => some λ K => K { s with heap := s.heap ++ [.raw (.stringIter b 0)] } (.ptr s.heap.length 0 0 0) []
  | _, _ => none
 | .next it true => match s.ev it with
  | .ptr l 0 0 0 => match s.heap[l]? with
   | some (.raw (.stringIter b pos)) => some λ K => (pos < b.size -> K { s with heap := s.heap.set l (.raw (.stringIter b (pos + (Utf8.decode b pos).2))) } (.tup [.pl (.bool true), .pl (.int .i64 pos), .pl (.int .i32 (Utf8.decode b pos).1)]) [l]) /\ (¬ pos < b.size -> K s (.tup [.pl (.bool false)]) [])
   | _ => none
  | _ => none
 | .binOp op t x y _ => match P.underlying t, y, s.ev x with
  | some (.slice _), .const (.slice none 0 0), .rows _ n _ => match op with
   | .eql => some λ K => ∀ b : Bool, (0 < n -> b = false) -> K s (.pl (.bool b)) []
   | .neq => some λ K => ∀ b : Bool, (0 < n -> b = true) -> K s (.pl (.bool b)) []
   | _ => none
  | some (.slice _), .const (.slice none 0 0), .own _ _ n => match op with
   | .eql => some λ K => ∀ b : Bool, (0 < n -> b = false) -> K s (.pl (.bool b)) []
   | .neq => some λ K => ∀ b : Bool, (0 < n -> b = true) -> K s (.pl (.bool b)) []
   | _ => none
  | some (.slice _), .const (.slice none 0 0), .emp => match op with
   | .eql => some λ K => ∀ b : Bool, K s (.pl (.bool b)) []
   | .neq => some λ K => ∀ b : Bool, K s (.pl (.bool b)) []
   | _ => none
  | some (.slice _), .const (.slice none 0 0), .pl (.slice none 0 0) => match op with
   | .eql => some λ K => K s (.pl (.bool true)) []
   | .neq => some λ K => K s (.pl (.bool false)) []
   | _ => none
  | _, _, _ => none
 | .call { callee := .builtin .cap, args, argTypes } => match args.toList, argTypes.toList with
  | [x], [t] => match P.underlying t, s.ev x with
   | some (.slice _), .own l 0 n => match s.heap[l]? with
    | some (.row _ _ m _) => some λ K => ∀ c : Nat, m <= c -> n <= c -> c <= maxLen -> K { s with heap := s.heap ++ [.capo l c] } (.pl (.int .i64 c)) []
    | _ => none
   | _, _ => none
  | _, _ => none
 | _ => none
section
variable {P : Program} {E0 E : Env} {H : List LObj}
theorem gam_capo (g : Gam E0 E H) {l c : Nat} {L : Loc} (hL : E.loc l = some L) (hc : L.cap = c) : Gam E0 E (H ++ [.capo l c]) where
 objs := λ q o hq => by
  rw [List.getElem?_append] at hq
  split at hq
  ·exact g.objs q o hq
  ·cases hk : q - H.length with
   | zero => rw [hk] at hq; simp at hq; subst hq; exact ⟨L, hL, hc⟩
   | succ j => rw [hk] at hq; simp at hq
 dom := λ q L hL => by have := g.dom q L hL; simp; omega
 own := g.own
 inj := g.inj
 lt := g.lt
 up := g.up
 down := g.down
 below := g.below
 stay := g.stay
 hm := by have := g.hm; simp; omega
def Env.putO (E : Env) (b : Nat) (ob : Obj) : Env := { E with w := { E.w with heap := E.w.heap.setIfInBounds b ob } }
theorem putO_at (E : Env) {b : Nat} {ob ob' : Obj} (h : E.w.heap[b]? = some ob) : (E.putO b ob').w.heap[b]? = some ob' := by
 have := (Array.getElem?_eq_some_iff.1 h).1
 simp [Env.putO, this]
theorem putO_other (E : Env) {b k : Nat} (ob' : Obj) (h : k ≠ b) : (E.putO b ob').w.heap[k]? = E.w.heap[k]? := by
 simp only [Env.putO]
 rw [Array.getElem?_setIfInBounds, if_neg (λ e => h e.symm)]
theorem ext_putO (g : Gam E0 E H) {l : Nat} {L : Loc} (hL : E.loc l = some L) (hc : 0 < L.cap) (ob : Obj) : Ext E (E.putO L.b ob) :=
 ⟨λ _ h => h, λ _ ha => World.cell?_of_block (w := E.w) (putO_other E ob (λ e => (g.own l L hL hc).2.2 (e ▸ ha))), λ _ _ h => h⟩
theorem gam_putO (g : Gam E0 E H) {l : Nat} {L : Loc} (hL : E.loc l = some L) (hc : 0 < L.cap) (ob : Obj) {o : LObj} (ho : ObjOk (E.putO L.b ob) l o) : Gam E0 (E.putO L.b ob) (H.set l o) where
 objs := by
  intro l' o' hl
  rw [List.getElem?_set] at hl
  split at hl
  ·rename_i he
   subst he
   split at hl
   ·injection hl with hl
    subst hl
    exact ho
   ·cases hl
  ·rename_i hne
   refine (g.objs l' o' hl).mono (ext_putO g hL hc ob) (λ L' hL' hc' => putO_other E ob (λ e => hne ?_))
   exact g.inj l l' L L' hL hL' hc hc' e.symm
 dom := by intro l' L' hL'; simpa using g.dom l' L' hL'
 own := by intro l' L' hL' hc'; have := g.own l' L' hL' hc'; exact ⟨this.1, by simpa [Env.putO] using this.2.1, this.2.2⟩
 inj := g.inj
 lt := by intro b hb; simpa [Env.putO] using g.lt b hb
 up := g.up
 down := g.down
 below := g.below.next rfl rfl rfl (by simp [Env.putO]) (λ k hk => putO_other E ob (λ e => (g.own l L hL hc).1 (e ▸ hk)))
 stay := g.stay
 hm := by rw [List.length_set]; exact g.hm
theorem keep_putO (E : Env) {l : Nat} {L : Loc} (hL : E.loc l = some L) (hc : 0 < L.cap) (ob : Obj) : Keep [l] E (E.putO L.b ob) :=
 ⟨rfl, rfl, rfl, by simp [Env.putO], λ b _ hne => putO_other E ob (hne l L List.mem_cons_self hL hc), λ q L' hL' hc' => .inr ⟨q, L', .inl rfl, hL', hc', rfl⟩⟩
theorem repV_imm' {v : Value} {x : AV} (h : RepV E v x) (hi : immB x = true) : RepV E.imm v x := by
 cases x <;> first
  | exact trivial
  | exact h.elim
  |(simp [immB] at hi; done)
  | exact rep_imm (show Rep E [v] _ from h) hi
  |(obtain ⟨us, hv, hr⟩ := h; exact ⟨us, hv, rep_imm hr hi⟩)
def DoesX (P : Program) (E0 E : Env) (_ : St) (a : Act) (o : Oper) (K : XK) : Prop :=
 ∃ nx E' s' x tl, (execOp a.eval o).run P E.w = .ok nx E'.w /\ K s' x tl /\ GamS E0 E' s' a /\ ((∃ v, nx = .value v /\ RepV E' v x) ∨ (nx = .skip /\ x = .any)) /\ Keep tl E E'
def KeysOk (P : Program) (KT : TypeId -> Option (Value -> Prop)) : Prop := ∀ k W, KT k = some W -> KLaw P k W
theorem obj_new (g : Gam E0 E H) (ob : Obj) (o : LObj) (t : TypeId) (ho : ObjOk (E.new H.length ob 1 1 t) H.length o) : Gam E0 (E.new H.length ob 1 1 t) (H ++ [o]) := gam_new g ob 1 1 t ho
theorem repV_of1 {v : Value} {x : AV} (h : RepV1 E v x) : RepV E v x := by
 cases x <;> first | exact h | exact h.elim
theorem rep_tup2 {v u : Value} {x y : AV} (hx : RepV1 E v x) (hy : RepV1 E u y) : RepV E (.tuple #[v, u]) (.tup [x, y]) :=
 ⟨[v, u], rfl, rfl, λ i w z hw hz => by
  match i with
  | 0 => simp at hw hz; subst hw hz; exact hx
  | 1 => simp at hw hz; subst hw hz; exact hy
  | i + 2 => simp at hw⟩
theorem run_eql_nil {t e : TypeId} (hu : P.underlying t = some (.slice e)) (A : Option Addr) (n c : Nat) (w : World) : (binOp .eql t (.slice A n c) (.slice none 0 0)).run P w = .ok (.bool A.isNone) w := Lib.run_eql_slice_nil w t e A n c 0 0 hu
theorem run_neq_nil {t e : TypeId} (hu : P.underlying t = some (.slice e)) (A : Option Addr) (n c : Nat) (w : World) : (binOp .neq t (.slice A n c) (.slice none 0 0)).run P w = .ok (.bool (!A.isNone)) w := run_neq_slice_nil_any w t e A n c 0 0 hu
theorem does_val {s s' : St} {a : Act} {o : Oper} {K : XK} {v : Value} {x : AV} {E' : Env} {tl : List Nat} (hrun : (execOp a.eval o).run P E.w = .ok (.value v) E'.w) (hK : K s' x tl) (g' : GamS E0 E' s' a) (hv : RepV E' v x) (hk : Keep tl E E') : DoesX P E0 E s a o K :=
 ⟨.value v, E', s', x, tl, hrun, hK, g', .inl ⟨v, rfl, hv⟩, hk⟩
theorem does_nil {s : St} {a : Act} {o : Oper} {K : XK} (g : GamS E0 E s a) {op : BinOp} {t e : TypeId} {x : Operand} {y : TypeId} (ho : o.op = .binOp op t x (.const (.slice none 0 0)) y) (hu : P.underlying t = some (.slice e)) {A : Option Addr} {n c : Nat} (hx : a.eval x = .slice A n c)
  (h : (op = .eql /\ K s (.pl (.bool A.isNone)) []) ∨ (op = .neq /\ K s (.pl (.bool (!A.isNone))) [])) : DoesX P E0 E s a o K := by
 have hg : ∀ op, (eqGuard op t x (.const (.slice none 0 0)) (a.eval x) (.slice none 0 0)).run P E.w = .ok () E.w := λ op => by rw [hx]; exact run_eqGuard_cells rfl (by simp) E.w
 rcases h with ⟨rfl, hK⟩ | ⟨rfl, hK⟩
 ·refine does_val (v := .bool A.isNone) (E' := E) ?_ hK g (Rep.pl _ rfl) (Keep.refl _ _)
  have := run_eql_nil hu A n c E.w
  have hg := hg .eql
  rw [hx] at hg
  simp only [execOp, ho, Act.eval] at hx ⊢
  rw [hx]
  simp only [Sem.run_bind, hg, Result.andThen_ok, this, Sem.run_pure]
 ·refine does_val (v := .bool (!A.isNone)) (E' := E) ?_ hK g (Rep.pl _ rfl) (Keep.refl _ _)
  have := run_neq_nil hu A n c E.w
  have hg := hg .neq
  rw [hx] at hg
  simp only [execOp, ho, Act.eval] at hx ⊢
  rw [hx]
  simp only [Sem.run_bind, hg, Result.andThen_ok, this, Sem.run_pure]
theorem rows_slice {v : Value} {k n : Nat} {f : Nat -> AV} (h : Rep E [v] (.rows k n f)) : ∃ A c, v = .slice A n c /\ (0 < n -> A.isNone = false) := by
 obtain ⟨A, cap, ws, a, _, _, hA, _, _, _, rfl⟩ := h.rows_inv
 exact ⟨A, cap, rfl, λ hn => by rw [(hA hn).1]; rfl⟩
theorem own_slice {v : Value} {l off n : Nat} (h : Rep E [v] (.own l off n)) : ∃ A c, v = .slice A n c /\ (0 < n -> A.isNone = false) := by
 obtain ⟨L, A, _, hb, hA, rfl⟩ := h.own_inv
 exact ⟨A, _, rfl, λ hn => by rw [hA (by omega)]; rfl⟩
theorem run_opX {KT : TypeId -> Option (Value -> Prop)} (hKT : KeysOk P KT) {s : St} {a : Act} {o : Oper} {F : XK -> Prop} (g : GamS E0 E s a) (h : opX P KT s o = some F) {K : XK} (hF : F K) : DoesX P E0 E s a o K := by
 unfold opX at h
 split at h
 ·rename_i t x ho
  split at h
  ·rename_i b hu hx
   injection h with h
   subst h
   have hxv : a.eval x = .string b := by have := g.slots.ev x; rw [hx] at this; exact repV_pl this
   have g1 := obj_new g.toGam (.stringIter b 0) (.raw (.stringIter b 0)) t ⟨⟨E.w.heap.size, 1, 1, t⟩, by simp [Env.new], rfl, heap_alloc_new E.w _⟩
   refine does_val (v := .pointer (some ⟨E.w.heap.size, 0, none⟩)) ?_ hF ⟨g1, g.slots.mono (ext_new g.toGam _ _ _ _)⟩ ?_ (keep_new E _ _ _ _ _)
   ·simp only [execOp, ho, hxv, Instr.range, Sem.run_bind, run_underlying hu, Result.andThen_ok, Sem.run_pure, run_newObj]
    rfl
   ·have := Rep.ptr (E := E.new s.heap.length (.stringIter b 0) 1 1 t) (l := s.heap.length) (i := 0) (j := 0) (d := 0) (L := ⟨E.w.heap.size, 1, 1, t⟩) (by simp [Env.new])
    simpa [RepV, RepV1] using this
  ·cases h
 ·rename_i it ho
  split at h
  ·rename_i l hit
   split at h
   ·rename_i b pos hl
    injection h with h
    subst h
    obtain ⟨L, hL, hc, hg⟩ := g.objs _ _ hl
    have hv := g.slots.ev it
    rw [hit] at hv
    obtain ⟨L', hL', hv⟩ := Rep.ptr_inv (show Rep E [_] (.ptr l 0 0 0) from hv)
    rw [hL] at hL'
    injection hL' with hL'
    subst hL'
    have hv : a.eval it = .pointer (some ⟨L.b, 0, none⟩) := by rw [hv]; simp
    have hgo : (getObj L.b).run P E.w = .ok (.stringIter b pos) E.w := by simp [getObj, Sem.run, hg]
    have hpos : 0 < L.cap := by omega
    by_cases hlt : pos < b.size
    ·have hset : (setObj L.b (.stringIter b (pos + (Utf8.decode b pos).2))).run P E.w = .ok () (E.putO L.b (.stringIter b (pos + (Utf8.decode b pos).2))).w := by simp [setObj, Sem.run, hg, Env.putO]
     refine does_val (v := .tuple #[.bool true, .int .i64 pos, .int .i32 (Utf8.decode b pos).1]) (E' := E.putO L.b (.stringIter b (pos + (Utf8.decode b pos).2))) ?_ (hF.1 hlt) ⟨gam_putO g.toGam hL hpos _ ⟨L, hL, hc, putO_at E hg⟩, g.slots.mono (ext_putO g.toGam hL hpos _)⟩ ?_ (keep_putO E hL hpos _)
     ·simp only [execOp, ho, hv, Instr.next, Sem.run_bind, hgo, Result.andThen_ok, hlt, if_true, hset, Sem.run_pure]
      rfl
     ·exact ⟨[_, _, _], rfl, rfl, λ i w z hw hz => by
       match i with
       | 0 => simp at hw hz; subst hw hz; exact Rep.pl _ rfl
       | 1 => simp at hw hz; subst hw hz; exact Rep.pl _ rfl
       | 2 => simp at hw hz; subst hw hz; exact Rep.pl _ rfl
       | i + 3 => simp at hw⟩
    ·refine does_val (v := .tuple #[.bool false]) (E' := E) ?_ (hF.2 hlt) g ?_ (Keep.refl _ _)
     ·simp only [execOp, ho, hv, Instr.next, Sem.run_bind, hgo, Result.andThen_ok, hlt, if_false, Sem.run_pure]
     ·exact ⟨[_], rfl, rfl, λ i w z hw hz => by
       match i with
       | 0 => simp at hw hz; subst hw hz; exact Rep.pl _ rfl
       | i + 1 => simp at hw⟩
   ·cases h
  ·cases h
 ·rename_i op t x y yt ho
  split at h
  ·rename_i e k n f hu hx
   have hxv := g.slots.ev x
   rw [hx] at hxv
   obtain ⟨A, c, hA, hn⟩ := rows_slice (show Rep E [_] (.rows k n f) from hxv)
   split at h
   ·injection h with h; subst h
    exact does_nil g ho hu hA (.inl ⟨rfl, hF _ hn⟩)
   ·injection h with h; subst h
    exact does_nil g ho hu hA (.inr ⟨rfl, hF _ (λ h => by rw [hn h]; rfl)⟩)
   ·cases h
  ·rename_i e l off n hu hx
   have hxv := g.slots.ev x
   rw [hx] at hxv
   obtain ⟨A, c, hA, hn⟩ := own_slice (show Rep E [_] (.own l off n) from hxv)
   split at h
   ·injection h with h; subst h
    exact does_nil g ho hu hA (.inl ⟨rfl, hF _ hn⟩)
   ·injection h with h; subst h
    exact does_nil g ho hu hA (.inr ⟨rfl, hF _ (λ h => by rw [hn h]; rfl)⟩)
   ·cases h
  ·rename_i e hu hx
   have hxv := g.slots.ev x
   rw [hx] at hxv
   obtain ⟨A, hA⟩ := Rep.emp_inv (show Rep E [_] .emp from hxv)
   split at h
   ·injection h with h; subst h
    exact does_nil g ho hu hA (.inl ⟨rfl, hF _⟩)
   ·injection h with h; subst h
    exact does_nil g ho hu hA (.inr ⟨rfl, hF _⟩)
   ·cases h
  ·rename_i e hu hx
   have hxv := g.slots.ev x
   rw [hx] at hxv
   have hA := repV_pl hxv
   split at h
   ·injection h with h; subst h
    exact does_nil g ho hu hA (.inl ⟨rfl, hF⟩)
   ·injection h with h; subst h
    exact does_nil g ho hu hA (.inr ⟨rfl, hF⟩)
   ·cases h
  ·cases h
 ·rename_i args argTypes ho
  split at h
  ·rename_i x t hargs htys
   split at h
   ·rename_i e l n hu hx
    split at h
    ·rename_i k bt m f hl
     injection h with h
     subst h
     have hxv := g.slots.ev x
     rw [hx] at hxv
     obtain ⟨L, A, hL, hb, hA, hv⟩ := Rep.own_inv (show Rep E [_] (.own l 0 n) from hxv)
     obtain ⟨L', hL', ht, hk, hm, hmx, _⟩ := g.objs _ _ hl
     rw [hL] at hL'
     injection hL' with hL'
     subst hL'
     refine does_val (v := .int .i64 L.cap) (E' := E) ?_ (hF L.cap hm (by omega) hmx) ⟨gam_capo g.toGam hL rfl, g.slots⟩ (Rep.pl _ rfl) (Keep.refl _ _)
     have e1 : args = #[x] := by rw [<- hargs]
     have e2 : argTypes = #[t] := by rw [<- htys]
     subst e1 e2
     have hcap : (Builtin.cap_ #[t] o.type #[a.eval x]).run P E.w = .ok (.int .i64 L.cap) E.w := by
      rw [hv]
      simp [Builtin.cap_, run_underlying hu, goInt]
     simp only [execOp, ho, resolve, invoke, builtin, Sem.run_bind, Sem.run_pure, Result.andThen_ok, List.map_toArray, List.map_cons, List.map_nil, hcap]
    ·cases h
   ·cases h
  ·cases h
 ·cases h
end
end Go.Am

namespace Go.Am
open Go.RowKit
variable [Inhabited GlT]
section
variable {P : Program} {E0 E : Env} {H : List LObj}
def wrF (f : Nat -> AV) (off cnt : Nat) (x : Nat -> AV) (q : Nat) : AV := if q < off then f q else if q < off + cnt then x (q - off) else f q
def wrN (n off cnt : Nat) : Nat := if off + cnt <= n then n else off + cnt
theorem mul_le_of {a b k : Nat} (h : a <= b) : a * k <= b * k := Nat.mul_le_mul_right k h
theorem succ_mul_le {a b k : Nat} (h : a < b) : a * k + k <= b * k := by
 calc a * k + k = (a + 1) * k := by rw [Nat.add_mul]; omega
  _ <= b * k := Nat.mul_le_mul_right k (by omega)
theorem row_write (g : Gam E0 E H) {l : Nat} {k : Nat} {t : TypeId} {n : Nat} {f : Nat -> AV} (hl : H[l]? = some (.row k t n f)) {L : Loc} (hL : E.loc l = some L) {off cnt : Nat} {us : Nat -> List Value} {x : Nat -> AV} (hus : ∀ i, i < cnt -> (us i).length = k) (hur : ∀ i, i < cnt -> Rep E.imm (us i) (x i))
  (h0 : 0 < cnt) (hoff : off <= n) (hcap : off + cnt <= L.cap) :
  ∃ arr : Array Value, CellsAt E.w L.b arr t k /\ arr.size = L.cap * k /\ 0 < L.cap /\ Gam E0 (E.set L.b (arr.toList.take (off * k) ++ flatE us cnt ++ arr.toList.drop (off * k + cnt * k)).toArray) (H.set l (.row k t (wrN n off cnt) (wrF f off cnt x))) := by
 obtain ⟨L', hL', ht, hk, hn, hm, hrow⟩ := g.objs _ _ hl
 rw [hL] at hL'
 injection hL' with hL'
 subst hL'
 have hpos : 0 < L.cap := by omega
 obtain ⟨arr, hg, hsz, hel⟩ := hrow hpos
 have hfl : (flatE us cnt).length = cnt * k := flatE_length hus
 have hle : off * k + cnt * k <= arr.size := by rw [hsz, <- Nat.add_mul]; exact mul_le_of hcap
 refine ⟨arr, hg, hsz, hpos, gam_set g hL hpos _ ⟨L, hL, ht, hk, ?_, hm, λ _ => ⟨_, hg.setRow _ (by simp [hfl]; omega), ?_, λ q hq => ?_⟩⟩⟩
 ·unfold wrN; split <;> omega
 ·simp [hfl]
  omega
 ·have e := ext_set g hL hpos (arr.toList.take (off * k) ++ flatE us cnt ++ arr.toList.drop (off * k + cnt * k)).toArray
  have keep : (q < off ∨ off + cnt <= q) -> q < n -> ∃ ws : List Value, ws.length = k /\ Rep (E.set L.b (arr.toList.take (off * k) ++ flatE us cnt ++ arr.toList.drop (off * k + cnt * k)).toArray).imm ws (f q) /\
    ∀ (j : Nat) (u : Value), ws[j]? = some u -> (arr.toList.take (off * k) ++ flatE us cnt ++ arr.toList.drop (off * k + cnt * k)).toArray[q * k + j]? = some u := by
   intro hside hqn
   obtain ⟨ws, h1, h2, h3⟩ := hel q hqn
   refine ⟨ws, h1, e.repImm h2, λ j u hu => ?_⟩
   have hj : j < k := by rw [<- h1]; exact (List.getElem?_eq_some_iff.1 hu).1
   have hold := h3 j u hu
   rw [List.getElem?_toArray, List.append_assoc, List.getElem?_append]
   simp only [List.length_take, Array.length_toList]
   rw [Nat.min_eq_left (by omega)]
   rcases hside with hlt | hge
   ·have := succ_mul_le (k := k) hlt
    rw [if_pos (by omega), List.getElem?_take, if_pos (by omega)]
    simpa using hold
   ·have : (off + cnt) * k <= q * k := mul_le_of hge
    rw [Nat.add_mul] at this
    rw [if_neg (by omega), List.getElem?_append, if_neg (by omega), List.getElem?_drop, hfl, show off * k + cnt * k + (q * k + j - off * k - cnt * k) = q * k + j by omega]
    simpa using hold
  unfold wrF
  by_cases h1 : q < off
  ·rw [if_pos h1]
   exact keep (.inl h1) (by omega)
  ·rw [if_neg h1]
   by_cases h2 : q < off + cnt
   ·rw [if_pos h2]
    refine ⟨us (q - off), hus _ (by omega), e.repImm (hur _ (by omega)), λ j u hu => ?_⟩
    have hj : j < k := by rw [<- hus (q - off) (by omega)]; exact (List.getElem?_eq_some_iff.1 hu).1
    have h3 : off * k <= q * k := mul_le_of (by omega)
    have h4 := succ_mul_le (k := k) (show q - off < cnt by omega)
    have h5 : q * k = off * k + (q - off) * k := by rw [<- Nat.add_mul]; congr 1; omega
    rw [List.getElem?_toArray, List.append_assoc, List.getElem?_append]
    simp only [List.length_take, Array.length_toList]
    rw [Nat.min_eq_left (by omega), if_neg (by omega), List.getElem?_append, if_pos (by omega), show q * k + j - off * k = (q - off) * k + j by omega, flatE_get hus (by omega) hj]
    exact hu
   ·rw [if_neg h2]
    refine keep (.inr (by omega)) ?_
    unfold wrN at hq
    split at hq <;> omega
theorem flat_one {us : Nat -> List Value} {x : Nat -> AV} {cnt : Nat} (h : ∀ i, i < cnt -> Rep E.imm (us i) (x i)) : ∀ u ∈ flatE us cnt, u.oneCell' = true := by
 induction cnt with
 | zero => intro u hu; simp [flatE] at hu
 | succ m ih =>
  intro u hu
  simp only [flatE, List.mem_append] at hu
  rcases hu with hu | hu
  ·exact ih (λ i hi => h i (by omega)) u hu
  ·exact (h m (by omega)).one u hu
structure SrcAt (E : Env) (v : Value) (k m : Nat) (f : Nat -> AV) (A : Option Addr) (c : Nat) (us : Nat -> List Value) (a : Addr) : Prop where
 v : v = .slice A m c
 A : 0 < m -> A = some a
 len : ∀ i, i < m -> (us i).length = k
 rep : ∀ i, i < m -> Rep E.imm (us i) (f i)
 cell : ∀ i, i < m -> ∀ (j : Nat) (u : Value), (us i)[j]? = some u -> E.w.cell? (a.add (i * k + j)) = some u
theorem src_at (g : Gam E0 E H) {v : Value} {y : AV} {p : Prop} {k m : Nat} {f : Nat -> AV} (hy : RepV E v y) (h : srcAt H k y = some (p, m, f)) (hp : p) : ∃ A c us a, SrcAt E v k m f A c us a := by
 obtain ⟨A, c, us, a, h1, h2, h3, h4, h5⟩ := src_spec g hy h hp
 exact ⟨A, c, us, a, ⟨h1, h2, h3, h4, h5⟩⟩
structure SrcC (E : Env) (v : Value) (k m cnt : Nat) (f : Nat -> AV) (A : Option Addr) (c : Nat) (us : Nat -> List Value) (a : Addr) : Prop where
 v : v = .slice A m c
 le : cnt <= m
 A : 0 < cnt -> A = some a
 len : ∀ i, i < cnt -> (us i).length = k
 rep : ∀ i, i < cnt -> Rep E.imm (us i) (f i)
 cell : ∀ i, i < cnt -> ∀ (j : Nat) (u : Value), (us i)[j]? = some u -> E.w.cell? (a.add (i * k + j)) = some u
theorem SrcAt.first {v : Value} {k m : Nat} {f : Nat -> AV} {A : Option Addr} {c : Nat} {us : Nat -> List Value} {a : Addr} (s : SrcAt E v k m f A c us a) {cnt : Nat} (h : cnt <= m) : SrcC E v k m cnt f A c us a :=
 ⟨s.v, h, λ hh => s.A (by omega), λ i hi => s.len i (by omega), λ i hi => s.rep i (by omega), λ i hi => s.cell i (by omega)⟩
def srcC (H : List LObj) (k len : Nat) (y : AV) : Option (Prop × Nat × (Nat -> AV)) := match y with
 | .own l off m => match H[l]? with
  | some (.row k' _ n f) => if k' = k then some (off + Nat.min m len <= n, m, λ i => f (off + i)) else none
  | _ => none
 | y => srcAt H k y
theorem src_c (g : Gam E0 E H) {v : Value} {y : AV} {p : Prop} {k len m : Nat} {f : Nat -> AV} (hy : RepV E v y) (h : srcC H k len y = some (p, m, f)) (hp : p) : ∃ A c us a, SrcC E v k m (Nat.min m len) f A c us a := by
 unfold srcC at h
 split at h
 ·rename_i l off m'
  split at h
  ·rename_i k' t n f' hl
   split at h
   ·rename_i hk
    subst hk
    simp only [Option.some.injEq, Prod.mk.injEq] at h
    obtain ⟨rfl, rfl, rfl⟩ := h
    obtain ⟨L, A, hL, hb, hA, rfl⟩ := Rep.own_inv (show Rep E [v] _ from hy)
    by_cases h0 : Nat.min m' len = 0
    ·exact ⟨A, L.cap - off, λ _ => [], default, rfl, by omega, by omega, by omega, by omega, by omega⟩
    ·have hmin : Nat.min m' len <= m' := Nat.min_le_left _ _
     obtain ⟨L2, hL2, _, hLk, hn, _, hrow⟩ := g.objs l _ hl
     obtain rfl : L = L2 := by rw [hL] at hL2; injection hL2
     obtain ⟨arr, harr, hsz, hel⟩ := hrow (by omega)
     have hch := λ i (hi : i < n) => hel i hi
     refine ⟨A, L.cap - off, λ i => if h : off + i < n then (hch (off + i) h).choose else [], ⟨L.b, off * L.k, none⟩, rfl, hmin, λ _ => hA (by omega), λ i hi => ?_, λ i hi => ?_, λ i hi j u hu => ?_⟩
     ·rw [dif_pos (by omega)]; exact (hch (off + i) (by omega)).choose_spec.1
     ·rw [dif_pos (by omega)]; exact (hch (off + i) (by omega)).choose_spec.2.1
     ·rw [dif_pos (by omega)] at hu
      have h3 := (hch (off + i) (by omega)).choose_spec.2.2 j u hu
      rw [addr_add, harr.cell, hLk, show off * k' + (i * k' + j) = (off + i) * k' + j by rw [Nat.add_mul]; omega]
      exact h3
   ·cases h
  ·cases h
 ·obtain ⟨A, c, us, a, s⟩ := src_at g hy h hp
  exact ⟨A, c, us, a, s.first (Nat.min_le_left _ _)⟩
theorem SrcC.cells {v : Value} {k m cnt : Nat} {f : Nat -> AV} {A : Option Addr} {c : Nat} {us : Nat -> List Value} {a : Addr} (s : SrcC E v k m cnt f A c us a) : ∀ (j : Nat) (u : Value), (flatE us cnt)[j]? = some u -> E.w.cell? (a.add j) = some u := by
 intro j u hu
 obtain ⟨i, q, hi, hq, rfl, hu'⟩ := flatE_split (λ i hi => s.len i hi) hu
 exact s.cell i hi q u hu'
theorem run_firstC {P : Program} {v : Value} {k m cnt : Nat} {f : Nat -> AV} {A : Option Addr} {c : Nat} {us : Nat -> List Value} {a : Addr} (s : SrcC E v k m cnt f A c us a) : (Builtin.firstCells k cnt v).run P E.w = .ok (flatE us cnt).toArray E.w := by
 rw [s.v]
 by_cases h : 0 < cnt
 ·rw [s.A h]
  exact run_firstCells_some E.w k cnt a m c (flatE us cnt) (flatE_length λ i hi => s.len i hi) s.cells
 ·have : cnt = 0 := by omega
  subst this
  cases A <;> simp [Builtin.firstCells, flatE, loadCells, loadCellsFrom]
theorem SrcAt.cells {v : Value} {k m : Nat} {f : Nat -> AV} {A : Option Addr} {c : Nat} {us : Nat -> List Value} {a : Addr} (s : SrcAt E v k m f A c us a) {cnt : Nat} (hc : cnt <= m) : ∀ (j : Nat) (u : Value), (flatE us cnt)[j]? = some u -> E.w.cell? (a.add j) = some u := by
 intro j u hu
 obtain ⟨i, q, hi, hq, rfl, hu'⟩ := flatE_split (λ i hi => s.len i (by omega)) hu
 exact s.cell i (by omega) q u hu'
theorem run_first {P : Program} {v : Value} {k m : Nat} {f : Nat -> AV} {A : Option Addr} {c : Nat} {us : Nat -> List Value} {a : Addr} (s : SrcAt E v k m f A c us a) {cnt : Nat} (hc : cnt <= m) : (Builtin.firstCells k cnt v).run P E.w = .ok (flatE us cnt).toArray E.w := by
 rw [s.v]
 cases A with
 | none =>
  have hm : m = 0 := by
   rcases Nat.eq_zero_or_pos m with h | h
   ·exact h
   ·have := s.A h; cases this
  have : cnt = 0 := by omega
  subst this
  simp [Builtin.firstCells, flatE]
 | some b =>
  by_cases h : 0 < cnt
  ·have hb := s.A (by omega)
   injection hb with hb
   subst hb
   exact run_firstCells_some E.w k cnt b m c (flatE us cnt) (flatE_length λ i hi => s.len i (by omega)) (s.cells hc)
  ·have : cnt = 0 := by omega
   subst this
   simp [Builtin.firstCells, flatE, loadCells, loadCellsFrom]
theorem run_store_row (g : Gam E0 E H) {l : Nat} {k : Nat} {t : TypeId} {n : Nat} {f : Nat -> AV} (hl : H[l]? = some (.row k t n f)) {L : Loc} (hL : E.loc l = some L) {off cnt : Nat} {us : Nat -> List Value} {x : Nat -> AV} (hus : ∀ i, i < cnt -> (us i).length = k) (hur : ∀ i, i < cnt -> Rep E.imm (us i) (x i))
  (h0 : 0 < cnt) (hoff : off <= n) (hcap : off + cnt <= L.cap) :
  ∃ E' : Env, (storeCells ⟨L.b, off * k, none⟩ (flatE us cnt)).run P E.w = .ok () E'.w /\ Gam E0 E' (H.set l (.row k t (wrN n off cnt) (wrF f off cnt x))) /\ Ext E E' /\ Keep [l] E E' := by
 obtain ⟨arr, hg, hsz, hpos, gg⟩ := row_write g hl hL hus hur h0 hoff hcap
 have hfl : (flatE us cnt).length = cnt * k := flatE_length hus
 have hle : off * k + cnt * k <= arr.size := by rw [hsz, <- Nat.add_mul]; exact mul_le_of hcap
 refine ⟨_, ?_, gg, ext_set g hL hpos _, keep_set E hL hpos _⟩
 have := run_storeCells_atC (P := P) L.b (off * k) t (flatE us cnt) 0 arr E.w hg (by rw [hfl]; omega) (flat_one hur)
 rw [this, Nat.add_zero, hfl]
 rfl
theorem gam_drewX {s : St} {a : Act} (g : GamS E0 E s a) : GamS E0 { E with w := E.w.drew } s a := by
 have e : Ext E { E with w := E.w.drew } := ⟨λ _ h => h, λ _ _ => rfl, λ _ _ h => h⟩
 refine ⟨⟨λ l o hl => (g.objs l o hl).mono e (λ _ _ _ => rfl), g.dom, g.own, g.inj, g.lt, g.up, g.down, ?_, g.stay, g.hm⟩, g.slots.mono e⟩
 exact g.below.next rfl rfl rfl (Nat.le_refl _) (λ _ _ => rfl)
def findCap (l : Nat) : List LObj -> Option Nat
 | [] => none
 | .capo q c :: os => match Nat.beq q l with
  | true => some c
  | false => findCap l os
 | _ :: os => findCap l os
theorem findCap_mem {l c : Nat} : ∀ {os : List LObj}, findCap l os = some c -> .capo l c ∈ os := by
 intro os
 induction os with
 | nil => intro h; cases h
 | cons o os ih =>
  intro h
  cases o with
  | capo q c' =>
   simp only [findCap] at h
   split at h
   ·rename_i hb
    injection h with h
    rw [Nat.eq_of_beq_eq_true hb, h]
    exact List.mem_cons_self
   ·exact List.mem_cons_of_mem _ (ih h)
  | _ => exact List.mem_cons_of_mem _ (ih h)
theorem findCap_spec (g : Gam E0 E H) {l c : Nat} (h : findCap l H = some c) : ∃ L, E.loc l = some L /\ L.cap = c := by
 obtain ⟨q, hq⟩ := List.mem_iff_getElem?.1 (findCap_mem h)
 exact g.objs q _ hq
def opY (P : Program) (s : St) (o : Oper) : Option (XK -> Prop) := match o.op with
 | .call { callee := .builtin .append, args, argTypes } => match args.toList, argTypes.toList with
  | [x, y], [t, t'] => match s.ev x, apInfo P t with
   | .own l 0 i, some (e, k, bytes) => match s.heap[l]? with
    | some (.row k2 e2 n f) => match Nat.beq t t' with
     | true => match s.ev y with
      | .own l' off m => match Nat.beq l l' with
       | true => some λ K => k = k2 /\ i + m <= n /\ off + m <= n /\ K { s with heap := s.heap.set l (.row k2 e2 (wrN n i m) (wrF f i m λ q => f (off + q))) } (.own l 0 (i + m)) [l]
       | false => none
      | _ => none
     | false => match P.underlying t', s.ev y, findCap l s.heap, zeroOf P e with
      | some (.int _), .pl (.int _ m), some c, some z => some λ K => k = k2 /\ e = e2 /\ 0 < m /\ i <= n /\ c < i + m.toNat /\ i + m.toNat <= maxLen /\ (i + m.toNat) * bytes <= 70368744177664 /\
        K { s with heap := s.heap ++ [.row k e (i + m.toNat) (λ q => if q < i then f q else z)] } (.own s.heap.length 0 (i + m.toNat)) []
      | _, _, _, _ => none
    | _ => none
   | _, _ => none
  | _, _ => none
 | .call { callee := .builtin .copy, args, argTypes } => match args.toList, argTypes.toList with
  | [x, y], [t, _] => match s.ev x, P.underlying t with
   | .own l off len, some (.slice e) => match s.heap[l]?, szOf P e with
    | some (.row k bt n f), some z => match srcC s.heap k len (s.ev y) with
     | some (p, m, g) => some λ K => z = k /\ p /\ off <= n /\ K { s with heap := s.heap.set l (.row k bt (wrN n off (Nat.min m len)) (wrF f off (Nat.min m len) g)) } (.pl (.int .i64 (Nat.min m len : Nat))) [l]
     | none => none
    | _, _ => none
   | _, _ => none
  | _, _ => none
 | .call { callee := .builtin .clear, args, argTypes } => match args.toList, argTypes.toList with
  | [x], [t] => match s.ev x, apInfo P t with
   | .own l off len, some (e, k, _) => match s.heap[l]?, zeroOf P e with
    | some (.row k2 bt n f), some zv => some λ K => k = k2 /\ off + len <= n /\ K { s with heap := s.heap.set l (.row k2 bt (wrN n off len) (wrF f off len λ _ => zv)) } (.tup []) [l]
    | _, _ => none
   | _, _ => none
  | _, _ => none
 | .slice t x none (some hi) none => match s.ev x, s.ev hi, P.underlying t with
  | .own l 0 _, .pl (.int _ h), some (.slice e) => match findCap l s.heap with
   | some c => match szOf P e with
    | some _ => some λ K => 0 <= h /\ h <= c /\ K s (.own l 0 h.toNat) []
    | none => none
   | none => none
  | _, _, _ => none
 | .slice t x (some lo) (some hi) (some mx) => match s.ev x, s.ev lo, s.ev hi, s.ev mx with
  | .own _ _ len, .pl (.int _ a), .pl (.int _ b), .pl (.int _ m) => match P.underlying t with
   | some (.slice e) => match szOf P e with
    | some _ => some λ K => 0 <= a /\ a <= b /\ b <= m /\ m <= len /\ K s .any []
    | none => none
   | _ => none
  | _, _, _, _ => none
 | _ => none
theorem exec_append {a : Act} {o : Oper} {x y : Operand} {t t' : TypeId} {args : Array Operand} {argTypes : Array TypeId} (ho : o.op = .call { callee := .builtin .append, args := args, argTypes := argTypes }) (h1 : args.toList = [x, y]) (h2 : argTypes.toList = [t, t']) {v : Value} {w w' : World}
  (h : (Builtin.append_ #[t, t'] o.type #[a.eval x, a.eval y]).run P w = .ok v w') : (execOp a.eval o).run P w = .ok (.value v) w' := by
 have e1 : args = #[x, y] := by rw [<- h1]
 have e2 : argTypes = #[t, t'] := by rw [<- h2]
 subst e1 e2
 simp only [execOp, ho, resolve, invoke, builtin, Sem.run_bind, Sem.run_pure, Result.andThen_ok, List.map_toArray, List.map_cons, List.map_nil, h]
theorem exec_copy {a : Act} {o : Oper} {x y : Operand} {t t' : TypeId} {args : Array Operand} {argTypes : Array TypeId} (ho : o.op = .call { callee := .builtin .copy, args := args, argTypes := argTypes }) (h1 : args.toList = [x, y]) (h2 : argTypes.toList = [t, t']) {v : Value} {w w' : World}
  (h : (Builtin.copy_ #[t, t'] o.type #[a.eval x, a.eval y]).run P w = .ok v w') : (execOp a.eval o).run P w = .ok (.value v) w' := by
 have e1 : args = #[x, y] := by rw [<- h1]
 have e2 : argTypes = #[t, t'] := by rw [<- h2]
 subst e1 e2
 simp only [execOp, ho, resolve, invoke, builtin, Sem.run_bind, Sem.run_pure, Result.andThen_ok, List.map_toArray, List.map_cons, List.map_nil, h]
theorem exec_clear {a : Act} {o : Oper} {x : Operand} {t : TypeId} {args : Array Operand} {argTypes : Array TypeId} (ho : o.op = .call { callee := .builtin .clear, args := args, argTypes := argTypes }) (h1 : args.toList = [x]) (h2 : argTypes.toList = [t]) {v : Value} {w w' : World}
  (h : (Builtin.clear_ #[t] o.type #[a.eval x]).run P w = .ok v w') : (execOp a.eval o).run P w = .ok (.value v) w' := by
 have e1 : args = #[x] := by rw [<- h1]
 have e2 : argTypes = #[t] := by rw [<- h2]
 subst e1 e2
 simp only [execOp, ho, resolve, invoke, builtin, Sem.run_bind, Sem.run_pure, Result.andThen_ok, List.map_toArray, List.map_cons, List.map_nil, h]
theorem wr_zero (f : Nat -> AV) (n off : Nat) (x : Nat -> AV) (h : off <= n) : wrN n off 0 = n /\ wrF f off 0 x = f := by
 refine ⟨by unfold wrN; split <;> omega, funext λ q => ?_⟩
 unfold wrF
 split
 ·rfl
 ·rw [if_neg (by omega)]
theorem set_self {l : Nat} {o : LObj} (h : H[l]? = some o) : H.set l o = H := by
 apply List.ext_getElem?
 intro i
 rw [List.getElem?_set]
 split
 ·rename_i he; subst he; split
  ·exact h.symm
  ·rename_i hlt; rw [List.getElem?_eq_none (by omega)]
 ·rfl
theorem store_or {s : St} {a : Act} (g : GamS E0 E s a) {l : Nat} {k : Nat} {t : TypeId} {n : Nat} {f : Nat -> AV} (hl : s.heap[l]? = some (.row k t n f)) {L : Loc} (hL : E.loc l = some L) {off cnt : Nat} {us : Nat -> List Value} {x : Nat -> AV} (hus : ∀ i, i < cnt -> (us i).length = k) (hur : ∀ i, i < cnt -> Rep E.imm (us i) (x i))
  (hoff : off <= n) (hcap : off + cnt <= L.cap) {A : Option Addr} (hA : 0 < cnt -> A = some ⟨L.b, off * k, none⟩) :
  ∃ E' : Env, (match A with | some b => storeCells b (flatE us cnt) | none => pure () : Sem Unit).run P E.w = .ok () E'.w /\ GamS E0 E' { s with heap := s.heap.set l (.row k t (wrN n off cnt) (wrF f off cnt x)) } a /\ Ext E E' /\ Keep [l] E E' := by
 rcases Nat.eq_zero_or_pos cnt with h0 | h0
 ·subst h0
  obtain ⟨e1, e2⟩ := wr_zero f n off x hoff
  rw [e1, e2, set_self hl]
  refine ⟨E, ?_, g, Ext.refl E, Keep.refl _ _⟩
  cases A <;> simp [flatE, storeCells]
 ·obtain rfl := hA h0
  obtain ⟨E', h1, h2, h3, h4⟩ := run_store_row (P := P) g.toGam hl hL hus hur h0 hoff hcap
  exact ⟨E', h1, ⟨h2, g.slots.mono h3⟩, h3, h4⟩
theorem own_loc {v : Value} {l off n : Nat} {o : LObj} (_ : Gam E0 E H) (h : RepV E v (.own l off n)) (_ : H[l]? = some o) : ∃ L A, E.loc l = some L /\ off + n <= L.cap /\ (off < L.cap -> A = some ⟨L.b, off * L.k, none⟩) /\ v = .slice A n (L.cap - off) :=
 Rep.own_inv (show Rep E [v] (.own l off n) from h)
theorem szOf_info {t : TypeId} {z : Nat} (h : szOf P t = some z) : ∃ i, P.info? t = some i /\ i.size = z := by
 unfold szOf at h
 split at h
 ·rename_i i hi
  injection h with h
  exact ⟨i, hi, h⟩
 ·cases h
theorem does_appendIn {s : St} {a : Act} {o : Oper} (g : GamS E0 E s a) {x y : Operand} {t : TypeId} {args : Array Operand} {argTypes : Array TypeId} (ho : o.op = .call { callee := .builtin .append, args := args, argTypes := argTypes }) (h1 : args.toList = [x, y]) (h2 : argTypes.toList = [t, t])
  {l i off m n k bytes : Nat} {e e2 : TypeId} {f : Nat -> AV} (hx : s.ev x = .own l 0 i) (hy : s.ev y = .own l off m) (hap : apInfo P t = some (e, k, bytes)) (hl : s.heap[l]? = some (.row k e2 n f)) (hi : i + m <= n) (hm : off + m <= n) {K : XK}
  (hK : K { s with heap := s.heap.set l (.row k e2 (wrN n i m) (wrF f i m λ q => f (off + q))) } (.own l 0 (i + m)) [l]) : DoesX P E0 E s a o K := by
 obtain ⟨hu, inf, zv, hinf, hz, hisz, hby, hzs, hk0⟩ := apInfo_spec hap
 have hxv := g.slots.ev x
 rw [hx] at hxv
 obtain ⟨L, A, hL, hb, hA, hxv⟩ := own_loc g.toGam hxv hl
 obtain ⟨L', hL', ht, hk, hn, hmx, _⟩ := g.objs _ _ hl
 rw [hL] at hL'
 injection hL' with hL'
 subst hL'
 have hyv := g.slots.ev y
 rw [hy] at hyv
 obtain ⟨A2, c2, us, a2, src⟩ := src_at (k := k) (p := off + m <= n) (m := m) (f := λ q => f (off + q)) g.toGam hyv (by simp only [srcAt, srcOf, hl, if_true]) hm
 obtain ⟨E', hst, g', he, hkp⟩ := store_or (P := P) g hl hL (off := i) (cnt := m) (us := us) (x := λ q => f (off + q)) src.len src.rep (by omega) (by omega) (A := A.map λ b => b.add (i * k)) (λ h => by
  rw [hA (by omega)]
  simp [addr_add, hk])
 refine does_val (v := .slice A (i + m) L.cap) (E' := E') (exec_append ho h1 h2 ?_) hK g' ?_ hkp
 ·have hfirst := run_first (P := P) src (Nat.le_refl m)
  rw [src.v] at hfirst
  rw [hxv, src.v]
  have hneed : i + m <= L.cap := by omega
  simp only [Builtin.append_, List.getElem?_toArray, List.getElem?_cons_zero, List.getElem?_cons_succ, Sem.run_bind, run_underlying hu, Result.andThen_ok, sizeOf, typeInfo, run_program, hinf, Builtin.lenOf, Sem.run_pure, Nat.sub_zero, hisz, hneed, if_true, hfirst, Sem.run_ite]
  cases A with
  | none =>
   simp only [Option.map_none] at hst
   have hE : E.w = E'.w := by simpa using hst
   simp [hE]
  | some b =>
   simp only [Option.map_some] at hst
   simp [hst]
 ·have := Rep.own (E := E') (l := l) (off := 0) (len := i + m) (he.loc _ _ hL) (by omega) (A := A) (λ h => by
   have := hA h
   simpa using this)
  simpa [RepV, RepV1] using this
theorem does_appendZeros {s : St} {a : Act} {o : Oper} (g : GamS E0 E s a) {x y : Operand} {t t' : TypeId} {args : Array Operand} {argTypes : Array TypeId} (ho : o.op = .call { callee := .builtin .append, args := args, argTypes := argTypes }) (h1 : args.toList = [x, y]) (h2 : argTypes.toList = [t, t'])
  {l i n k bytes c : Nat} {m : Int} {ki ki' : IntKind} {e : TypeId} {f : Nat -> AV} {z : AV} (hx : s.ev x = .own l 0 i) (hy : s.ev y = .pl (.int ki m)) (hap : apInfo P t = some (e, k, bytes)) (hu' : P.underlying t' = some (.int ki')) (hl : s.heap[l]? = some (.row k e n f)) (hc : findCap l s.heap = some c) (hz : zeroOf P e = some z)
  (hm0 : 0 < m) (hi : i <= n) (hlt : c < i + m.toNat) (hmx : i + m.toNat <= maxLen) (hby : (i + m.toNat) * bytes <= 70368744177664) {K : XK}
  (hK : K { s with heap := s.heap ++ [.row k e (i + m.toNat) (λ q => if q < i then f q else z)] } (.own s.heap.length 0 (i + m.toNat)) []) : DoesX P E0 E s a o K := by
 obtain ⟨hu, inf, zv, hinf, hzi, hisz, hbyi, hzs, hk0⟩ := apInfo_spec hap
 obtain ⟨p, rfl⟩ := Int.eq_ofNat_of_zero_le (show 0 <= m by omega)
 simp only [Int.toNat_natCast] at hlt hmx hby hK
 have hp0 : 0 < p := by omega
 have hxv := g.slots.ev x
 rw [hx] at hxv
 obtain ⟨L, A, hL, hb, hA, hxv⟩ := own_loc g.toGam hxv hl
 obtain ⟨L0, hL0, hc0⟩ := findCap_spec g.toGam hc
 rw [hL] at hL0
 injection hL0 with hL0
 subst hL0
 obtain ⟨L', hL', ht, hk, hn, hmxc, hrow⟩ := g.objs _ _ hl
 rw [hL] at hL'
 injection hL' with hL'
 subst hL'
 have hyv : a.eval y = .int ki p := by have := g.slots.ev y; rw [hy] at this; exact repV_pl this
 obtain ⟨A2, c2, us, a2, src⟩ := src_at (E := E) (k := k) (p := 0 + i <= n) (m := i) (f := λ q => f (0 + q)) (v := a.eval x) (y := .own l 0 i) g.toGam (by rw [<- hx]; exact g.slots.ev x) (by simp only [srcAt, srcOf, hl, if_true]) (by omega)
 have hfirst := run_first (P := P) src (Nat.le_refl i)
 have hfirst' : (Builtin.firstCells k i (a.eval x)).run P E.w.drew = .ok (flatE us i).toArray E.w.drew := by
  have e1 : Ext E ({ E with w := E.w.drew } : Env) := ⟨λ _ h => h, λ _ _ => rfl, λ _ _ h => h⟩
  have src' : SrcAt ({ E with w := E.w.drew } : Env) (a.eval x) k i (λ q => f (0 + q)) A2 c2 us a2 := ⟨src.v, src.A, src.len, λ j hj => (src.rep j hj).mono e1.imm, src.cell⟩
  exact run_first (P := P) src' (Nat.le_refl i)
 rw [hxv, Nat.sub_zero] at hfirst'
 have hul : (flatE us i).length = i * k := flatE_length src.len
 have hnew : ∃ zs : List Value, zs.length = k /\ zv.cells.toList = zs /\ ∀ E' : Env, Rep E'.imm zs z := by
  unfold zeroOf at hz
  rw [hinf] at hz
  simp only [hzi] at hz
  split at hz
  ·rename_i us9 he9
   injection he9 with he9
   subst he9
   split at hz
   ·rename_i cs hcs
    split at hz
    ·rename_i hm9
     injection hz with hz
     subst hz
     exact ⟨us9.toList, by simpa [Value.cells] using hzs, by simp [Value.cells], λ E' => rep_matchCells hm9⟩
    ·cases hz
   ·cases hz
  ·cases hz
  ·rename_i v9 hna9 hnt9 he9
   injection he9 with he9
   subst he9
   split at hz
   ·rename_i hone
    injection hz with hz
    subst hz
    have hcells : zv.cells.toList = [zv] := by cases zv <;> simp [Value.oneCell', Value.cells] at hone ⊢
    refine ⟨[zv], ?_, hcells, λ E' => .pl _ hone⟩
    rw [<- hcells]
    simpa using hzs
   ·cases hz
  ·rename_i he9; cases he9
 obtain ⟨zs, hzl, hzc, hzrep⟩ := hnew
 have h63 : ((i + p : Nat) : Int) <= 9223372036854775807 := by unfold maxLen at hmx; omega
 have hnext : Builtin.nextslicecap (i + p) L.cap * inf.bytes <= 281474976710656 := by
  have hle : Builtin.nextslicecap (i + p) L.cap <= 4 * (i + p) := by
   unfold Builtin.nextslicecap
   split
   ·omega
   ·split
    ·omega
    ·have key : ∀ (r q : Nat), Builtin.growBy (i + p) r q <= max q (4 * (i + p)) ∨ True := λ _ _ => .inr trivial
     have hgrow : ∀ (r q : Nat), q <= 4 * (i + p) -> Builtin.growBy (i + p) r q <= 4 * (i + p) := by
      intro r
      induction r with
      | zero => intro q hq; exact hq
      | succ r ih =>
       intro q hq
       simp only [Builtin.growBy]
       split
       ·exact hq
       ·exact ih _ (by omega)
     exact hgrow 4 _ (by omega)
  rw [hbyi]
  calc Builtin.nextslicecap (i + p) L.cap * bytes <= 4 * (i + p) * bytes := Nat.mul_le_mul_right _ hle
   _ = 4 * ((i + p) * bytes) := Nat.mul_assoc _ _ _
   _ <= 281474976710656 := by omega
 have h48 : p * inf.bytes <= 281474976710656 := by
  rw [hbyi]
  have : p * bytes <= (i + p) * bytes := Nat.mul_le_mul_right _ (by omega)
  omega
 have hrun := Lib.run_append_grow_zeros (P := P) E.w t t' o.type e inf zv ki ki' hu hu' hinf hzi A i L.cap (flatE us i) (by rw [hisz]; exact hfirst') p hp0 (by rw [hisz]; exact hk0) (by omega) h63 h48 hnext
 let cap := grownCap E.w (i + p) L.cap e
 have hcap1 : i + p <= cap := grownCap_ge _ _ _ _
 have hcap2 : cap <= maxLen := grownCap_le_maxLen _ _ _ _ hmx
 have hzsize : zv.cells.size = k := hzs
 have hzcells : ∀ r, (Builtin.zeroCells zv.cells r).size = r * k := λ r => by simp [Builtin.zeroCells, hzsize]
 have hzget : ∀ (r q j : Nat), q < r -> j < k -> (Builtin.zeroCells zv.cells r)[q * k + j]? = zs[j]? := by
  intro r q j hq hj
  have hlt2 : q * k + j < r * k := by have := succ_mul_le (k := k) hq; omega
  have hmod : (q * k + j) % k = j := by rw [Nat.add_comm, Nat.add_mul_mod_self_right, Nat.mod_eq_of_lt hj]
  simp only [Builtin.zeroCells, hzsize, Array.getElem?_map, Array.getElem?_range, hlt2, if_true, Option.map_some]
  rw [hmod, <- hzc]
  have hj2 : j < zv.cells.size := by omega
  simp [hj2]
 let arr : Array Value := (flatE us i).toArray ++ Builtin.zeroCells zv.cells p ++ Builtin.zeroCells zv.cells (cap - (i + p))
 have harr : arr.size = cap * k := by
  simp only [arr, Array.size_append, List.size_toArray, hul, hzcells]
  rw [<- Nat.add_mul, <- Nat.add_mul]
  congr 1
  omega
 let Ed : Env := { E with w := E.w.drew }
 have gd : Gam E0 Ed s.heap := (gam_drewX g).toGam
 have e1 := ext_new gd (.cells arr e) k cap e
 have hdrew : Ext E Ed := ⟨λ _ h => h, λ _ _ => rfl, λ _ _ h => h⟩
 have hobj : ObjOk (Ed.new s.heap.length (.cells arr e) k cap e) s.heap.length (.row k e (i + p) (λ q => if q < i then f q else z)) := by
  refine ⟨⟨E.w.heap.size, k, cap, e⟩, by simp [Env.new, Ed], rfl, rfl, hcap1, hcap2, λ _ => ⟨arr, CellsAt.of (heap_alloc_new Ed.w _), harr, λ q hq => ?_⟩⟩
  by_cases hqi : q < i
  ·refine ⟨us q, src.len q hqi, ?_, λ j u hu => ?_⟩
   ·dsimp only
    rw [if_pos hqi]
    have := (src.rep q hqi).mono (hdrew.trans e1).imm
    simpa using this
   ·have hj : j < k := by rw [<- src.len q hqi]; exact (List.getElem?_eq_some_iff.1 hu).1
    have hlt2 : q * k + j < i * k := by have := succ_mul_le (k := k) hqi; omega
    simp only [arr]
    rw [Array.getElem?_append_left (by simp [hul, hzcells]; omega), Array.getElem?_append_left (by simp [hul]; omega), List.getElem?_toArray, flatE_get src.len hqi hj]
    exact hu
  ·refine ⟨zs, hzl, ?_, λ j u hu => ?_⟩
   ·dsimp only
    rw [if_neg hqi]
    exact hzrep _
   ·have hj : j < k := by rw [<- hzl]; exact (List.getElem?_eq_some_iff.1 hu).1
    have h3 : i * k <= q * k := mul_le_of (by omega)
    have h4 : q * k = i * k + (q - i) * k := by rw [<- Nat.add_mul]; congr 1; omega
    have h5 := succ_mul_le (k := k) (show q - i < p by omega)
    simp only [arr]
    rw [Array.getElem?_append_left (by simp [hul, hzcells]; omega), Array.getElem?_append_right (by simp [hul]; omega)]
    simp only [List.size_toArray, hul]
    rw [show q * k + j - i * k = (q - i) * k + j by omega, hzget p (q - i) j (by omega) hj]
    exact hu
 refine does_val (v := .slice (some ⟨E.w.heap.size, 0, none⟩) (i + p) cap) (E' := Ed.new s.heap.length (.cells arr e) k cap e) (exec_append ho h1 h2 ?_) hK ⟨gam_new gd (.cells arr e) k cap e hobj, (g.slots.mono hdrew).mono e1⟩ ?_ ?_
 ·rw [hxv, hyv, Nat.sub_zero]
  exact hrun
 ·have := Rep.own (E := Ed.new s.heap.length (.cells arr e) k cap e) (l := s.heap.length) (off := 0) (len := i + p) (L := ⟨E.w.heap.size, k, cap, e⟩) (A := some ⟨E.w.heap.size, 0, none⟩) (by simp [Env.new, Ed]) (by simpa using hcap1) (λ _ => by simp)
  simpa [RepV, RepV1] using this
 ·refine ⟨rfl, rfl, rfl, by simp [Env.new, Ed], λ b hb _ => Below.heap_alloc Ed.w _ b hb, λ q L' hL' hc' => ?_⟩
  simp only [Env.new] at hL'
  split at hL'
  ·injection hL' with hL'
   subst hL'
   exact .inl (Nat.le_refl _)
  ·exact .inr ⟨q, L', .inl rfl, hL', hc', rfl⟩
theorem does_copy {s : St} {a : Act} {o : Oper} (g : GamS E0 E s a) {x y : Operand} {t t' : TypeId} {args : Array Operand} {argTypes : Array TypeId} (ho : o.op = .call { callee := .builtin .copy, args := args, argTypes := argTypes }) (h1 : args.toList = [x, y]) (h2 : argTypes.toList = [t, t'])
  {l off len n m k : Nat} {e bt : TypeId} {f gf : Nat -> AV} {p : Prop} (hx : s.ev x = .own l off len) (hu : P.underlying t = some (.slice e)) (hl : s.heap[l]? = some (.row k bt n f)) (hz : szOf P e = some k) (hs : srcC s.heap k len (s.ev y) = some (p, m, gf)) (hp : p) (hoff : off <= n) {K : XK}
  (hK : K { s with heap := s.heap.set l (.row k bt (wrN n off (Nat.min m len)) (wrF f off (Nat.min m len) gf)) } (.pl (.int .i64 (Nat.min m len : Nat))) [l]) : DoesX P E0 E s a o K := by
 have hxv := g.slots.ev x
 rw [hx] at hxv
 obtain ⟨L, A, hL, hb, hA, hxv⟩ := own_loc g.toGam hxv hl
 obtain ⟨L', hL', ht, hk, hn, hmx, _⟩ := g.objs _ _ hl
 rw [hL] at hL'
 injection hL' with hL'
 subst hL'
 obtain ⟨A2, c2, us, a2, src⟩ := src_c g.toGam (g.slots.ev y) hs hp
 have hcl : Nat.min m len <= len := Nat.min_le_right _ _
 obtain ⟨E', hst, g', he, hkp⟩ := store_or (P := P) g hl hL (off := off) (cnt := Nat.min m len) (us := us) (x := gf) (λ i hi => src.len i (by omega)) (λ i hi => src.rep i (by omega)) hoff (by omega) (A := A) (λ h => by rw [hA (by omega), hk])
 refine does_val (v := .int .i64 (Nat.min m len : Nat)) (E' := E') (exec_copy ho h1 h2 ?_) hK g' (Rep.pl _ rfl) hkp
 have hfirst := run_firstC (P := P) src
 rw [src.v] at hfirst
 rw [hxv, src.v]
 simp only [Builtin.copy_, List.getElem?_toArray, List.getElem?_cons_zero, List.getElem?_cons_succ, Sem.run_bind, run_underlying hu, Result.andThen_ok, Builtin.lenOf, Sem.run_pure, run_sizeOf hz, hfirst]
 cases A with
 | none =>
  have hE : E.w = E'.w := by simpa using hst
  simp [hE, goInt]
 | some b =>
  simp only at hst ⊢
  simp [hst, goInt]
theorem zero_cells {e : TypeId} {inf : TypeInfo} {zv : Value} {z : AV} (hinf : P.info? e = some inf) (hzi : inf.zero = some zv) (hz : zeroOf P e = some z) (E' : Env) : Rep E'.imm zv.cells.toList z := by
 unfold zeroOf at hz
 rw [hinf] at hz
 simp only [hzi] at hz
 split at hz
 ·rename_i us9 he9
  injection he9 with he9
  subst he9
  split at hz
  ·rename_i cs hcs
   split at hz
   ·rename_i hm9
    injection hz with hz
    subst hz
    simpa [Value.cells] using rep_matchCells (E := E'.imm) hm9
   ·cases hz
  ·cases hz
 ·cases hz
 ·rename_i v9 hna9 hnt9 he9
  injection he9 with he9
  subst he9
  split at hz
  ·rename_i hone
   injection hz with hz
   subst hz
   have hcells : zv.cells.toList = [zv] := by cases zv <;> simp [Value.oneCell', Value.cells] at hone ⊢
   rw [hcells]
   exact .pl _ hone
  ·cases hz
 ·rename_i he9; cases he9
theorem flat_zero {zs : List Value} : ∀ n : Nat, flatE (λ _ => zs) n = (List.replicate n zs).flatten := by
 intro n
 induction n with
 | zero => rfl
 | succ n ih => rw [flatE, ih, List.replicate_succ', List.flatten_append]; simp
theorem zeroCells_flat (c : Array Value) (n : Nat) : (Builtin.zeroCells c n).toList = flatE (λ _ => c.toList) n := by
 by_cases h0 : c.size = 0
 ·have : c = #[] := Array.eq_empty_of_size_eq_zero h0
  subst this
  rw [flat_zero]
  simp [Builtin.zeroCells]
 ·apply List.ext_getElem?
  intro q
  have hlen : (flatE (λ _ => c.toList) n).length = n * c.size := flatE_length (λ i hi => by simp)
  by_cases hq : q < n * c.size
  ·have hk : 0 < c.size := by omega
   have hd : q / c.size < n := Nat.div_lt_of_lt_mul (by rwa [Nat.mul_comm] at hq)
   have hm : q % c.size < c.size := Nat.mod_lt _ hk
   have hq2 : q = q / c.size * c.size + q % c.size := by rw [Nat.mul_comm]; exact (Nat.div_add_mod q c.size).symm
   have := flatE_get (us := λ _ => c.toList) (k := c.size) (n := n) (λ i hi => by simp) hd hm
   rw [<- hq2] at this
   rw [this]
   simp [Builtin.zeroCells, hq, hm]
  ·rw [List.getElem?_eq_none (by simp [Builtin.zeroCells]; omega), List.getElem?_eq_none (by omega)]
theorem does_clear {s : St} {a : Act} {o : Oper} (g : GamS E0 E s a) {x : Operand} {t : TypeId} {args : Array Operand} {argTypes : Array TypeId} (ho : o.op = .call { callee := .builtin .clear, args := args, argTypes := argTypes }) (h1 : args.toList = [x]) (h2 : argTypes.toList = [t])
  {l off len n k bytes : Nat} {e bt : TypeId} {f : Nat -> AV} {z : AV} (hx : s.ev x = .own l off len) (hap : apInfo P t = some (e, k, bytes)) (hl : s.heap[l]? = some (.row k bt n f)) (hz : zeroOf P e = some z) (hoff : off + len <= n) {K : XK}
  (hK : K { s with heap := s.heap.set l (.row k bt (wrN n off len) (wrF f off len λ _ => z)) } (.tup []) [l]) : DoesX P E0 E s a o K := by
 obtain ⟨hu, inf, zv, hinf, hzi, hisz, hbyi, hzs, hk0⟩ := apInfo_spec hap
 have hxv := g.slots.ev x
 rw [hx] at hxv
 obtain ⟨L, A, hL, hb, hA, hxv⟩ := own_loc g.toGam hxv hl
 obtain ⟨L', hL', ht, hk, hn, hmx, _⟩ := g.objs _ _ hl
 rw [hL] at hL'
 injection hL' with hL'
 subst hL'
 obtain ⟨E', hst, g', he, hkp⟩ := store_or (P := P) g hl hL (off := off) (cnt := len) (us := λ _ => zv.cells.toList) (x := λ _ => z) (λ i hi => by simpa using hzs) (λ i hi => zero_cells hinf hzi hz E) (by omega) (by omega) (A := A) (λ h => by rw [hA (by omega), hk])
 refine does_val (v := .tuple #[]) (E' := E') (exec_clear ho h1 h2 ?_) hK g' ⟨[], rfl, rfl, λ i u y hu => by simp at hu⟩ hkp
 rw [hxv]
 simp only [Builtin.clear_, List.getElem?_toArray, List.getElem?_cons_zero, Sem.run_bind, run_underlying hu, Result.andThen_ok]
 cases A with
 | none =>
  have hE : E.w = E'.w := by simpa using hst
  simp [hE]
 | some b =>
  rcases Nat.eq_zero_or_pos len with h0 | h0
  ·subst h0
   have hE : E.w = E'.w := by simpa [flatE, storeCells] using hst
   simp [hE]
  ·obtain ⟨len', rfl⟩ : ∃ q, len = q + 1 := ⟨len - 1, by omega⟩
   simp only at hst
   have hzr : (zeroValue e).run P E.w = .ok zv E.w := by simp [zeroValue, typeInfo, hinf, hzi]
   simp only [Sem.run_bind, hzr, Result.andThen_ok, zeroCells_flat, hst, Sem.run_pure]
theorem does_ext {s : St} {a : Act} {o : Oper} (g : GamS E0 E s a) {x hi : Operand} {t e : TypeId} (ho : o.op = .slice t x none (some hi) none) {l len c : Nat} {h : Int} {ki : IntKind} (hx : s.ev x = .own l 0 len) (hh : s.ev hi = .pl (.int ki h)) (hu : P.underlying t = some (.slice e)) {z : Nat} (hz : szOf P e = some z) (hc : findCap l s.heap = some c)
  (h0 : 0 <= h) (h1 : h <= c) {K : XK} (hK : K s (.own l 0 h.toNat) []) : DoesX P E0 E s a o K := by
 have hxv := g.slots.ev x
 rw [hx] at hxv
 obtain ⟨L, A, hL, hb, hA, hxv⟩ := Rep.own_inv (show Rep E [_] (.own l 0 len) from hxv)
 obtain ⟨L0, hL0, hc0⟩ := findCap_spec g.toGam hc
 rw [hL] at hL0
 injection hL0 with hL0
 subst hL0
 obtain ⟨p, rfl⟩ := Int.eq_ofNat_of_zero_le h0
 have hhv : a.eval hi = .int ki p := by have := g.slots.ev hi; rw [hh] at this; exact repV_pl this
 refine does_val (v := .slice (if L.cap = 0 then A else A.map λ b => b.add (0 * z)) p L.cap) (E' := E) ?_ hK g ?_ (Keep.refl _ _)
 ·have hb2 : (Instr.sliceBounds true len L.cap none (some (.int ki p)) none).run P E.w = .ok (0, p, L.cap) E.w := by
   have := run_bounds (P := P) E.w true len L.cap (vlo := none) (vhi := some (.int ki p)) (l := 0) (h := p) (.inl ⟨rfl, rfl⟩) (.inr ⟨ki, rfl⟩) (by omega) (by omega) (by omega)
   simpa using this
  have hsl : (Instr.slice t (.slice A len L.cap) none (some (.int ki p)) none).run P E.w = .ok (.slice (if L.cap = 0 then A else A.map λ b => b.add (0 * z)) p L.cap) E.w := by
   simp only [Instr.slice, Sem.run_bind, run_underlying hu, Result.andThen_ok, hb2, run_sizeOf hz, Sem.run_pure]
   simp
  simp only [execOp, ho, Option.map_none, Option.map_some, hxv, hhv, Nat.sub_zero, Instr.sliceAt, Sem.run_bind, run_underlying hu, Result.andThen_ok, hsl, Sem.run_pure]
 ·have := Rep.own (E := E) (l := l) (off := 0) (len := p) hL (by omega) (A := if L.cap = 0 then A else A.map λ b => b.add (0 * z)) (λ h => by
   rw [if_neg (by omega), hA h]
   simp [addr_add])
  simpa [RepV, RepV1] using this
theorem does_full {s : St} {a : Act} {o : Oper} (g : GamS E0 E s a) {x lo hi mx : Operand} {t e : TypeId} (ho : o.op = .slice t x (some lo) (some hi) (some mx)) {l off len : Nat} {u v m : Int} {k1 k2 k3 : IntKind} (hx : s.ev x = .own l off len) (hlo : s.ev lo = .pl (.int k1 u)) (hhi : s.ev hi = .pl (.int k2 v)) (hmx : s.ev mx = .pl (.int k3 m))
  (hu : P.underlying t = some (.slice e)) {z : Nat} (hz : szOf P e = some z) (h0 : 0 <= u) (h1 : u <= v) (h2 : v <= m) (h3 : m <= len) {K : XK} (hK : K s .any []) : DoesX P E0 E s a o K := by
 have hxv := g.slots.ev x
 rw [hx] at hxv
 obtain ⟨L, A, hL, hb, hA, hxv⟩ := Rep.own_inv (show Rep E [_] (.own l off len) from hxv)
 have hlv : a.eval lo = .int k1 u := by have := g.slots.ev lo; rw [hlo] at this; exact repV_pl this
 have hhv : a.eval hi = .int k2 v := by have := g.slots.ev hi; rw [hhi] at this; exact repV_pl this
 have hmv : a.eval mx = .int k3 m := by have := g.slots.ev mx; rw [hmx] at this; exact repV_pl this
 obtain ⟨u, rfl⟩ := Int.eq_ofNat_of_zero_le h0
 obtain ⟨v, rfl⟩ := Int.eq_ofNat_of_zero_le (show 0 <= v by omega)
 obtain ⟨m, rfl⟩ := Int.eq_ofNat_of_zero_le (show 0 <= m by omega)
 have hb2 : (Instr.sliceBounds true len (L.cap - off) (some (.int k1 u)) (some (.int k2 v)) (some (.int k3 m))).run P E.w = .ok (u, v, m) E.w := by
  have a1 := run_sliceBound (P := P) E.w k3 m (L.cap - off) .slice3Acap (by omega) (by omega)
  have a2 := run_sliceBound (P := P) E.w k2 v m .slice3B (by omega) (by omega)
  have a3 := run_sliceBound (P := P) E.w k1 u v .slice3C (by omega) (by omega)
  simp [Instr.sliceBounds, a1, a2, a3]
 refine does_val (v := .slice (if m = u then A else A.map λ b => b.add (u * z)) (v - u) (m - u)) (E' := E) ?_ hK g trivial (Keep.refl _ _)
 have hsl : (Instr.slice t (.slice A len (L.cap - off)) (some (.int k1 u)) (some (.int k2 v)) (some (.int k3 m))).run P E.w = .ok (.slice (if m = u then A else A.map λ b => b.add (u * z)) (v - u) (m - u)) E.w := by
  simp only [Instr.slice, Sem.run_bind, run_underlying hu, Result.andThen_ok, hb2, run_sizeOf hz, Sem.run_pure]
 simp only [execOp, ho, Option.map_some, hxv, hlv, hhv, hmv, Instr.sliceAt, Sem.run_bind, run_underlying hu, Result.andThen_ok, hsl, Sem.run_pure]
theorem run_opY {s : St} {a : Act} {o : Oper} {F : XK -> Prop} (g : GamS E0 E s a) (h : opY P s o = some F) {K : XK} (hF : F K) : DoesX P E0 E s a o K := by
 unfold opY at h
 split at h
 ·rename_i args argTypes ho
  split at h
  ·rename_i x y t t' h1 h2
   split at h
   ·rename_i l i e k bytes hx hap
    split at h
    ·rename_i k2 e2 n f hl
     split at h
     ·rename_i hb
      have := Nat.eq_of_beq_eq_true hb
      subst this
      split at h
      ·rename_i l' off m hy
       split at h
       ·rename_i hb2
        have := Nat.eq_of_beq_eq_true hb2
        subst this
        injection h with h
        subst h
        obtain ⟨rfl, hi, hm, hK⟩ := hF
        exact does_appendIn g ho h1 h2 hx hy hap hl hi hm hK
       ·cases h
      ·cases h
     ·split at h
      ·rename_i ki' ki m c z hu' hy hc hz
       injection h with h
       subst h
       obtain ⟨rfl, rfl, hm0, hi, hlt, hmx, hby, hK⟩ := hF
       exact does_appendZeros g ho h1 h2 hx hy hap hu' hl hc hz hm0 hi hlt hmx hby hK
      ·cases h
    ·cases h
   ·cases h
  ·cases h
 ·rename_i args argTypes ho
  split at h
  ·rename_i x y t t' h1 h2
   split at h
   ·rename_i l off len e hx hu
    split at h
    ·rename_i k bt n f z hl hz
     split at h
     ·rename_i p m gf hs
      injection h with h
      subst h
      obtain ⟨rfl, hp, hoff, hK⟩ := hF
      exact does_copy g ho h1 h2 hx hu hl hz hs hp hoff hK
     ·cases h
    ·cases h
   ·cases h
  ·cases h
 ·rename_i args argTypes ho
  split at h
  ·rename_i x t h1 h2
   split at h
   ·rename_i l off len e k bytes hx hap
    split at h
    ·rename_i k2 bt n f zv hl hz
     injection h with h
     subst h
     obtain ⟨rfl, hoff, hK⟩ := hF
     exact does_clear g ho h1 h2 hx hap hl hz hoff hK
    ·cases h
   ·cases h
  ·cases h
 ·rename_i t x hi ho
  split at h
  ·rename_i l len ki hh e hx hhi hu
   split at h
   ·rename_i c hc
    split at h
    ·rename_i z hz
     injection h with h
     subst h
     obtain ⟨h0, h1, hK⟩ := hF
     exact does_ext g ho hx hhi hu hz hc h0 h1 hK
    ·cases h
   ·cases h
  ·cases h
 ·rename_i t x lo hi mx ho
  split at h
  ·rename_i l off len k1 u k2 v k3 m hx hlo hhi hmx
   split at h
   ·rename_i e hu
    split at h
    ·rename_i z hz
     injection h with h
     subst h
     obtain ⟨h0, h1, h2, h3, hK⟩ := hF
     exact does_full g ho hx hlo hhi hmx hu hz h0 h1 h2 h3 hK
    ·cases h
   ·cases h
  ·cases h
 ·cases h
end
end Go.Am

namespace Go.Am
open Go.RowKit
section
variable {P : Program}
theorem strCells_byteCells (s : ByteArray) : byteCells s = Lib.strCells s := rfl
end
theorem byteT_spec {P : Program} {e : TypeId} (h : byteT P e = true) : ∃ i, P.info? e = some i /\ i.zero = some (.int .u8 0) /\ i.bytes = 1 := by
 unfold byteT at h
 split at h
 ·rename_i i hi
  split at h
  ·rename_i hz
   exact ⟨i, hi, hz, Nat.eq_of_beq_eq_true h⟩
  ·cases h
 ·cases h
theorem flatE_str (s : ByteArray) (n : Nat) (hn : n <= s.size) : flatE (λ i => [Value.int .u8 (s.data.toList.getD i 0).toNat]) n = (Lib.strCells s).take n := by
 induction n with
 | zero => simp [flatE]
 | succ n ih =>
  have hlt : n < s.data.toList.length := by (have : s.size = s.data.toList.length := by simp); omega
  rw [List.take_succ_eq_append_getElem (by rw [Lib.strCells_length]; omega), flatE, ih (by omega)]
  congr 1
  simp [Lib.strCells, List.getD_eq_getElem?_getD, List.getElem?_eq_getElem hlt]
section
variable {P : Program} {E0 E : Env} {H : List LObj} [Inhabited GlT]
theorem run_aAppendS {s s' : St} {tmps : Array Value} (g : Gam E0 E s.heap) (hs : SlotsOk E tmps s.slots) {t t2 ty : TypeId} {x y z : AV} {vx vy : Value} {p : Prop} (hx : RepV E vx x) (hy : RepV E vy y) (h : aAppendS P s t t2 x y = some (p, s', z)) (hp : p) :
  ∃ v' E', (Builtin.append_ #[t, t2] ty #[vx, vy]).run P E.w = .ok v' E'.w /\ Gam E0 E' s'.heap /\ SlotsOk E' tmps s'.slots /\ RepV E' v' z /\ Keep (apTouch x) E E' := by
 unfold aAppendS at h
 split at h
 ·rename_i e k bytes b hap hu2
  obtain ⟨hu, i, zv, hi, hz, hisz, hby, hzs, hk0⟩ := apInfo_spec hap
  obtain rfl := repV_pl hy
  split at h
  ·rename_i hbt hk
   obtain rfl := Nat.eq_of_beq_eq_true hk
   obtain ⟨i', hi', hz', hb'⟩ := byteT_spec hbt
   rw [hi] at hi'
   injection hi' with hi'
   subst hi'
   obtain rfl : bytes = 1 := by omega
   refine run_appTo (ty := ty) g hs hx hk0 (λ _ => ?_) h hp
   refine ⟨λ j => [Value.int .u8 (b.data.toList.getD j 0).toNat], λ _ _ => rfl, λ _ _ => .pl _ rfl, λ v n xs row hv hm1 hm2 => ?_⟩
   rw [flatE_str b b.size (Nat.le_refl _), List.take_of_length_le (by rw [Lib.strCells_length]; omega)]
   exact append_M (P := P) E.w t t2 ty e i zv 1 1 hu hi hz hisz hb' hzs v n xs row hv _ b.size _ (strCells_byteCells b ▸ Src.ofString E.w hu2 b) hm1 hm2
  ·cases h
 ·cases h
end
end Go.Am

namespace Go.Am
open Go.RowKit
section kill
variable {E0 E : Env} {H : List LObj} [Inhabited GlT]
def Env.lose (E : Env) (l b : Nat) (ob : Obj) : Env := { (E.putO b ob) with loc := λ q => if q = l then none else E.loc q }
theorem ext_lose (g : Gam E0 E H) {l : Nat} {L : Loc} (hL : E.loc l = some L) (hc : 0 < L.cap) (ob : Obj) : ExtBut l E (E.lose l L.b ob) :=
 ⟨λ _ h => h, λ _ ha => World.cell?_of_block (w := E.w) (putO_other E ob (λ e => (g.own l L hL hc).2.2 (e ▸ ha))), λ q L1 hq hL1 => by
  simp only [Env.lose]; rw [if_neg hq]; exact hL1⟩
theorem gam_lose (g : Gam E0 E H) {l : Nat} {L : Loc} (hL : E.loc l = some L) (hc : 0 < L.cap) (ob : Obj) : Gam E0 (E.lose l L.b ob) ((H.map (killO l)).set l .dead) := by
 have e := ext_lose g hL hc ob
 have old : ∀ q L1, (E.lose l L.b ob).loc q = some L1 -> q ≠ l /\ E.loc q = some L1 := by
  intro q L1 h
  simp only [Env.lose] at h
  split at h
  ·cases h
  ·rename_i hq; exact ⟨hq, h⟩
 constructor
 ·intro q o' hq
  rw [List.getElem?_set] at hq
  split at hq
  ·split at hq
   ·injection hq with hq
    subst hq
    exact trivial
   ·cases hq
  ·rename_i hne
   rw [List.getElem?_map, Option.map_eq_some_iff] at hq
   obtain ⟨o1, ho1, rfl⟩ := hq
   exact (g.objs q o1 ho1).kill e (λ e => hne e.symm) (λ L1 hL1 hc1 => putO_other E ob (λ e => hne (g.inj l q L L1 hL hL1 hc hc1 e.symm)))
 ·intro q L1 h
  have := g.dom q L1 (old q L1 h).2
  simpa using this
 ·intro q L1 h hc1
  have := g.own q L1 (old q L1 h).2 hc1
  exact ⟨this.1, by simpa [Env.lose, Env.putO] using this.2.1, this.2.2⟩
 ·intro q q' L1 L2 h1 h2 hc1 hc2 hb
  exact g.inj q q' L1 L2 (old q L1 h1).2 (old q' L2 h2).2 hc1 hc2 hb
 ·intro b hb
  simpa [Env.lose, Env.putO] using g.lt b hb
 ·exact g.up
 ·exact g.down
 ·exact g.below.next rfl rfl rfl (by simp [Env.lose, Env.putO]) (λ k hk => putO_other E ob (λ e => (g.own l L hL hc).1 (e ▸ hk)))
 ·intro q hq
  simp only [Env.lose]
  split
  ·exact .inr rfl
  ·exact g.stay q hq
 ·have := g.hm
  simpa using this
theorem keep_lose (E : Env) {l : Nat} {L : Loc} (hL : E.loc l = some L) (hc : 0 < L.cap) (ob : Obj) : Keep [l] E (E.lose l L.b ob) :=
 ⟨rfl, rfl, rfl, by simp [Env.lose, Env.putO], λ b _ hne => putO_other E ob (hne l L List.mem_cons_self hL hc), λ q L' hL' hc' => by
  simp only [Env.lose] at hL'
  split at hL'
  ·cases hL'
  ·exact .inr ⟨q, L', .inl rfl, hL', hc', rfl⟩⟩
end kill
def byteF (bs : ByteArray) (i : Nat) : AV := .pl (.int .u8 (bs.data.toList.getD i 0).toNat)
def ptrsOf : List (Nat × AV) -> Nat -> Option (List AV)
 | [], _ => some []
 |(j, x) :: ps, i => match Nat.beq j i, x with
  | true, .ptr l a b c => match ptrsOf ps (i + 1) with
   | some xs => some (.ptr l a b c :: xs)
   | none => none
  | _, _ => none
def szPos (P : Program) (t : TypeId) : Bool := match szOf P t with
 | some (_ + 1) => true
 | _ => false
def szAny (P : Program) (t : TypeId) : Bool := match szOf P t with
 | some _ => true
 | none => false
def byteTy (P : Program) (e : TypeId) : Bool := match P.underlying e with
 | some (.int .u8) => true
 | _ => false
section
variable {P : Program} {E0 E : Env} {H : List LObj} [Inhabited GlT]
def opZ (P : Program) (s : St) (o : Oper) : Option (XK -> Prop) := match o.op with
 | .convert src dst x => match P.underlying src, P.underlying dst, s.ev x with
  | some (.pointer e), some .unsafePointer, .ptr l 0 0 0 => match s.heap[l]?, szPos P e with
   | some (.box _ (c :: cs)), true => some λ K => 0 < cw c /\ K s (.ptr l 0 0 0) []
   | _, _ => none
  | some .unsafePointer, some (.pointer u), .ptr l 0 0 0 => match s.heap[l]?, szAny P u with
   | some (.box t cs), true => some λ K => liesAt P P.depth t (cwL cs / P.cellsOf t) 0 u 1 = true /\ K s (.ptr l 0 0 0) []
   | _, _ => none
  | some .string, some (.slice e), .pl (.string b) => match byteTy P e with
   | true => some λ K => b.size <= maxLen /\ K { s with heap := s.heap ++ [.row 1 e b.size (byteF b)] } (.own s.heap.length 0 b.size) []
   | false => none
  | some (.slice e), some .string, y => match byteTy P e, srcAt s.heap 1 y with
   | true, some (p, n, f) => some λ K => p /\ ∃ bs : ByteArray, bs.size = n /\ (∀ i, i < n -> f i = byteF bs i) /\ K s (.pl (.string bs)) []
   | _, _ => none
  | _, _, _ => none
 | .buildSlice t len ps => match P.underlying t with
  | some (.slice e) => match szOf P e, zeroAV P e, ptrsOf (ps.toList.map λ p => (p.1, s.ev p.2)) 0, Nat.beq ps.size len && (Nat.ble 1 len && Nat.ble len 16777216) with
   | some 1, some _, some xs, true => some λ K => K { s with heap := s.heap ++ [.prow e xs] } (.own s.heap.length 0 len) []
   | _, _, _, _ => none
  | _ => none
 | .makeSlice t l c => match apInfo P t, s.ev l, s.ev c with
  | some (e, k, bytes), .pl (.int _ n), .pl (.int _ m) => match zeroOf P e with
   | some z => some λ K => 0 <= n /\ n <= m /\ (bytes : Int) * m <= 281474976710656 /\ m <= 9223372036854775807 /\ K { s with heap := s.heap ++ [.row k e n.toNat (λ _ => z)] } (.own s.heap.length 0 n.toNat) []
   | none => none
  | _, _, _ => none
 | .call { callee := .builtin .append, args, argTypes } => match args.toList, argTypes.toList with
  | [x, y], [t, t2] => match aAppendS P s t t2 (s.ev x) (s.ev y) with
   | some (p, s', z) => some λ K => p /\ K s' z (apTouch (s.ev x))
   | none => none
  | _, _ => none
 | .call { callee := .builtin .unsafeSliceData, args, argTypes } => match args.toList with
  | [x] => match s.ev x with
   | .own l 0 n => match s.heap[l]? with
    | some (.row _ _ _ _) => some λ K => 0 < n /\ K s (.ptr l 0 0 0) []
    | _ => none
   | _ => none
  | _ => none
 | .call { callee := .builtin .unsafeString, args, argTypes } => match args.toList, argTypes.toList with
  | [x, y], [t, _] => match s.ev x, s.ev y, P.underlying t with
   | .ptr l 0 0 0, .pl (.int .i64 n), some (.pointer e) => match s.heap[l]?, Nat.beq (P.cellsOf e) 1 with
    | some (.row 1 bt m f), true => some λ K => e = bt /\ 0 < n /\ n <= m /\ n <= 9223372036854775807 /\ ∃ bs : ByteArray, bs.size = n.toNat /\ (∀ i, i < n.toNat -> f i = byteF bs i) /\
      K { slots := killL l s.slots, heap := (s.heap.map (killO l)).set l .dead } (.pl (.string bs)) [l]
    | _, _ => none
   | _, _, _ => none
  | _, _ => none
 | _ => none
theorem szPos_spec {t : TypeId} (h : szPos P t = true) : ∃ j, P.info? t = some j /\ j.size ≠ 0 := by
 unfold szPos at h
 split at h
 ·rename_i z hz
  obtain ⟨i, hi, he⟩ := szOf_info hz
  exact ⟨i, hi, by omega⟩
 ·cases h
theorem szAny_spec {t : TypeId} (h : szAny P t = true) : ∃ j, P.info? t = some j := by
 unfold szAny at h
 split at h
 ·rename_i z hz
  obtain ⟨i, hi, _⟩ := szOf_info hz
  exact ⟨i, hi⟩
 ·cases h
theorem byteTy_spec {e : TypeId} (h : byteTy P e = true) : P.underlying e = some (.int .u8) := by
 unfold byteTy at h
 split at h
 ·assumption
 ·cases h
theorem exec_conv {a : Act} {o : Oper} {src dst : TypeId} {x : Operand} (ho : o.op = .convert src dst x) {v : Value} {w w' : World} (h : (convert src dst (a.eval x)).run P w = .ok v w') : (execOp a.eval o).run P w = .ok (.value v) w' := by
 simp only [execOp, ho, Sem.run_bind, h, Result.andThen_ok, Sem.run_pure]
theorem box_shape (g : Gam E0 E H) {l : Nat} {t : TypeId} {cs : List AV} (hl : H[l]? = some (.box t cs)) {v : Value} (hv : RepV E v (.ptr l 0 0 0)) : ∃ L : Loc, E.loc l = some L /\ v = .pointer (some ⟨L.b, 0, none⟩) /\ E.w.shape? L.b = some (t, cwL cs) := by
 obtain ⟨L, us, hL, ht, hc, hg, hr⟩ := g.objs _ _ hl
 have hv' : Rep E [v] (.ptr l 0 0 0) := hv
 obtain ⟨L', hL', hv⟩ := hv'.ptr_inv
 rw [hL] at hL'
 injection hL' with hL'
 subst hL'
 refine ⟨L, hL, by rw [hv]; simp, ?_⟩
 simp only [World.shape?, hg]
 have := hr.length
 simp only [aw] at this
 simp [this]
theorem does_toUnsafe {s : St} {a : Act} {o : Oper} (g : GamS E0 E s a) {src dst e : TypeId} {x : Operand} (ho : o.op = .convert src dst x) (h1 : P.underlying src = some (.pointer e)) (h2 : P.underlying dst = some .unsafePointer) {l : Nat} (hx : s.ev x = .ptr l 0 0 0)
  {t : TypeId} {c : AV} {cs : List AV} (hl : s.heap[l]? = some (.box t (c :: cs))) (hz : szPos P e = true) (hc : 0 < cw c) {K : XK} (hK : K s (.ptr l 0 0 0) []) : DoesX P E0 E s a o K := by
 have hv := g.slots.ev x
 rw [hx] at hv
 obtain ⟨L, hL, he, hsh⟩ := box_shape g.toGam hl hv
 obtain ⟨j, hj, hj0⟩ := szPos_spec hz
 refine does_val (exec_conv ho (v := a.eval x) ?_) hK g hv (Keep.refl _ _)
 rw [he]
 exact Lib.run_to_unsafe E.w ⟨L.b, 0, none⟩ h1 h2 hj hj0 hsh (by simp only [cwL]; omega)
theorem does_fromUnsafe {s : St} {a : Act} {o : Oper} (g : GamS E0 E s a) {src dst u : TypeId} {x : Operand} (ho : o.op = .convert src dst x) (h1 : P.underlying src = some .unsafePointer) (h2 : P.underlying dst = some (.pointer u)) {l : Nat} (hx : s.ev x = .ptr l 0 0 0)
  {t : TypeId} {cs : List AV} (hl : s.heap[l]? = some (.box t cs)) (hz : szAny P u = true) (hc : liesAt P P.depth t (cwL cs / P.cellsOf t) 0 u 1 = true) {K : XK} (hK : K s (.ptr l 0 0 0) []) : DoesX P E0 E s a o K := by
 have hv := g.slots.ev x
 rw [hx] at hv
 obtain ⟨L, hL, he, hsh⟩ := box_shape g.toGam hl hv
 obtain ⟨j, hj⟩ := szAny_spec hz
 refine does_val (exec_conv ho (v := a.eval x) ?_) hK g hv (Keep.refl _ _)
 rw [he]
 exact Lib.run_from_unsafe E.w ⟨L.b, 0, none⟩ h1 h2 hj hsh hc
theorem does_toBytes {s : St} {a : Act} {o : Oper} (g : GamS E0 E s a) {src dst e : TypeId} {x : Operand} (ho : o.op = .convert src dst x) (h1 : P.underlying src = some .string) (h2 : P.underlying dst = some (.slice e)) {b : ByteArray} (hx : s.ev x = .pl (.string b))
  (he : byteTy P e = true) (hb : b.size <= maxLen) {K : XK} (hK : K { s with heap := s.heap ++ [.row 1 e b.size (byteF b)] } (.own s.heap.length 0 b.size) []) : DoesX P E0 E s a o K := by
 have hv := repV_pl (hx ▸ g.slots.ev x)
 have hrun := Lib.run_convert_string_bytes (P := P) E.w src dst e b h1 h2 (byteTy_spec he)
 have hg : E.w.grownBy (Lib.bytesWorld E.w e b) none := ⟨rfl, rfl, rfl, by rw [Lib.bytesWorld_size]; omega, λ k hk _ => Lib.bytesWorld_at_old E.w e b k hk⟩
 have hsz : E.w.heap.size < (Lib.bytesWorld E.w e b).heap.size := by rw [Lib.bytesWorld_size]; omega
 have hge := grownCap_ge E.w b.size 0 e
 have hLb : 0 < (⟨E.w.heap.size, 1, grownCap E.w b.size 0 e, e⟩ : Loc).cap -> (⟨E.w.heap.size, 1, grownCap E.w b.size 0 e, e⟩ : Loc).b = E.w.heap.size /\ (⟨E.w.heap.size, 1, grownCap E.w b.size 0 e, e⟩ : Loc).b < (Lib.bytesWorld E.w e b).heap.size := λ _ => ⟨rfl, hsz⟩
 have hgl : (E.grow (Lib.bytesWorld E.w e b) s.heap.length ⟨E.w.heap.size, 1, grownCap E.w b.size 0 e, e⟩).loc s.heap.length = some ⟨E.w.heap.size, 1, grownCap E.w b.size 0 e, e⟩ := by simp [Env.grow]
 have hobj : ObjOk (E.grow (Lib.bytesWorld E.w e b) s.heap.length ⟨E.w.heap.size, 1, grownCap E.w b.size 0 e, e⟩) s.heap.length (.row 1 e b.size (byteF b)) := by
  refine ⟨_, hgl, rfl, rfl, hge, grownCap_le_maxLen _ _ _ _ hb, λ _ => ⟨_, ⟨_, Lib.bytesWorld_at_new E.w e b, .inr ⟨Nat.le_refl _, rfl⟩⟩, ?_, λ i hi => ⟨[Value.int .u8 (b.data.toList.getD i 0).toNat], rfl, .pl _ rfl, λ j u hu => ?_⟩⟩⟩
  ·simp [Lib.bytesCells]
   have : b.data.size = b.size := rfl
   omega
  ·have hj : j = 0 := by
    have := (List.getElem?_eq_some_iff.1 hu).1
    simpa using this
   subst hj
   simp at hu
   subst hu
   have := Lib.bytesWorld_cell E.w e b i hi
   simp only [World.cell?, Lib.bytesWorld_at_new] at this
   simpa using this
 obtain ⟨e1, g1⟩ := gam_push g.toGam hg _ hLb hobj
 refine does_val (E' := E.grow (Lib.bytesWorld E.w e b) s.heap.length ⟨E.w.heap.size, 1, grownCap E.w b.size 0 e, e⟩) (exec_conv ho (by rw [hv]; exact hrun)) hK ⟨g1, g.slots.mono e1⟩ ?_ (keep_grow hg _ _ hLb _)
 have := Rep.own (E := E.grow (Lib.bytesWorld E.w e b) s.heap.length ⟨E.w.heap.size, 1, grownCap E.w b.size 0 e, e⟩) (l := s.heap.length) (off := 0) (len := b.size) (A := some ⟨E.w.heap.size, 0, none⟩) hgl (by simpa using hge) (λ _ => by simp)
 simpa [RepV, RepV1] using this
theorem bytes_cells {E : Env} {us : Nat -> List Value} {f : Nat -> AV} {n : Nat} {bs : ByteArray} (hl : ∀ i, i < n -> (us i).length = 1) (hr : ∀ i, i < n -> Rep E (us i) (f i)) (hf : ∀ i, i < n -> f i = byteF bs i) : ∀ i, i < n -> us i = [Value.int .u8 (bs.data.toList.getD i 0).toNat] := by
 intro i hi
 have := hr i hi
 rw [hf i hi] at this
 exact this.pl_inv'
theorem list_bytes (bs : ByteArray) : bs = ⟨bs.data.toList.toArray⟩ := by simp
theorem does_toString {s : St} {a : Act} {o : Oper} (g : GamS E0 E s a) {src dst e : TypeId} {x : Operand} (ho : o.op = .convert src dst x) (h1 : P.underlying src = some (.slice e)) (h2 : P.underlying dst = some .string) (he : byteTy P e = true)
  {p : Prop} {n : Nat} {f : Nat -> AV} (hs : srcAt s.heap 1 (s.ev x) = some (p, n, f)) (hp : p) {bs : ByteArray} (hn : bs.size = n) (hf : ∀ i, i < n -> f i = byteF bs i) {K : XK} (hK : K s (.pl (.string bs)) []) : DoesX P E0 E s a o K := by
 obtain ⟨A, c, us, ad, hv, hA, hl, hr, hcell⟩ := src_spec g.toGam (g.slots.ev x) hs hp
 have hus := bytes_cells hl hr hf
 have hlen : bs.data.toList.length = n := by rw [<- hn]; simp
 refine does_val (E' := E) (exec_conv ho (v := .string bs) ?_) hK g (Rep.pl _ rfl) (Keep.refl _ _)
 rw [hv]
 rcases Nat.eq_zero_or_pos n with h0 | h0
 ·have : bs = ⟨#[]⟩ := by
   rw [list_bytes bs, List.eq_nil_of_length_eq_zero (by omega : bs.data.toList.length = 0)]
  subst this
  rw [h0]
  cases A with
  | none => simp [convert, run_underlying h1, run_underlying h2, run_underlying (byteTy_spec he), Conv.bytesToString]; rfl
  | some a0 =>
   have := run_convert_bytes_back (P := P) E.w src dst e a0 c [] h1 (byteTy_spec he) h2 (λ j hj => by simp at hj)
   simpa using this
 ·rw [hA h0]
  have := run_convert_bytes_back (P := P) E.w src dst e ad c bs.data.toList h1 (byteTy_spec he) h2 (λ j hj => by
   have hjn : j < n := by omega
   have := hcell j hjn 0 _ (by rw [hus j hjn]; rfl)
   rw [Nat.mul_one, Nat.add_zero] at this
   rw [this]
   simp [List.getD_eq_getElem?_getD, List.getElem?_eq_getElem hj])
  rw [hlen] at this
  rw [this]
theorem ptrsOf_spec : ∀ {ps : List (Nat × AV)} {i : Nat} {xs : List AV}, ptrsOf ps i = some xs -> ps.map (·.1) = List.range' i ps.length /\ xs = ps.map (·.2) /\ ∀ x ∈ xs, ∃ l a b c, x = .ptr l a b c := by
 intro ps
 induction ps with
 | nil => intro i xs h; simp [ptrsOf] at h; subst h; simp
 | cons p ps ih =>
  intro i xs h
  obtain ⟨j, x⟩ := p
  simp only [ptrsOf] at h
  split at h
  ·rename_i l a b c hj
   split at h
   ·rename_i ys hys
    injection h with h
    subst h
    obtain ⟨h1, h2, h3⟩ := ih hys
    have := Nat.eq_of_beq_eq_true hj
    subst this
    refine ⟨by simp [h1, List.range'_succ], by simp [h2], ?_⟩
    intro x hx
    rcases List.mem_cons.1 hx with rfl | hx
    ·exact ⟨_, _, _, _, rfl⟩
    ·exact h3 x hx
   ·cases h
  ·cases h
theorem rep_ptrs {E : Env} : ∀ {vs : List Value} {xs : List AV}, vs.length = xs.length -> (∀ x ∈ xs, ∃ l a b c, x = .ptr l a b c) -> (∀ (i : Nat) (v : Value) (x : AV), vs[i]? = some v -> xs[i]? = some x -> RepV E v x) -> Rep E vs (.agg xs) := by
 intro vs
 induction vs with
 | nil => intro xs hl _ _; obtain rfl := List.eq_nil_of_length_eq_zero hl.symm; exact .nil
 | cons v vs ih =>
  intro xs hl hx hr
  cases xs with
  | nil => simp at hl
  | cons x xs =>
   obtain ⟨l, a, b, c, rfl⟩ := hx x List.mem_cons_self
   have h1 : Rep E [v] (.ptr l a b c) := hr 0 v _ rfl rfl
   exact Rep.cons (us := [v]) rfl h1 (ih (by simpa using hl) (λ x h => hx x (List.mem_cons_of_mem _ h)) (λ i v x hv hx => hr (i + 1) v x (by simpa using hv) (by simpa using hx)))
theorem ptr_cells {E : Env} {v : Value} {l a b c : Nat} (h : RepV E v (.ptr l a b c)) : v.cells = #[v] := by
 have h' : Rep E [v] (.ptr l a b c) := h
 obtain ⟨L, _, rfl⟩ := h'.ptr_inv
 rfl
theorem does_ptrs {s : St} {a : Act} {o : Oper} (g : GamS E0 E s a) {t e : TypeId} {len : Nat} {ps : Array (Nat × Operand)} (ho : o.op = .buildSlice t len ps) (hu : P.underlying t = some (.slice e)) (hk : szOf P e = some 1) {zc : List AV} (hz : zeroAV P e = some zc)
  {xs : List AV} (hx : ptrsOf (ps.toList.map λ p => (p.1, s.ev p.2)) 0 = some xs) (hlen : ps.size = len) (h1 : 1 <= len) (h2 : len <= 16777216) {K : XK} (hK : K { s with heap := s.heap ++ [.prow e xs] } (.own s.heap.length 0 len) []) : DoesX P E0 E s a o K := by
 obtain ⟨hfst, hxs, hptr⟩ := ptrsOf_spec hx
 obtain ⟨zv, hzr, hzrep⟩ := run_zeroAV (E := E) hz E.w
 let vs : List (Nat × Value) := ps.toList.map λ p => (p.1, a.eval p.2)
 let us : List Value := ps.toList.map λ p => a.eval p.2
 have hxl : xs.length = len := by rw [hxs]; simp [hlen]
 have hul : us.length = len := by simp [us, hlen]
 have hrep : ∀ (i : Nat) (v : Value) (x : AV), us[i]? = some v -> xs[i]? = some x -> RepV E v x := by
  intro i v x hv hx
  rw [hxs] at hx
  simp only [us, List.getElem?_map, Option.map_eq_some_iff] at hv hx
  obtain ⟨q, hq, rfl⟩ := hv
  obtain ⟨q', ⟨q2, hq2, rfl⟩, rfl⟩ := hx
  rw [hq] at hq2
  injection hq2 with hq2
  subst hq2
  exact g.slots.ev _
 have hr : Rep E us (.agg xs) := rep_ptrs (by rw [hul, hxl]) hptr hrep
 have hvsl : vs.length = len := by simp [vs, hlen]
 have hcells : ∀ p ∈ vs, p.2.cells = #[p.2] := by
  intro p hp
  obtain ⟨i, hi⟩ := List.mem_iff_getElem?.1 hp
  have hlt : i < len := by rw [<- hvsl]; exact (List.getElem?_eq_some_iff.1 hi).1
  have hu1 : us[i]? = some p.2 := by
   simp only [vs, us, List.getElem?_map, Option.map_eq_some_iff] at hi ⊢
   obtain ⟨q, hq, rfl⟩ := hi
   exact ⟨q, hq, rfl⟩
  have hx1 : i < xs.length := by omega
  obtain ⟨l, a1, b1, c1, he⟩ := hptr xs[i] (List.getElem_mem hx1)
  have := hrep i p.2 _ hu1 (List.getElem?_eq_getElem hx1)
  rw [he] at this
  exact ptr_cells this
 have hfm : ∀ (l : List (Nat × Value)), (∀ p ∈ l, p.2.cells = #[p.2]) -> l.flatMap (λ p => p.2.cells.toList) = l.map (·.2) := by
  intro l
  induction l with
  | nil => intro _; rfl
  | cons p l ih => intro h; rw [List.flatMap_cons, h p List.mem_cons_self, ih (λ q hq => h q (List.mem_cons_of_mem _ hq))]; rfl
 have hvus : vs.map (·.2) = us := by simp [vs, us]
 have hfst' : vs.map (·.1) = List.range' 0 vs.length := by
  have : vs.map (·.1) = (ps.toList.map λ p => (p.1, s.ev p.2)).map (·.1) := by simp [vs]
  rw [this, hfst]
  simp [vs]
 have hzl : zv.cells.size = cwL zc := by have := hzrep.length; simpa [aw] using this
 have hfill := fill_seq (k := 1) vs 0 ((Array.range (len * 1)).map (zv.cells[· % zv.cells.size]!)).toList hfst' (λ p hp => by rw [hcells p hp]; rfl) (by simp [hvsl])
 simp only [Array.toArray_toList, Nat.zero_mul, List.take_zero, List.nil_append] at hfill
 rw [hfm vs hcells, hvus] at hfill
 refine does_val (E' := E.new s.heap.length (.cells us.toArray e) 1 len e) (v := .slice (some ⟨E.w.heap.size, 0, none⟩) len len) ?_ hK ⟨gam_new g.toGam _ _ _ _ ?_, g.slots.mono (ext_new g.toGam _ _ _ _)⟩ ?_ (keep_new E _ _ _ _ _)
 ·have hne : ¬ len * 1 > 2 ^ 24 := by omega
  have hne0 : ¬ len * 1 = 0 := by omega
  have hps : (ps.map λ (i, x) => (i, a.eval x)) = vs.toArray := by apply Array.ext'; simp [vs]
  have : (Instr.buildSlice t len vs.toArray).run P E.w = .ok (.slice (some ⟨E.w.heap.size, 0, none⟩) len len) (E.w.alloc (.cells us.toArray e)) := by
   simp only [Instr.buildSlice, Sem.run_bind, run_underlying hu, Result.andThen_ok, run_sizeOf hk, hne, if_false, hne0, hzr, Sem.run_pure, hfill, newRow, run_newObj]
   rfl
  simp only [execOp, ho, Sem.run_bind, hps, this, Result.andThen_ok, Sem.run_pure]
  rfl
 ·exact ⟨⟨E.w.heap.size, 1, len, e⟩, us, by simp [Env.new], rfl, rfl, hul.symm, by rw [hul, hxl], by omega, heap_alloc_new E.w _, hr.mono (ext_new g.toGam _ _ _ _)⟩
 ·have := Rep.own (E := E.new s.heap.length (.cells us.toArray e) 1 len e) (l := s.heap.length) (off := 0) (len := len) (L := ⟨E.w.heap.size, 1, len, e⟩) (A := some ⟨E.w.heap.size, 0, none⟩) (by simp [Env.new]) (by simp) (λ _ => by simp)
  simpa [RepV, RepV1] using this
theorem does_make {s : St} {a : Act} {o : Oper} (g : GamS E0 E s a) {t e : TypeId} {l c : Operand} (ho : o.op = .makeSlice t l c) {k bytes : Nat} (hap : apInfo P t = some (e, k, bytes)) {n m : Int} {k1 k2 : IntKind} (hl : s.ev l = .pl (.int k1 n)) (hc : s.ev c = .pl (.int k2 m))
  {z : AV} (hz : zeroOf P e = some z) (h0 : 0 <= n) (h1 : n <= m) (h2 : (bytes : Int) * m <= 281474976710656) (h3 : m <= 9223372036854775807) {K : XK} (hK : K { s with heap := s.heap ++ [.row k e n.toNat (λ _ => z)] } (.own s.heap.length 0 n.toNat) []) : DoesX P E0 E s a o K := by
 obtain ⟨hu, i, zv, hi, hzi, hisz, hby, hzs, hk0⟩ := apInfo_spec hap
 have e1 := repV_int (hl ▸ g.slots.ev l)
 have e2 := repV_int (hc ▸ g.slots.ev c)
 have hrun := run_make (P := P) E.w t e i zv hu hi hzi k1 k2 n m h0 h1 (by rw [hby]; exact h2) h3
 rw [hisz] at hrun
 have hcap : m.toNat <= maxLen := by unfold maxLen; omega
 refine does_val (E' := E.new s.heap.length (.cells (madeCells zv.cells (m.toNat * k)) e) k m.toNat e) (v := .slice (some ⟨E.w.heap.size, 0, none⟩) n.toNat m.toNat) ?_ hK ⟨gam_new g.toGam _ _ _ _ ?_, g.slots.mono (ext_new g.toGam _ _ _ _)⟩ ?_ (keep_new E _ _ _ _ _)
 ·simp only [execOp, ho, Sem.run_bind, e1, e2, hrun, Result.andThen_ok, Sem.run_pure]
  rfl
 ·refine ⟨⟨E.w.heap.size, k, m.toNat, e⟩, by simp [Env.new], rfl, rfl, by simp; omega, hcap, λ _ => ⟨_, CellsAt.of (heap_alloc_new E.w _), size_madeCells _ _, λ q hq => ⟨zv.cells.toList, by simpa using hzs, zero_cells hi hzi hz _, λ j u hu => ?_⟩⟩⟩
  have hj : j < k := by
   have := (List.getElem?_eq_some_iff.1 hu).1
   simp at this
   omega
  have hlt : q * k + j < m.toNat * k := by
   have : q + 1 <= m.toNat := by omega
   calc q * k + j < q * k + k := by omega
    _ = (q + 1) * k := by rw [Nat.add_mul]; omega
    _ <= m.toNat * k := Nat.mul_le_mul_right k this
  have hmod : (q * k + j) % zv.cells.size = j := by rw [hzs, Nat.mul_comm, Nat.mul_add_mod]; exact Nat.mod_eq_of_lt hj
  have hlt2 : j < zv.cells.size := by omega
  simp only [madeCells, Array.getElem?_map, Array.getElem?_range, hlt, Option.map_some, if_true, hmod]
  rw [getElem!_pos zv.cells j hlt2]
  rw [Array.getElem?_toList, Array.getElem?_eq_getElem hlt2] at hu
  exact hu
 ·have := Rep.own (E := E.new s.heap.length (.cells (madeCells zv.cells (m.toNat * k)) e) k m.toNat e) (l := s.heap.length) (off := 0) (len := n.toNat) (L := ⟨E.w.heap.size, k, m.toNat, e⟩) (A := some ⟨E.w.heap.size, 0, none⟩) (by simp [Env.new]) (by simp; omega) (λ _ => by simp)
  simpa [RepV, RepV1] using this
theorem exec_b1 {a : Act} {o : Oper} {x : Operand} {args : Array Operand} {argTypes : Array TypeId} {w w' : World} {v : Value} (ho : o.op = .call { callee := .builtin .unsafeSliceData, args := args, argTypes := argTypes }) (h1 : args.toList = [x])
  (h : (Builtin.unsafeSliceData_ argTypes o.type #[a.eval x]).run P w = .ok v w') : (execOp a.eval o).run P w = .ok (.value v) w' := by
 have e1 : args = #[x] := by rw [<- h1]
 subst e1
 simp only [execOp, ho, resolve, invoke, builtin, Sem.run_bind, Sem.run_pure, Result.andThen_ok, List.map_toArray, List.map_cons, List.map_nil, h]
theorem exec_b2 {a : Act} {o : Oper} {x y : Operand} {t t' : TypeId} {args : Array Operand} {argTypes : Array TypeId} {w w' : World} {v : Value} (ho : o.op = .call { callee := .builtin .unsafeString, args := args, argTypes := argTypes }) (h1 : args.toList = [x, y]) (h2 : argTypes.toList = [t, t'])
  (h : (Builtin.unsafeString_ #[t, t'] o.type #[a.eval x, a.eval y]).run P w = .ok v w') : (execOp a.eval o).run P w = .ok (.value v) w' := by
 have e1 : args = #[x, y] := by rw [<- h1]
 have e2 : argTypes = #[t, t'] := by rw [<- h2]
 subst e1 e2
 simp only [execOp, ho, resolve, invoke, builtin, Sem.run_bind, Sem.run_pure, Result.andThen_ok, List.map_toArray, List.map_cons, List.map_nil, h]
theorem does_sliceData {s : St} {a : Act} {o : Oper} (g : GamS E0 E s a) {x : Operand} {args : Array Operand} {argTypes : Array TypeId} (ho : o.op = .call { callee := .builtin .unsafeSliceData, args := args, argTypes := argTypes }) (h1 : args.toList = [x])
  {l n : Nat} (hx : s.ev x = .own l 0 n) (h0 : 0 < n) {K : XK} (hK : K s (.ptr l 0 0 0) []) : DoesX P E0 E s a o K := by
 have hv := g.slots.ev x
 rw [hx] at hv
 obtain ⟨L, A, hL, hb, ha, hv⟩ := Rep.own_inv (show Rep E [a.eval x] (.own l 0 n) from hv)
 have hcap : 0 < L.cap := by omega
 refine does_val (E' := E) (v := .pointer (some ⟨L.b, 0, none⟩)) (exec_b1 ho h1 ?_) hK g ?_ (Keep.refl _ _)
 ·rw [hv, ha hcap]
  have := Lib.run_unsafeSliceData_row (P := P) E.w argTypes o.type ⟨L.b, 0 * L.k, none⟩ n (L.cap - 0) (by omega)
  simpa using this
 ·have := Rep.ptr (E := E) (i := 0) (j := 0) (d := 0) hL
  simpa [RepV, RepV1] using this
def frzT (fr : Nat × Nat) (n : Nat) : Nat × Nat := if fr.1 == fr.2 then (0, 0 + n) else (min fr.1 0, max fr.2 (0 + n))
theorem freeze_row (w : World) (b n : Nat) {arr : Array Value} {t : TypeId} {fr : Nat × Nat} (h : w.heap[b]? = some (.cells arr t fr)) (hn : n ≠ 0) : w.freeze ⟨b, 0, none⟩ n = { w with heap := w.heap.setIfInBounds b (.cells arr t (frzT fr n)) } := by
 simp only [World.freeze, if_neg hn]
 congr 1
 apply Array.ext_getElem?
 intro i
 rw [Array.getElem?_modify, Array.getElem?_setIfInBounds]
 obtain ⟨hlt, hb⟩ := Array.getElem?_eq_some_iff.1 h
 by_cases hi : b = i
 ·subst hi
  simp [hlt, hb, frzT]
 ·simp [hi]
theorem does_unsafeString {s : St} {a : Act} {o : Oper} (g : GamS E0 E s a) {x y : Operand} {t t' : TypeId} {args : Array Operand} {argTypes : Array TypeId} (ho : o.op = .call { callee := .builtin .unsafeString, args := args, argTypes := argTypes }) (h1 : args.toList = [x, y]) (h2 : argTypes.toList = [t, t'])
  {l m : Nat} {n : Int} {e : TypeId} {f : Nat -> AV} (hx : s.ev x = .ptr l 0 0 0) (hy : s.ev y = .pl (.int .i64 n)) (hu : P.underlying t = some (.pointer e)) (hc : P.cellsOf e = 1) (hl : s.heap[l]? = some (.row 1 e m f)) (h0 : 0 < n) (hm : n <= m) (h63 : n <= 9223372036854775807)
  {bs : ByteArray} (hb : bs.size = n.toNat) (hf : ∀ i, i < n.toNat -> f i = byteF bs i) {K : XK} (hK : K { slots := killL l s.slots, heap := (s.heap.map (killO l)).set l .dead } (.pl (.string bs)) [l]) : DoesX P E0 E s a o K := by
 have hvx := g.slots.ev x
 rw [hx] at hvx
 have e2 := repV_int (hy ▸ g.slots.ev y)
 obtain ⟨L, hL, hLt, hLk, hLn, hLm, hrow⟩ := g.objs _ _ hl
 have hcap : 0 < L.cap := by omega
 obtain ⟨arr, hg, hsz, hel⟩ := hrow hcap
 have hvx' : Rep E [a.eval x] (.ptr l 0 0 0) := hvx
 obtain ⟨L', hL', hv⟩ := hvx'.ptr_inv
 rw [hL] at hL'
 injection hL' with hL'
 subst hL'
 have hlen : bs.data.toList.length = n.toNat := by rw [<- hb]; simp
 obtain ⟨fr, hg0, hfr⟩ := id hg
 have hn : ((bs.data.toList.length : Nat) : Int) = n := by rw [hlen]; exact Int.toNat_of_nonneg (Int.le_of_lt h0)
 have hne : bs.data.toList.length ≠ 0 := by omega
 have hrun := Lib.run_unsafeString_row (P := P) E.w t t' o.type e hu hc L.b arr.size (by simp [World.shape?, hg0]) bs.data.toList (by intro h; rw [h] at hne; exact hne rfl) (by omega) (by omega) (λ j xx hj => by
  have hjn : j < n.toNat := by rw [<- hlen]; exact (List.getElem?_eq_some_iff.1 hj).1
  obtain ⟨us, h1, h2, h3⟩ := hel j (by omega)
  have hus := bytes_cells (us := λ _ => us) (f := λ _ => f j) (n := 1) (bs := ⟨#[xx]⟩) (λ _ _ => h1) (λ _ _ => h2) (λ i hi => by
   obtain rfl : i = 0 := by omega
   rw [hf j hjn]
   simp [byteF, List.getD_eq_getElem?_getD, hj]) 0 (by omega)
  have := h3 0 _ (by rw [hus]; rfl)
  rw [addr_add, hg.cell, Nat.zero_add]
  simpa using this)
 rw [freeze_row E.w L.b _ hg0 hne, hn] at hrun
 refine does_val (E' := E.lose l L.b (.cells arr e (frzT fr bs.data.toList.length))) (v := .string bs) (exec_b2 ho h1 h2 ?_) hK ⟨gam_lose g.toGam hL hcap _, g.slots.kill (ext_lose g.toGam hL hcap _)⟩ (Rep.pl _ rfl) (keep_lose E hL hcap _)
 rw [hv, e2]
 simp only [Nat.zero_mul, Nat.add_zero]
 exact hrun
theorem run_opZ {s : St} {a : Act} {o : Oper} {F : XK -> Prop} (g : GamS E0 E s a) (h : opZ P s o = some F) {K : XK} (hF : F K) : DoesX P E0 E s a o K := by
 unfold opZ at h
 split at h
 ·rename_i src dst x ho
  split at h
  ·rename_i e l h1 h2 hx
   split at h
   ·rename_i t c cs hl hz
    injection h with h
    subst h
    exact does_toUnsafe g ho h1 h2 hx hl hz hF.1 hF.2
   ·cases h
  ·rename_i u l h1 h2 hx
   split at h
   ·rename_i t cs hl hz
    injection h with h
    subst h
    exact does_fromUnsafe g ho h1 h2 hx hl hz hF.1 hF.2
   ·cases h
  ·rename_i e b h1 h2 hx
   split at h
   ·rename_i he
    injection h with h
    subst h
    exact does_toBytes g ho h1 h2 hx he hF.1 hF.2
   ·cases h
  ·rename_i e h1 h2
   split at h
   ·rename_i p n f he hs
    injection h with h
    subst h
    obtain ⟨hp, bs, hn, hf, hK⟩ := hF
    exact does_toString g ho h1 h2 he hs hp hn hf hK
   ·cases h
  ·cases h
 ·rename_i t len ps ho
  split at h
  ·rename_i e hu
   split at h
   ·rename_i zc xs hk hz hx hc
    injection h with h
    subst h
    simp only [Bool.and_eq_true, Nat.beq_eq, Nat.ble_eq] at hc
    exact does_ptrs g ho hu hk hz hx hc.1 hc.2.1 hc.2.2 hF
   ·cases h
  ·cases h
 ·rename_i t l c ho
  split at h
  ·rename_i e k bytes k1 n k2 m hap hl hc
   split at h
   ·rename_i z hz
    injection h with h
    subst h
    exact does_make g ho hap hl hc hz hF.1 hF.2.1 hF.2.2.1 hF.2.2.2.1 hF.2.2.2.2
   ·cases h
  ·cases h
 ·rename_i args argTypes ho
  split at h
  ·rename_i x y t t2 h1 h2
   split at h
   ·rename_i p s' z ha
    injection h with h
    subst h
    obtain ⟨v', E', hrun, g', hs', hv', hk⟩ := run_aAppendS (ty := o.type) g.toGam g.slots (g.slots.ev x) (g.slots.ev y) ha hF.1
    exact does_val (exec_append ho h1 h2 hrun) hF.2 ⟨g', hs'⟩ hv' hk
   ·cases h
  ·cases h
 ·rename_i args argTypes ho
  split at h
  ·rename_i x h1
   split at h
   ·rename_i l n hx
    split at h
    ·injection h with h
     subst h
     exact does_sliceData g ho h1 hx hF.1 hF.2
    ·cases h
   ·cases h
  ·cases h
 ·rename_i args argTypes ho
  split at h
  ·rename_i x y t t' h1 h2
   split at h
   ·rename_i l n e hx hy hu
    split at h
    ·rename_i bt m f hl hc
     injection h with h
     subst h
     obtain ⟨rfl, h0, hm, h63, bs, hb, hf, hK⟩ := hF
     exact does_unsafeString g ho h1 h2 hx hy hu (Nat.eq_of_beq_eq_true hc) hl h0 hm h63 hb hf hK
    ·cases h
   ·cases h
  ·cases h
 ·cases h
end
end Go.Am

namespace Go.Am
open Go.RowKit
section
variable {P : Program} {E0 E : Env} {H : List LObj} [Inhabited GlT]
def plsOf : List AV -> Option (List Value)
 | [] => some []
 | .pl v :: cs => match plsOf cs with
  | some vs => some (v :: vs)
  | none => none
 | _ :: _ => none
def allIx (m : Int) (K : AV -> Prop) : List Value -> Nat -> Prop
 | [], _ => True
 | v :: vs, j => (m = (j : Int) -> K (.pl v)) /\ allIx m K vs (j + 1)
theorem allIx_at {m : Int} {K : AV -> Prop} : ∀ {vs : List Value} {j : Nat}, allIx m K vs j -> ∀ i v, vs[i]? = some v -> m = ((j + i : Nat) : Int) -> K (.pl v) := by
 intro vs
 induction vs with
 | nil => intro j _ i v hv; simp at hv
 | cons u vs ih =>
  intro j h i v hv hm
  cases i with
  | zero => simp at hv; subst hv; exact h.1 (by simpa using hm)
  | succ i => exact ih h.2 i v (by simpa using hv) (by rw [hm]; congr 1; omega)
theorem plsOf_rep : ∀ {cs : List AV} {vs us : List Value}, plsOf cs = some vs -> Rep E us (.agg cs) -> us = vs := by
 intro cs
 induction cs with
 | nil =>
  intro vs us h hr
  simp only [plsOf, Option.some.injEq] at h
  rw [<- h]
  exact hr.nil_inv
 | cons c cs ih =>
  intro vs us h hr
  cases c <;> simp only [plsOf] at h <;> try cases h
  rename_i v
  split at h
  ·rename_i ws hw
   injection h with h
   subst h
   obtain ⟨h1, h2, h3⟩ := hr.cons_inv
   have e1 := h2.pl_inv'
   have e2 := ih hw h3
   rw [<- List.take_append_drop (cw (.pl v)) us, e1, e2]
   rfl
  ·cases h
def opW (P : Program) (s : St) (o : Oper) : Option (XK -> Prop) := match o.op with
 | .unOp .neg _ x => match s.ev x with
  | .pl (.int k n) => some λ K => K s (.pl (.int k (k.wrap (0 - n)))) []
  | _ => none
 | .index t x i => match P.underlying t, s.ev x, s.ev i with
  | some (.array n e), .agg cs, .pl (.int _ m) => match aggB P e, szOf P e, plsOf cs with
   | some false, some 1, some vs => some λ K => vs.length = n /\ 0 <= m /\ m < n /\ allIx m (λ c => K s c []) vs 0
   | _, _, _ => none
  | _, _, _ => none
 | _ => none
def opQ (P : Program) (s : St) (o : Oper) : Option (XK -> Prop) := match opZ P s o with
 | some F => some F
 | none => opW P s o
theorem run_opW {s : St} {a : Act} {o : Oper} {F : XK -> Prop} (g : GamS E0 E s a) (h : opW P s o = some F) {K : XK} (hF : F K) : DoesX P E0 E s a o K := by
 unfold opW at h
 split at h
 ·rename_i t x ho
  split at h
  ·rename_i k n hx
   injection h with h
   subst h
   have e1 := repV_int (hx ▸ g.slots.ev x)
   refine does_val (E' := E) (v := .int k (k.wrap (0 - n))) ?_ hF g (Rep.pl _ rfl) (Keep.refl _ _)
   simp only [execOp, ho, Sem.run_bind, e1, Op.unary, Op.intArith, Sem.run_pure, Result.andThen_ok]
  ·cases h
 ·rename_i t x i ho
  split at h
  ·rename_i n e cs kk m hu hx hi
   split at h
   ·rename_i vs ha hz hp
    injection h with h
    subst h
    obtain ⟨h1, h2, h3, h4⟩ := hF
    have hv := g.slots.ev x
    rw [hx] at hv
    obtain ⟨us, e1, hr⟩ := hv
    obtain rfl := plsOf_rep hp hr
    have e2 := repV_int (hi ▸ g.slots.ev i)
    obtain ⟨m', rfl⟩ := Int.eq_ofNat_of_zero_le h2
    have hlt : m' < us.length := by omega
    have hat : us[m']? = some us[m'] := List.getElem?_eq_getElem hlt
    have hone := hr.one us[m'] (List.getElem_mem hlt)
    refine does_val (E' := E) (v := us[m']) ?_ (allIx_at h4 m' _ hat (by simp)) g (Rep.pl _ hone) (Keep.refl _ _)
    have hltn : m' < n := by omega
    simp only [execOp, ho, Sem.run_bind]
    simp [Instr.index, e1, e2, asIntOf, run_underlying hu, hltn, run_sizeOf hz, run_part_cell ha us m' _ hat]
   ·cases h
  ·cases h
 ·cases h
theorem run_opQ {s : St} {a : Act} {o : Oper} {F : XK -> Prop} (g : GamS E0 E s a) (h : opQ P s o = some F) {K : XK} (hF : F K) : DoesX P E0 E s a o K := by
 unfold opQ at h
 split at h
 ·rename_i F' hF'
  injection h with h
  subst h
  exact run_opZ g hF' hF
 ·exact run_opW g h hF
end
end Go.Am

namespace Go.Am
open Go.RowKit
variable [Inhabited GlT]
section
variable {P : Program} {E0 E : Env} {H : List LObj}
theorem gam_back_lent (g : Gam E0 E H) {E' : Env} {H' : List LObj} (g' : Gam (E.lent []) E' H') (hfl : ∀ o ∈ H', flatO o) : Ext E (E.back E' H.length True) /\ Gam E0 (E.back E' H.length True) (H ++ H') := by
 have hF : ∀ b, (E.back E' H.length True).F b ↔ E'.F b /\ ¬ E.owns b := λ b => by simp [Env.back]
 have hno : ∀ b, E.F b -> ¬ E.owns b := λ b hb ⟨l, L, hL, hc, he⟩ => (g.own l L hL hc).2.2 (he ▸ hb)
 have e1 : Ext E (E.back E' H.length True) := ⟨λ b hb => (hF b).2 ⟨g'.up b (.inl hb), hno b hb⟩, λ a ha => (g'.belowN (λ _ => rfl)).cell (p := a) (g.lt _ ha), λ l L hL => by
  have := g.dom l L hL
  simp only [Env.back]
  rw [if_pos this]
  exact hL⟩
 refine ⟨e1, ?_⟩
 constructor
 ·intro l o hl
  rw [List.getElem?_append] at hl
  split at hl
  ·exact (g.objs l o hl).mono e1 (λ L hL hc => (g'.belowN (λ _ => rfl)).block L.b (g.own l L hL hc).2.1)
  ·rename_i hge
   have hflo := hfl o (List.mem_of_getElem? hl)
   have hobj := g'.objs _ o hl
   have hloc : ∀ L, E'.loc (l - H.length) = some L -> (E.back E' H.length True).loc l = some L := λ L hL => by
    simp only [Env.back]
    rw [if_neg (by omega)]
    exact hL
   cases o with
   | dead => trivial
   | box t cs =>
    obtain ⟨L, us, hL, ht, hc, hg, hr⟩ := hobj
    exact ⟨L, us, hloc L hL, ht, hc, hg, rep_flat hr (by have h9 : flatL cs = true := hflo; simpa [flatB] using h9) _⟩
   | row k t n f =>
    obtain ⟨L, hL, ht, hk, hn, hm, hrow⟩ := hobj
    refine ⟨L, hloc L hL, ht, hk, hn, hm, λ hpos => ?_⟩
    obtain ⟨arr, hg, hsz, hel⟩ := hrow hpos
    refine ⟨arr, hg, hsz, λ i hi => ?_⟩
    obtain ⟨us, h1, h2, h3⟩ := hel i hi
    exact ⟨us, h1, rep_flat h2 (hflo i hi) _, h3⟩
   | _ => exact hflo.elim
 ·intro l L hL
  simp only [Env.back] at hL
  split at hL
  ·simp; omega
  ·have := g'.dom _ L hL
   simp; omega
 ·intro l L hL hc
  simp only [Env.back] at hL
  split at hL
  ·have h1 := g.own l L hL hc
   exact ⟨h1.1, Nat.lt_of_lt_of_le h1.2.1 (g'.belowN (λ _ => rfl)).size, λ hh => ((hF _).1 hh).2 ⟨l, L, hL, hc, rfl⟩⟩
  ·have h1 := g'.ownN (λ _ => rfl) _ L hL hc
   have := g.below.size
   exact ⟨λ ho => by have := Env.old_lt g.below ho; have := h1.1; simp [Env.lent] at this; omega, h1.2.1, λ hh => h1.2.2 ((hF _).1 hh).1⟩
 ·intro l l' L L' hL hL' hc hc' hb
  simp only [Env.back] at hL hL'
  split at hL <;> split at hL'
  ·exact g.inj l l' L L' hL hL' hc hc' hb
  ·have h1 := (g.own l L hL hc).2.1
   have h2 := (g'.ownN (λ _ => rfl) _ L' hL' hc').1
   simp [Env.lent] at h2
   omega
  ·have h1 := (g.own l' L' hL' hc').2.1
   have h2 := (g'.ownN (λ _ => rfl) _ L hL hc).1
   simp [Env.lent] at h2
   omega
  ·have := g'.inj _ _ L L' hL hL' hc hc' hb
   omega
 ·intro b hb
  exact g'.lt b ((hF b).1 hb).1
 ·intro b hb
  have h1 := g.up b hb
  exact (hF b).2 ⟨g'.up b (.inl h1), hno b h1⟩
 ·intro b hb
  obtain ⟨h1, h2⟩ := (hF b).1 hb
  rcases g'.downN (λ _ => rfl) b h1 with h | h
  ·rcases h with h | h
   ·exact g.down b h
   ·exact absurd (lends_nil.1 h) h2
  ·have := g.below.size
   right
   intro ho
   have := Env.old_lt g.below ho
   simp [Env.lent] at h
   omega
 ·exact g.below.to (g'.belowN (λ _ => rfl))
 ·intro l hl
  have := g.hm
  simp only [Env.back]
  rw [if_pos (by omega)]
  exact g.stay l hl
 ·have := g.hm
  simp
  omega
theorem repV1_flatR {E' : Env} {d : Nat} {lent : Prop} {v : Value} {x : AV} (h : RepV1 E' v x) (hf : ownOrFlat x = true) : RepV1 (E.back E' d lent) v (shB d x) := by
 have hs : ∀ y, flatB y = true -> RepV1 E' v y -> RepV1 (E.back E' d lent) v (shB d y) := by
  intro y hy hr
  have e : ExtSh d { E' with F := λ _ => False } (E.back E' d lent) := ⟨λ _ h => h.elim, λ _ h => h.elim, λ q L hL => by
   simp only [Env.back]
   rw [if_neg (by omega), show q + d - d = q by omega]
   exact hL⟩
  exact repV1_sh (repV1_flat hr hy _) e
 cases x with
 | own l a b =>
  obtain ⟨L, A, hL, hb, hA, rfl⟩ := Rep.own_inv (show Rep E' [v] (.own l a b) from h)
  exact Rep.own (E := E.back E' d lent) (l := l + d) (by simp only [Env.back]; rw [if_neg (by omega), show l + d - d = l by omega]; exact hL) hb hA
 | _ => exact hs _ hf h
theorem repV_flatR {E' : Env} {d : Nat} {lent : Prop} {v : Value} {x : AV} (h : RepV E' v x) (hf : flatR x = true) : RepV (E.back E' d lent) v (shB d x) := by
 cases x with
 | tup xs =>
  obtain ⟨vs, hv, hl, hr⟩ := h
  refine ⟨vs, hv, by rw [shL_length]; exact hl, λ i u y hu hy => ?_⟩
  rw [shL_get, Option.map_eq_some_iff] at hy
  obtain ⟨y', hy', rfl⟩ := hy
  have h1 := List.all_eq_true.1 (by simpa only [flatR] using hf) y' (List.mem_of_getElem? hy')
  exact repV1_flatR (hr i u y' hu hy') h1
 | _ =>
  rw [repV_eq _ (by intro xs hh; cases hh)] at h
  rw [repV_eq _ (by intro xs hh; simp only [shB] at hh; cases hh)]
  exact repV1_flatR h hf
def mark (D : Nat) : Deferred := { target := .collected D, args := #[] }
structure MarkOk (E0 E : Env) (D : Nat) : Prop where
 at_ : E.w.heap[D]? = some (.deferred (some []))
 own : ∀ l L, E.loc l = some L -> 0 < L.cap -> L.b ≠ D
 new : ¬ E0.old D
structure Prot (E0 : Env) (R : List (Nat × Obj)) (E : Env) (ds : List Deferred) : Prop where
 marks : ∃ Ds : List Nat, Ds.Nodup /\ ds = Ds.map mark /\ ∀ D ∈ Ds, MarkOk E0 E D
 res : ∀ p ∈ R, E.w.heap[p.1]? = some p.2 /\ ∀ l L, E.loc l = some L -> 0 < L.cap -> L.b ≠ p.1
theorem Prot.nil (E0 E : Env) : Prot E0 [] E [] := ⟨⟨[], by simp, rfl, by simp⟩, by simp⟩
theorem res_keep {E E' : Env} {tl : List Nat} {D : Nat} {ob : Obj} (h : E.w.heap[D]? = some ob /\ ∀ l L, E.loc l = some L -> 0 < L.cap -> L.b ≠ D) (k : Keep tl E E') : E'.w.heap[D]? = some ob /\ ∀ l L, E'.loc l = some L -> 0 < L.cap -> L.b ≠ D := by
 have hlt : D < E.w.heap.size := (Array.getElem?_eq_some_iff.1 h.1).1
 refine ⟨?_, λ l L hL hc he => ?_⟩
 ·rw [k.block D hlt (λ l L _ hL hc he => h.2 l L hL hc he.symm)]
  exact h.1
 ·rcases k.loc l L hL hc with h1 | ⟨l0, L0, _, h1, h2, h3⟩
  ·omega
  ·exact h.2 l0 L0 h1 h2 (by rw [h3, he])
theorem MarkOk.keep {E0 E E' : Env} {tl : List Nat} {D : Nat} (h : MarkOk E0 E D) (k : Keep tl E E') : MarkOk E0 E' D := by
 have := res_keep ⟨h.at_, h.own⟩ k
 exact ⟨this.1, this.2, h.new⟩
theorem Prot.keep {E0 E E' : Env} {R : List (Nat × Obj)} {tl : List Nat} {ds : List Deferred} (h : Prot E0 R E ds) (k : Keep tl E E') : Prot E0 R E' ds :=
 ⟨⟨h.marks.choose, h.marks.choose_spec.1, h.marks.choose_spec.2.1, λ D hD => (h.marks.choose_spec.2.2 D hD).keep k⟩, λ p hp => res_keep (h.res p hp) k⟩
theorem Prot.same {E0 E E' : Env} {R : List (Nat × Obj)} {ds : List Deferred} (h : Prot E0 R E ds) (hw : E'.w = E.w) (hl : ∀ l L, E'.loc l = some L -> 0 < L.cap -> ∃ l0, E.loc l0 = some L) : Prot E0 R E' ds :=
 ⟨⟨h.marks.choose, h.marks.choose_spec.1, h.marks.choose_spec.2.1, λ D hD => ⟨by rw [hw]; exact (h.marks.choose_spec.2.2 D hD).at_, λ l L hL hc => by
  obtain ⟨l0, h0⟩ := hl l L hL hc
  exact (h.marks.choose_spec.2.2 D hD).own l0 L h0 hc, (h.marks.choose_spec.2.2 D hD).new⟩⟩, λ p hp => ⟨by rw [hw]; exact (h.res p hp).1, λ l L hL hc => by
  obtain ⟨l0, h0⟩ := hl l L hL hc
  exact (h.res p hp).2 l0 L h0 hc⟩⟩
def ProtR (r : Option Nat) (E0 : Env) (R : List (Nat × Obj)) (E : Env) (ds : List Deferred) : Prop := match r with
 | none => Prot E0 R E ds
 | some _ => ds = []
theorem ProtR.keep {r : Option Nat} {E0 E E' : Env} {R : List (Nat × Obj)} {tl : List Nat} {ds : List Deferred} (h : ProtR r E0 R E ds) (k : Keep tl E E') : ProtR r E0 R E' ds := by
 cases r with
 | none => exact Prot.keep h k
 | some _ => exact h
theorem ProtR.same {r : Option Nat} {E0 E E' : Env} {R : List (Nat × Obj)} {ds : List Deferred} (h : ProtR r E0 R E ds) (hw : E'.w = E.w) (hl : ∀ l L, E'.loc l = some L -> 0 < L.cap -> ∃ l0, E.loc l0 = some L) : ProtR r E0 R E' ds := by
 cases r with
 | none => exact Prot.same h hw hl
 | some _ => exact h
theorem GloE.imm (h : GloE E) : GloE E.imm := λ g x hx => by
 obtain ⟨h1, us, h2, h3⟩ := h g x hx
 exact ⟨h1, us, by simpa using h2, h3⟩
abbrev Trans := List AV -> (AV -> List LObj -> Prop) -> Prop
abbrev HTrans := List LObj -> List AV -> (AV -> List LObj -> Prop) -> Prop
def SpecH (P : Program) (f : FuncId) (H0 : List LObj) (args : List AV) (R : AV -> List LObj -> Prop) : Prop :=
 ∀ (E0 : Env) (vs : List Value), Gam E0 E0 H0 -> E0.m = H0.length -> GloE E0 -> vs.length = args.length -> (∀ (i : Nat) (v : Value) (x : AV), vs[i]? = some v -> args[i]? = some x -> RepV E0 v x) ->
  Calls P f vs.toArray E0.w λ e w' => ∃ v x H E', e = .returned v /\ R x H /\ E'.w = w' /\ Gam E0 E' H /\ RepV E' v x
theorem SpecH.mono {P : Program} {f : FuncId} {H0 : List LObj} {args : List AV} {R R' : AV -> List LObj -> Prop} (h : SpecH P f H0 args R) (hr : ∀ x H, R x H -> R' x H) : SpecH P f H0 args R' :=
 λ E0 vs h1 h0 hG h2 h3 => (h E0 vs h1 h0 hG h2 h3).mono λ _ _ ⟨v, x, H, E', he, hR, hw, hg, hv⟩ => ⟨v, x, H, E', he, hr x H hR, hw, hg, hv⟩
structure Foot where
 wr : Nat -> Prop
 rd : Nat -> Prop
structure FrameZ (W : World) (Z : Foot) (W' : World) (Z' : Foot) : Prop where
 os : W'.os = W.os
 tape : W'.tape = W.tape
 output : W'.output = W.output
 size : W.heap.size <= W'.heap.size
 block : ∀ b, b < W.heap.size -> ¬ Z.wr b -> W'.heap[b]? = W.heap[b]?
 zw : ∀ b, Z'.wr b -> Z.wr b ∨ W.heap.size <= b
def StableZ (J : Foot -> World -> Prop) : Prop :=
 ∀ Z W W', J Z W -> W'.os = W.os -> W'.tape = W.tape -> W'.output = W.output -> W.heap.size <= W'.heap.size -> (∀ b, Z.wr b ∨ Z.rd b -> W'.heap[b]? = W.heap[b]?) -> J Z W'
def BoundZ (J : Foot -> World -> Prop) : Prop := ∀ Z W, J Z W -> ∀ b, Z.wr b ∨ Z.rd b -> b < W.heap.size
def itEnv (W : World) (F : Nat -> Prop) : Env := { w := W, F := F, loc := λ _ => none, m := 0 }
def RoundOk (P : Program) (F0 : Nat -> Prop) (s0 : Nat) (l : Nat) (n : Nat) (xs : Nat -> List AV) (J : Nat -> Foot -> World -> Prop) (JX : Foot -> World -> Prop) : Prop :=
 ∀ (i : Nat) (Z : Foot) (W : World) (Fi : Nat -> Prop) (us : List Value), i < n -> J i Z W -> (∀ b, Fi b -> b < W.heap.size /\ ¬ Z.wr b /\ (F0 b ∨ s0 <= b)) -> us.length = (xs i).length ->
  (∀ (j : Nat) (v : Value) (x : AV), us[j]? = some v -> (xs i)[j]? = some x -> RepV (itEnv W Fi) v x) ->
  ∀ d, YieldAt Fence.wide d P l us.toArray W λ e W' => ∃ Z', FrameZ W Z W' Z' /\ (∀ b, Z'.rd b -> Z.rd b ∨ Z.wr b ∨ Fi b ∨ W.heap.size <= b) /\ ((e = .returned (.bool true) /\ J (i + 1) Z' W') ∨ (e = .returned (.bool false) /\ JX Z' W'))
def SeqSpec (P : Program) (f : FuncId) (caps : List AV) (n : Nat) (xs : Nat -> List AV) : Prop :=
 ∀ (E0 : Env) (vs : List Value) (l : Nat) (J : Nat -> Foot -> World -> Prop) (JX : Foot -> World -> Prop) (Z0 : Foot), (∀ q, E0.loc q = none) -> E0.m = 0 -> GloE E0 -> (∀ b, E0.F b -> b < E0.w.heap.size /\ ¬ Z0.wr b) ->
  vs.length = caps.length -> (∀ (i : Nat) (v : Value) (x : AV), vs[i]? = some v -> caps[i]? = some x -> RepV E0 v x) ->
  (∀ i, StableZ (J i)) -> StableZ JX -> (∀ i, BoundZ (J i)) -> BoundZ JX -> RoundOk P E0.F E0.w.heap.size l n xs J JX -> J 0 Z0 E0.w ->
  Calls P f (#[.func (.yield l) #[] #[]] ++ vs.toArray) E0.w λ e w' => (∃ v, e = .returned v) /\ ∃ Z', FrameZ E0.w Z0 w' Z' /\ (J n Z' w' ∨ JX Z' w')
inductive Ent where
 | lend (T : Trans)
 | hand (tk : List LObj -> List AV -> List Nat) (T : HTrans)
 | ext (F : List LObj -> List AV -> Option (Prop × AV))
 | seq (F : List AV -> Option (Prop × Nat × (Nat -> List AV)))
structure Table where
 fn : FuncId -> Option Ent
 key : TypeId -> Option (Value -> Prop)
def Enters (P : Program) (f : FuncId) : Prop := ∀ args w, (callFunc f args).run P w = .ok (.enter f args) w
def ExtOk (P : Program) (f : FuncId) (F : List LObj -> List AV -> Option (Prop × AV)) : Prop :=
 ∀ (E0 E : Env) (H : List LObj) (vs : List Value) (xs : List AV) (p : Prop) (x : AV), Gam E0 E H -> vs.length = xs.length -> (∀ (i : Nat) (v : Value) (y : AV), vs[i]? = some v -> xs[i]? = some y -> RepV E v y) -> F H xs = some (p, x) -> p ->
  ∃ v, (callFunc f vs.toArray).run P E.w = .ok (.value v) E.w /\ RepV E v x
structure TableOk (P : Program) (C : Table) : Prop where
 lend : ∀ f T, C.fn f = some (.lend T) -> Enters P f /\ ∀ args R, T args R -> Spec P f args R
 hand : ∀ f tk T, C.fn f = some (.hand tk T) -> Enters P f /\ ∀ H0 args R, T H0 args R -> SpecH P f H0 args R
 ext : ∀ f F, C.fn f = some (.ext F) -> ExtOk P f F
 keys : KeysOk P C.key
 seq : ∀ f F, C.fn f = some (.seq F) -> Enters P f /\ ∀ caps p n xs, F caps = some (p, n, xs) -> p -> SeqSpec P f caps n xs
def immVs : List AV -> Bool
 | [] => true
 | c :: cs => immB c && immVs cs
mutual
def namB : AV -> List Nat
 | .agg cs => namL cs
 | .tup cs => namL cs
 | .own l _ _ => [l]
 | .ptr l _ _ _ => [l]
 | .clo _ cs => namL cs
 | .ifc _ x => namB x
 | .mp l => [l]
 | _ => []
def namL : List AV -> List Nat
 | [] => []
 | c :: cs => namB c ++ namL cs
end
def allIn (ks : List Nat) : List Nat -> Bool
 | [] => true
 | l :: ls => match posN ks l with
  | some _ => allIn ks ls
  | none => false
def argH (ks : List Nat) (H : List LObj) (x : AV) : Option (Prop × AV × Bool) := match immB x with
 | true => some (True, x, false)
 | false => match allIn ks (namB x) with
  | true => some (True, mapB (posN ks) x, false)
  | false => match argV ks H x with
   | some (p, y) => some (p, y, true)
   | none => none
def argHs (ks : List Nat) (H : List LObj) : List AV -> Option (Prop × List AV × Bool)
 | [] => some (True, [], false)
 | x :: xs => match argH ks H x, argHs ks H xs with
  | some (p, y, b), some (q, ys, c) => some (p /\ q, y :: ys, b || c)
  | _, _ => none
def nflOs : List LObj -> Prop
 | [] => True
 | o :: os => nflO o /\ nflOs os
theorem nflOs_mem : ∀ {os : List LObj}, nflOs os -> ∀ o ∈ os, nflO o := by
 intro os
 induction os with
 | nil => intro _ o ho; cases ho
 | cons c cs ih =>
  intro h o ho
  rcases List.mem_cons.1 ho with rfl | ho
  ·exact h.1
  ·exact ih h.2 o ho
def apartP (lent : Bool) (x : AV) (H1 : List LObj) (K : Prop) : Prop := match lent with
 | true => nflB x = true /\ nflOs H1 /\ K
 | false => K
def flatP (x : AV) : Prop := match flatR x with
 | true => True
 | false => False
theorem flatP_eq {x : AV} (h : flatP x) : flatR x = true := by
 unfold flatP at h
 split at h
 ·assumption
 ·exact h.elim
def flatOs : List LObj -> Prop
 | [] => True
 | o :: os => flatO o /\ flatOs os
theorem flatOs_mem : ∀ {os : List LObj}, flatOs os -> ∀ o ∈ os, flatO o := by
 intro os
 induction os with
 | nil => intro _ o ho; cases ho
 | cons c cs ih =>
  intro h o ho
  rcases List.mem_cons.1 ho with rfl | ho
  ·exact h.1
  ·exact ih h.2 o ho
def vcCall (C : Table) (s : St) (f : FuncId) (xs : List AV) (K : AV -> St -> List Nat -> Prop) : Prop :=
 match C.fn f with
 | none => False
 | some (.lend T) => match immVs xs with
  | true => T xs λ x H' => K (shB s.heap.length x) { s with heap := s.heap ++ H'.map (shO s.heap.length) } []
  | false => match argVs [] s.heap xs with
   | none => False
   | some (p, ys) => p /\ T ys λ x H' => flatP x /\ flatOs H' /\ K (shB s.heap.length x) { s with heap := s.heap ++ H' } []
 | some (.hand tk T) => match nodupN (tk s.heap xs), handOk s.heap (tk s.heap xs), argHs (tk s.heap xs) s.heap xs with
  | true, true, some (p, ys, lent) => p /\ T (handO (tk s.heap xs) s.heap (tk s.heap xs)) ys λ x H1 =>
    apartP lent x H1 (K (mapB (bkN (tk s.heap xs) s.heap.length) x) ⟨mapL (kpN (tk s.heap xs) H1) s.slots, backO (tk s.heap xs) s.heap.length H1 0 s.heap⟩ (tk s.heap xs))
  | _, _, _ => False
 | some (.ext F) => match F s.heap xs with
  | some (p, x) => p /\ K x s []
  | none => False
 | some (.seq _) => False
theorem immVs_get {cs : List AV} (h : immVs cs = true) {i : Nat} {c : AV} (hc : cs[i]? = some c) : immB c = true := by
 induction cs generalizing i with
 | nil => simp at hc
 | cons d cs ih =>
  simp only [immVs, Bool.and_eq_true] at h
  cases i with
  | zero => simp at hc; subst hc; exact h.1
  | succ i => exact ih h.2 (by simpa using hc)
theorem repV_imm {v : Value} {x : AV} (h : RepV E v x) (hi : immB x = true) : RepV E.imm v x := repV_imm' h hi
theorem keep_back {E2 E' : Env} {d : Nat} {H' : List LObj} (g' : Gam E2 E' H') (lent : Prop) (hw : E2.w = E.w := by rfl) (hn : ∀ l, E2.loc l = none := by intro l; rfl) : Keep [] E (E.back E' d lent) :=
 ⟨by rw [<- hw]; exact (g'.belowN hn).os, by rw [<- hw]; exact (g'.belowN hn).tape, by rw [<- hw]; exact (g'.belowN hn).output, by rw [<- hw]; exact (g'.belowN hn).size, λ b hb _ => by rw [<- hw] at hb ⊢; exact (g'.belowN hn).block b hb, λ q L' hL' hc => by
  simp only [Env.back] at hL'
  split at hL'
  ·exact .inr ⟨q, L', .inl rfl, hL', hc, rfl⟩
  ·exact .inl (by rw [<- hw]; exact (g'.ownN hn _ L' hL' hc).1)⟩
theorem argH_rep (g : Gam E0 E H) {ks : List Nat} {lent : Prop} {x y : AV} {v : Value} {p : Prop} {b : Bool} (h : RepV E v x) (ha : argH ks H x = some (p, y, b)) (hp : p) (hb : b = true -> lent) : RepV (E.hand ks lent) v y := by
 unfold argH at ha
 split at ha
 ·rename_i him
  simp only [Option.some.injEq, Prod.mk.injEq] at ha
  obtain ⟨_, rfl, _⟩ := ha
  exact (repV_imm h him).mono ⟨λ _ h => .inl h, λ _ _ => rfl, λ _ _ h => by simp at h⟩
 ·split at ha
  ·simp only [Option.some.injEq, Prod.mk.injEq] at ha
   obtain ⟨_, rfl, _⟩ := ha
   exact repV_map h (ext_hand E ks lent)
  ·split at ha
   ·rename_i q z hz
    simp only [Option.some.injEq, Prod.mk.injEq] at ha
    obtain ⟨rfl, rfl, rfl⟩ := ha
    exact (argV_rep g h hz hp).mono ⟨λ b hh => hh.elim .inl (λ hh => .inr ⟨hb rfl, hh⟩), λ _ _ => rfl, λ _ _ h => by simp [Env.lent] at h⟩
   ·cases ha
theorem argHs_rep (g : Gam E0 E H) {ks : List Nat} {lent : Prop} : ∀ {xs ys : List AV} {vs : List Value} {p : Prop} {b : Bool}, vs.length = xs.length -> (∀ (i : Nat) (v : Value) (x : AV), vs[i]? = some v -> xs[i]? = some x -> RepV E v x) -> argHs ks H xs = some (p, ys, b) -> p -> (b = true -> lent) ->
  vs.length = ys.length /\ ∀ (i : Nat) (v : Value) (y : AV), vs[i]? = some v -> ys[i]? = some y -> RepV (E.hand ks lent) v y := by
 intro xs
 induction xs with
 | nil =>
  intro ys vs p b hl h ha _ _
  simp only [argHs, Option.some.injEq, Prod.mk.injEq] at ha
  obtain ⟨_, rfl, _⟩ := ha
  exact ⟨hl, λ i v y _ hy => by simp at hy⟩
 | cons x xs ih =>
  intro ys vs p b hl h ha hp hb
  simp only [argHs] at ha
  split at ha
  ·rename_i p1 y b1 q ys' b2 h1 h2
   simp only [Option.some.injEq, Prod.mk.injEq] at ha
   obtain ⟨rfl, rfl, rfl⟩ := ha
   cases vs with
   | nil => simp at hl
   | cons v vs =>
    obtain ⟨i1, i2⟩ := ih (vs := vs) (by simpa using hl) (λ i u z hu hz => h (i + 1) u z (by simpa using hu) (by simpa using hz)) h2 hp.2 (λ hh => hb (by rw [hh, Bool.or_true]))
    refine ⟨by simpa using i1, λ i u z hu hz => ?_⟩
    cases i with
    | zero =>
     simp at hu hz
     subst hu hz
     exact argH_rep g (h 0 v x rfl rfl) h1 hp.1 (λ hh => hb (by rw [hh, Bool.true_or]))
    | succ i => exact i2 i u z (by simpa using hu) (by simpa using hz)
  ·cases ha
theorem call_sound {C : Table} (hC : TableOk P C) {s : St} {tmps : Array Value} (g : Gam E0 E s.heap) (hs : SlotsOk E tmps s.slots) {f : FuncId} {xs : List AV} {vs : List Value} {K : AV -> St -> List Nat -> Prop} (hl : vs.length = xs.length)
  (hr : ∀ (i : Nat) (v : Value) (x : AV), vs[i]? = some v -> xs[i]? = some x -> RepV E v x) (h : vcCall C s f xs K) :
  (Enters P f /\ Calls P f vs.toArray E.w λ e w' => ∃ v x s' tl E', e = .returned v /\ K x s' tl /\ E'.w = w' /\ Gam E0 E' s'.heap /\ SlotsOk E' tmps s'.slots /\ RepV E' v x /\ Keep tl E E') ∨
  (∃ v x s' tl, (callFunc f vs.toArray).run P E.w = .ok (.value v) E.w /\ K x s' tl /\ Gam E0 E s'.heap /\ SlotsOk E tmps s'.slots /\ RepV E v x /\ Keep tl E E) := by
 unfold vcCall at h
 split at h
 ·exact h.elim
 ·rename_i T hT
  left
  refine ⟨(hC.lend f T hT).1, ?_⟩
  split at h
  ·rename_i him
   refine ((hC.lend f T hT).2 _ _ h E.imm vs (λ _ => rfl) rfl g.lt hs.1.2.imm hl (λ i v x hv hx => repV_imm (hr i v x hv hx) (immVs_get him hx))).mono ?_
   rintro e w' ⟨v, x, H', E', rfl, hK, rfl, g', hv⟩
   obtain ⟨e1, e2, g2⟩ := gam_back g g'
   exact ⟨v, _, _, _, E.back E' s.heap.length False, rfl, hK, rfl, g2, hs.mono e1, repV_sh hv e2, keep_back g' False⟩
  ·split at h
   ·exact h.elim
   ·rename_i p ys ha
    obtain ⟨hp, h⟩ := h
    obtain ⟨a1, a2⟩ := argVs_rep g hl hr ha hp
    have hlt : ∀ b, (E.lent []).F b -> b < (E.lent []).w.heap.size := by
     rintro b (hb | ⟨l, L, hL, hc, rfl, _⟩)
     ·exact g.lt b hb
     ·exact (g.own l L hL hc).2.1
    refine ((hC.lend f T hT).2 _ _ h (E.lent []) vs (λ _ => rfl) rfl hlt (hs.1.2.imm.mono (ext_lent E [])) a1 a2).mono ?_
    rintro e w' ⟨v, x, H', E', rfl, ⟨hfr, hfo, hK⟩, rfl, g', hv⟩
    obtain ⟨e1, g2⟩ := gam_back_lent g g' (flatOs_mem hfo)
    exact ⟨v, _, _, _, E.back E' s.heap.length True, rfl, hK, rfl, g2, hs.mono e1, repV_flatR hv (flatP_eq hfr), keep_back g' True⟩
 ·rename_i tk T hT
  left
  refine ⟨(hC.hand f tk T hT).1, ?_⟩
  split at h
  ·rename_i p ys lent hn hok ha
   obtain ⟨hp, h⟩ := h
   obtain ⟨a1, a2⟩ := argHs_rep (lent := lent = true) g hl hr ha hp (λ h => h)
   refine ((hC.hand f tk T hT).2 _ _ _ h (E.hand (tk s.heap xs) (lent = true)) vs (gam_hand g hn _) (by rw [handO_length]; rfl) (hs.1.2.map (ext_hand E _ _)) a1 a2).mono ?_
   rintro e w' ⟨v, x, H1, E', rfl, hK, rfl, g', hv⟩
   have hap : (lent = true -> nflB x = true /\ ∀ o ∈ H1, nflO o) /\ K (mapB (bkN (tk s.heap xs) s.heap.length) x) ⟨mapL (kpN (tk s.heap xs) H1) s.slots, backO (tk s.heap xs) s.heap.length H1 0 s.heap⟩ (tk s.heap xs) := by
    cases lent with
    | true => exact ⟨λ _ => ⟨hK.1, nflOs_mem hK.2.1⟩, hK.2.2⟩
    | false => exact ⟨λ h => (by cases h), hK⟩
   obtain ⟨k1, k2, k3, k4⟩ := gam_handback g hn hok g' (λ hh => (hap.1 hh).2)
   exact ⟨v, _, _, _, backEnv E E' s.heap.length (tk s.heap xs) (lent = true), rfl, hap.2, rfl, k2, hs.map k1, k4 v x hv (λ hh => (hap.1 hh).1), k3⟩
  ·exact h.elim
 ·rename_i F hT
  right
  split at h
  ·rename_i p x hF
   obtain ⟨v, h1, h2⟩ := hC.ext f F hT E0 E s.heap vs xs p x g hl hr hF h.1
   exact ⟨v, x, s, [], h1, h.2, g, hs, h2, Keep.refl _ _⟩
  ·exact h.elim
 ·exact h.elim
def goodCap : AV -> Bool
 | .iarr .. => false
 | .agg _ => false
 | .tup _ => false
 | _ => true
def calleeOf : AV -> Option (FuncId × List AV)
 | .pl (.func (.func f) first caps) => match first.toList, caps.toList with
  | [], [] => some (f, [])
  | _, _ => none
 | .clo (.func f) caps => match caps.all goodCap with
  | true => some (f, caps)
  | false => none
 | _ => none
def vcOp (P : Program) (C : Table) (s : St) (o : Oper) (K : St -> List Nat -> Prop) : Prop :=
 match opY P s o with
 | some F => F λ s' x tl => K (s'.put o.dst x) tl
 | none => match pureOp P s o with
  | some (p, x) => p /\ K (s.put o.dst x) []
  | none => match heapOp P s o with
   | some (p, s', x) => p /\ K (s'.put o.dst x) (touched s o)
   | none => match opX P C.key s o with
    | some F => F λ s' x tl => K (s'.put o.dst x) tl
    | none => match opQ P s o with
    | some F => F λ s' x tl => K (s'.put o.dst x) tl
    | none => match o.op with
     | .call { callee := .value fo, args, .. } => match calleeOf (s.ev fo) with
      | some (f, caps) => vcCall C s f (args.toList.map s.ev ++ caps) λ x s' tl => K (s'.put o.dst x) tl
      | none => False
     | _ => False
theorem opY_ne_defer {s : St} {o : Oper} {r : XK -> Prop} (h : opY P s o = some r) : ∀ c, o.op ≠ .defer c := by
 intro c hc
 simp [opY, hc] at h
theorem opX_ne_defer {KT : TypeId -> Option (Value -> Prop)} {s : St} {o : Oper} {r : XK -> Prop} (h : opX P KT s o = some r) : ∀ c, o.op ≠ .defer c := by
 intro c hc
 simp [opX, hc] at h
theorem opQ_ne_defer {s : St} {o : Oper} {r : XK -> Prop} (h : opQ P s o = some r) : ∀ c, o.op ≠ .defer c := by
 intro c hc
 simp [opQ, opZ, opW, hc] at h
def wideR (r : Option Nat) : Fence := { Fence.wide with round := r }
theorem callsIn_wideR {r : Option Nat} {n : Nat} {f : FuncId} {args : Array Value} {w : World} {R : Ending -> World -> Prop} (h : Calls P f args w R) : CallsIn (wideR r) n P f args w R :=
 callsIn_wide.2 h
theorem pure_ne_defer {s : St} {o : Oper} {r : Prop × AV} (h : pureOp P s o = some r) : ∀ c, o.op ≠ .defer c := by
 intro c hc
 simp [pureOp, hc] at h
theorem heap_ne_defer {s : St} {o : Oper} {r : Prop × St × AV} (h : heapOp P s o = some r) : ∀ c, o.op ≠ .defer c := by
 intro c hc
 simp [heapOp, hc] at h
theorem callee_spec {v : Value} {x : AV} {f : FuncId} {caps : List AV} (h : RepV E v x) (hc : calleeOf x = some (f, caps)) :
  ∃ vs : List Value, v = .func (.func f) #[] vs.toArray /\ vs.length = caps.length /\ ∀ (i : Nat) (u : Value) (c : AV), vs[i]? = some u -> caps[i]? = some c -> RepV E u c := by
 unfold calleeOf at hc
 split at hc
 ·rename_i f' first cs
  split at hc
  ·rename_i h1 h2
   simp only [Option.some.injEq, Prod.mk.injEq] at hc
   obtain ⟨rfl, rfl⟩ := hc
   have e1 : first = #[] := Array.toList_eq_nil_iff.1 h1
   have e2 : cs = #[] := Array.toList_eq_nil_iff.1 h2
   exact ⟨[], by rw [repV_pl h, e1, e2], rfl, λ i u c hu => by simp at hu⟩
  ·cases hc
 ·rename_i f' cs
  split at hc
  ·rename_i hgood
   simp only [Option.some.injEq, Prod.mk.injEq] at hc
   obtain ⟨rfl, rfl⟩ := hc
   obtain ⟨vs, hl, hr, rfl⟩ := Rep.clo_inv (show Rep E [v] (.clo _ _) from h)
   refine ⟨vs, rfl, hl, λ i u c hu hcc => ?_⟩
   have h1 := hr i u c hu hcc
   have h2 := List.all_eq_true.1 hgood c (List.mem_of_getElem? hcc)
   cases c <;> first | exact h1 | exact trivial | (simp [goodCap] at h2)
  ·cases hc
 ·cases hc
theorem op_sound {C : Table} (hC : TableOk P C) {r : Option Nat} {n : Nat} {s : St} {a : Act} {o : Oper} {K : St -> List Nat -> Prop} {next : Act -> World -> Prop} {Q : Exit -> Act -> World -> Prop} (g : GamS E0 E s a) (h : vcOp P C s o K)
  (hnext : ∀ s' E' v tl, K s' tl -> GamS E0 E' s' (a.put o.dst v) -> Keep tl E E' -> next (a.put o.dst v) E'.w) : o.wpIn (wideR r) n P a E.w next Q := by
 refine ⟨λ _ _ => trivial, ?_⟩
 have doesX : DoesX P E0 E s a o (λ s' x tl => K (s'.put o.dst x) tl) -> (∀ c, o.op ≠ .defer c) -> o.uponIn (wideR r) n P a next Q ((o.semAt (wideR r).round a.eval).run P E.w) := by
  rintro ⟨nx, E', s', x, tl, hrun, hK, g', hx, hkp⟩ hnd
  have hsem : o.semAt (wideR r).round a.eval = execOp a.eval o := Oper.semAt_eq _ _ o hnd
  rw [hsem, hrun]
  rcases hx with ⟨v, rfl, hv⟩ | ⟨rfl, rfl⟩
  ·rw [Oper.uponIn_value]
   exact hnext _ E' v _ hK ⟨by cases o.dst <;> exact g'.toGam, g'.slots.put o.dst hv⟩ hkp
  ·rw [Oper.uponIn_skip]
   exact hnext _ E' undef _ hK ⟨by cases o.dst <;> exact g'.toGam, g'.slots.put o.dst (show RepV E' undef .any from trivial)⟩ hkp
 unfold vcOp at h
 split at h
 ·rename_i F hY
  exact doesX (run_opY g hY h) (opY_ne_defer hY)
 split at h
 ·rename_i p x hp
  obtain ⟨v, hrun, hv⟩ := run_pure g.slots g.objs hp h.1
  have hsem : o.semAt (wideR r).round a.eval = execOp a.eval o := Oper.semAt_eq _ _ o (pure_ne_defer hp)
  rw [hsem, hrun, Oper.uponIn_value]
  exact hnext _ E v _ h.2 ⟨by cases o.dst <;> exact g.toGam, g.slots.put o.dst hv⟩ (Keep.refl _ _)
 ·split at h
  ·rename_i p s' x hp
   obtain ⟨nx, E', hrun, g', hx, hkp⟩ := run_heap g hp h.1
   have hsem : o.semAt (wideR r).round a.eval = execOp a.eval o := Oper.semAt_eq _ _ o (heap_ne_defer hp)
   rw [hsem, hrun]
   rcases hx with ⟨v, rfl, hv⟩ | ⟨rfl, rfl⟩
   ·rw [Oper.uponIn_value]
    exact hnext _ E' v _ h.2 ⟨by cases o.dst <;> exact g'.toGam, g'.slots.put o.dst hv⟩ hkp
   ·rw [Oper.uponIn_skip]
    exact hnext _ E' undef _ h.2 ⟨by cases o.dst <;> exact g'.toGam, g'.slots.put o.dst (show RepV E' undef .any from trivial)⟩ hkp
  ·split at h
   ·rename_i F hX
    exact doesX (run_opX hC.keys g hX h) (opX_ne_defer hX)
   split at h
   ·rename_i F hZ
    exact doesX (run_opQ g hZ h) (opQ_ne_defer hZ)
   split at h
   ·rename_i fo args argTypes ho
    split at h
    ·rename_i f caps hcal
     obtain ⟨vs, hfv, hvl, hvr⟩ := callee_spec (g.slots.ev fo) hcal
     have hnd : ∀ c, o.op ≠ .defer c := by intro c hc; rw [hc] at ho; cases ho
     have hsem : o.semAt (wideR r).round a.eval = execOp a.eval o := Oper.semAt_eq _ _ o hnd
     have hcall := call_sound hC g.toGam g.slots (xs := args.toList.map s.ev ++ caps) (vs := args.toList.map a.eval ++ vs) (by simp [hvl]) (λ i v x hv hx => by
      rw [List.getElem?_append] at hv hx
      simp only [List.length_map] at hv hx
      split at hv
      ·rename_i hlt
       rw [if_pos hlt] at hx
       rw [List.getElem?_map, Option.map_eq_some_iff] at hv hx
       obtain ⟨q, hq, rfl⟩ := hv
       obtain ⟨q', hq', rfl⟩ := hx
       rw [hq] at hq'
       injection hq' with hq'
       subst hq'
       exact g.slots.ev _
      ·rename_i hge
       rw [if_neg hge] at hx
       exact hvr _ v x hv hx) h
     have hrun : ∀ nx, (callFunc f (args.toList.map a.eval ++ vs).toArray).run P E.w = .ok nx E.w -> (execOp a.eval o).run P E.w = .ok nx E.w := by
      intro nx this
      have e1 : (args.map a.eval ++ vs.toArray : Array Value) = (args.toList.map a.eval ++ vs).toArray := by apply Array.ext'; simp
      simp only [execOp, ho, resolve, Deferred.ofValue, hfv, Sem.run_bind, Sem.run_pure, Result.andThen_ok, invoke]
      simp only [Array.empty_append, e1]
      exact this
     rcases hcall with ⟨hent, hcall⟩ | ⟨v, x, s', tl, hval, hK, g', hs', hv, hkp⟩
     ·rw [hsem, hrun _ (hent _ _), Oper.uponIn_enter]
      refine ⟨λ hh => by simp [wideR, Fence.wide] at hh, callsIn_wideR (hcall.mono ?_)⟩
      rintro e w' ⟨v, x, s', tl, E', rfl, hK, rfl, g', hs', hv, hkp⟩
      refine hnext _ E' v _ hK ⟨?_, ?_⟩ hkp
      ·cases o.dst <;> exact g'
      ·exact SlotsOk.put (s := s') hs' o.dst hv
     ·rw [hsem, hrun _ hval, Oper.uponIn_value]
      refine hnext _ E v _ hK ⟨?_, ?_⟩ hkp
      ·cases o.dst <;> exact g'
      ·exact SlotsOk.put (s := s') hs' o.dst hv
    ·exact h.elim
   ·exact h.elim
end
end Go.Am
