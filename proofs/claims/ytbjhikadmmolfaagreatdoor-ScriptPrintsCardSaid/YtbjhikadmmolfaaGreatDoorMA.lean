/- An abstract machine over the model: abstract values, what they stand for in a world, and that this lasts while the world grows. -/
import Derived.WalkKit
import Derived.CallsIn
import Derived.RangeFuncIn
import Derived.Deep.Slices
import Derived.Lib.Builder
import Derived.LaidEqlPtr
import Derived.Deep.AppendSrc
set_option linter.unusedSectionVars false
set_option linter.unusedVariables false
set_option linter.unusedSimpArgs false
namespace Go.Am
open Go.RowKit
inductive AV : Type where
 | any
 | pl (v : Value)
 | iarr (k : IntKind) (n : Nat) (f : Nat -> Int)
 | agg (cs : List AV)
 | tup (vs : List AV)
 | rows (k n : Nat) (f : Nat -> AV)
 | own (l off len : Nat)
 | ptr (l i j d : Nat)
 | ipt (x : AV) (j d : Nat)
 | clo (fn : Fn) (caps : List AV)
 | ifc (t : TypeId) (x : AV)
 | mp (l : Nat)
 | emp
def cw : AV -> Nat
 | .iarr _ n _ => n
 | _ => 1
def cwL : List AV -> Nat
 | [] => 0
 | c :: cs => cw c + cwL cs
def aw : AV -> Nat
 | .agg cs => cwL cs
 | x => cw x
structure Loc where
 b : Nat
 k : Nat
 cap : Nat
 t : TypeId
structure Env where
 w : World
 F : Nat -> Prop
 loc : Nat -> Option Loc
 m : Nat
def Env.imm (E : Env) : Env := { E with loc := λ _ => none, m := 0 }
@[simp] theorem Env.imm_w (E : Env) : E.imm.w = E.w := rfl
@[simp] theorem Env.imm_F (E : Env) : E.imm.F = E.F := rfl
@[simp] theorem Env.imm_loc (E : Env) (l : Nat) : E.imm.loc l = none := rfl
@[simp] theorem Env.imm_imm (E : Env) : E.imm.imm = E.imm := rfl
inductive Rep : Env -> List Value -> AV -> Prop where
 | any {E : Env} (v : Value) (h : v.oneCell' = true) : Rep E [v] .any
 | pl {E : Env} (v : Value) (h : v.oneCell' = true) : Rep E [v] (.pl v)
 | iarr {E : Env} {k : IntKind} {n : Nat} {f : Nat -> Int} {us : List Value} (hl : us.length = n) (h : ∀ i, i < n -> us[i]? = some (.int k (f i))) : Rep E us (.iarr k n f)
 | nil {E : Env} : Rep E [] (.agg [])
 | cons {E : Env} {us vs : List Value} {c : AV} {cs : List AV} (hl : us.length = cw c) (h : Rep E us c) (ht : Rep E vs (.agg cs)) : Rep E (us ++ vs) (.agg (c :: cs))
 | rows {E : Env} {A : Option Addr} {n cap k : Nat} {f : Nat -> AV} {us : Nat -> List Value} {a : Addr} (hc : n <= cap) (hm : cap <= maxLen)
   (ha : 0 < n -> A = some a /\ E.F a.block) (hl : ∀ i, i < n -> (us i).length = k)
   (hcell : ∀ i, i < n -> ∀ (j : Nat) (u : Value), (us i)[j]? = some u -> E.w.cell? (a.add (i * k + j)) = some u) (h : ∀ i, i < n -> Rep E.imm (us i) (f i)) : Rep E [.slice A n cap] (.rows k n f)
 | own {E : Env} {l off len : Nat} {L : Loc} {A : Option Addr} (hL : E.loc l = some L) (hb : off + len <= L.cap) (ha : off < L.cap -> A = some ⟨L.b, off * L.k, none⟩) : Rep E [.slice A len (L.cap - off)] (.own l off len)
 | ptr {E : Env} {l i j d : Nat} {L : Loc} (hL : E.loc l = some L) : Rep E [.pointer (some ⟨L.b, i * L.k + j + d, none⟩)] (.ptr l i j d)
 | ipt {E : Env} {x : AV} {j d : Nat} {a : Addr} {us : List Value} (hF : E.F a.block) (hcell : ∀ (i : Nat) (u : Value), us[i]? = some u -> E.w.cell? (a.add i) = some u) (h : Rep E.imm us x) : Rep E [.pointer (some (a.add (j + d)))] (.ipt x j d)
 | clo {E : Env} {fn : Fn} {vs : List Value} {caps : List AV} (hl : vs.length = caps.length) (h : ∀ (i : Nat) (v : Value) (c : AV), vs[i]? = some v -> caps[i]? = some c -> Rep E [v] c) : Rep E [.func fn #[] vs.toArray] (.clo fn caps)
 | ifc {E : Env} {t : TypeId} {v : Value} {x : AV} (hv : v.oneCell' = true) (h : Rep E [v] x) : Rep E [.iface t v] (.ifc t x)
 | ifca {E : Env} {t : TypeId} {us : List Value} {cs : List AV} (h : Rep E us (.agg cs)) : Rep E [.iface t (.agg us.toArray)] (.ifc t (.agg cs))
 | mp {E : Env} {l : Nat} {L : Loc} (hL : E.loc l = some L) : Rep E [.map (some L.b)] (.mp l)
 | emp {E : Env} (A : Option Addr) : Rep E [.slice A 0 0] .emp
def RepV1 (E : Env) (v : Value) : AV -> Prop
 | .any => True
 | .agg cs => ∃ us : List Value, v = .agg us.toArray /\ Rep E us (.agg cs)
 | .iarr .. => False
 | .tup _ => False
 | x => Rep E [v] x
def RepV (E : Env) (v : Value) : AV -> Prop
 | .tup xs => ∃ vs : List Value, v = .tuple vs.toArray /\ vs.length = xs.length /\ ∀ (i : Nat) (u : Value) (x : AV), vs[i]? = some u -> xs[i]? = some x -> RepV1 E u x
 | x => RepV1 E v x
structure Ext (E E' : Env) : Prop where
 F : ∀ b, E.F b -> E'.F b
 cell : ∀ a : Addr, E.F a.block -> E'.w.cell? a = E.w.cell? a
 loc : ∀ l L, E.loc l = some L -> E'.loc l = some L
theorem Ext.refl (E : Env) : Ext E E := ⟨λ _ h => h, λ _ _ => rfl, λ _ _ h => h⟩
theorem Ext.trans {A B C : Env} (h : Ext A B) (k : Ext B C) : Ext A C :=
 ⟨λ b hb => k.F b (h.F b hb), λ a ha => (k.cell a (h.F _ ha)).trans (h.cell a ha), λ l L hl => k.loc l L (h.loc l L hl)⟩
theorem Ext.imm {E E' : Env} (h : Ext E E') : Ext E.imm E'.imm := ⟨h.F, h.cell, λ _ _ h => by simp at h⟩
theorem Ext.of_imm (E : Env) : Ext E.imm E := ⟨λ _ h => h, λ _ _ => rfl, λ _ _ h => by simp at h⟩
@[simp] theorem block_add (a : Addr) (n : Nat) : (a.add n).block = a.block := by unfold Addr.add; split <;> rfl
theorem Rep.mono {E : Env} {us : List Value} {x : AV} (h : Rep E us x) : ∀ {E' : Env}, Ext E E' -> Rep E' us x := by
 induction h with
 | any v h => intro E' _; exact .any v h
 | pl v h => intro E' _; exact .pl v h
 | iarr hl h => intro E' _; exact .iarr hl h
 | nil => intro E' _; exact .nil
 | cons hl _ _ ih1 ih2 => intro E' e; exact .cons hl (ih1 e) (ih2 e)
 | rows hc hm ha hl hcell _ ih =>
  intro E' e
  refine .rows hc hm (λ h => ⟨(ha h).1, e.F _ (ha h).2⟩) hl (λ i hi j u hu => ?_) (λ i hi => ih i hi e.imm)
  rw [e.cell _ (by rw [block_add]; exact (ha (by omega)).2)]
  exact hcell i hi j u hu
 | own hL hb ha => intro E' e; exact .own (e.loc _ _ hL) hb ha
 | ptr hL => intro E' e; exact .ptr (e.loc _ _ hL)
 | ipt hF hcell _ ih =>
  intro E' e
  refine .ipt (e.F _ hF) (λ i u hu => ?_) (ih e.imm)
  rw [e.cell _ (by rw [block_add]; exact hF)]
  exact hcell i u hu
 | clo hl _ ih => intro E' e; exact .clo hl (λ i v c hv hc => ih i v c hv hc e)
 | ifc hv _ ih => intro E' e; exact .ifc hv (ih e)
 | ifca _ ih => intro E' e; exact .ifca (ih e)
 | mp hL => intro E' e; exact .mp (e.loc _ _ hL)
 | emp A => intro E' _; exact .emp A
theorem RepV1.mono {E E' : Env} {v : Value} {x : AV} (h : RepV1 E v x) (e : Ext E E') : RepV1 E' v x := by
 cases x <;> first
  | exact h
  | exact Rep.mono h e
  |(obtain ⟨us, hv, hr⟩ := h; exact ⟨us, hv, hr.mono e⟩)
theorem RepV.mono {E E' : Env} {v : Value} {x : AV} (h : RepV E v x) (e : Ext E E') : RepV E' v x := by
 cases x with
 | tup xs => obtain ⟨vs, hv, hl, hr⟩ := h; exact ⟨vs, hv, hl, λ i u x hu hx => (hr i u x hu hx).mono e⟩
 | _ => simp only [RepV] at h ⊢; exact RepV1.mono h e
theorem Rep.length {E : Env} {us : List Value} {x : AV} (h : Rep E us x) : us.length = aw x := by
 induction h with
 | cons hl h _ ih1 ih2 => simp only [List.length_append, hl, ih2, aw, cwL]
 | iarr hl h => simpa [aw, cw] using hl
 | _ => first | rfl | simp [aw, cw, cwL]
end Go.Am

namespace Go.Am
open Go.RowKit
theorem Rep.one {E : Env} {us : List Value} {x : AV} (h : Rep E us x) : ∀ u ∈ us, u.oneCell' = true := by
 induction h with
 | any v h => simpa using h
 | pl v h => simpa using h
 | @iarr E k n f us hl h =>
  intro u hu
  obtain ⟨i, hi, rfl⟩ := List.mem_iff_getElem.1 hu
  have := h i (by omega)
  rw [List.getElem?_eq_getElem hi] at this
  injection this with this
  rw [this]; rfl
 | nil => simp
 | cons _ _ _ ih1 ih2 => intro u hu; rcases List.mem_append.1 hu with h | h; exact ih1 u h; exact ih2 u h
 | _ => simp [Value.oneCell']
def dropC : List AV -> Nat -> Option (List AV)
 | cs, 0 => some cs
 | [], _ + 1 => none
 | c :: cs, j + 1 => if cw c <= j + 1 then dropC cs (j + 1 - cw c) else none
def takeC : List AV -> Nat -> Option (List AV)
 | _, 0 => some []
 | [], _ + 1 => none
 | c :: cs, j + 1 => if cw c <= j + 1 then (takeC cs (j + 1 - cw c)).map (c :: ·) else none
theorem Rep.cons_inv {E : Env} {us : List Value} {c : AV} {cs : List AV} (h : Rep E us (.agg (c :: cs))) :
  (us.take (cw c)).length = cw c /\ Rep E (us.take (cw c)) c /\ Rep E (us.drop (cw c)) (.agg cs) := by
 generalize hx : AV.agg (c :: cs) = x at h
 cases h with
 | cons hl h ht =>
  injection hx with hx
  injection hx with h1 h2
  subst h1 h2
  rw [List.take_left' hl, List.drop_left' hl]
  exact ⟨hl, h, ht⟩
 | _ => simp at hx
theorem Rep.nil_inv {E : Env} {us : List Value} (h : Rep E us (.agg [])) : us = [] := by
 have := h.length
 simpa [aw, cwL] using this
theorem Rep.iarr_inv {E : Env} {us : List Value} {k : IntKind} {n : Nat} {f : Nat -> Int} (h : Rep E us (.iarr k n f)) : us.length = n /\ ∀ i, i < n -> us[i]? = some (.int k (f i)) := by
 cases h with
 | iarr hl h => exact ⟨hl, h⟩
section inv
variable {E : Env} {us : List Value} {v : Value}
theorem Rep.pl_inv' {u : Value} (h : Rep E us (.pl u)) : us = [u] := by cases h; rfl
theorem Rep.pl_inv {u : Value} (h : Rep E [v] (.pl u)) : v = u := by have := h.pl_inv'; injection this
theorem Rep.ptr_inv' {l i j d : Nat} (h : Rep E us (.ptr l i j d)) : ∃ L, E.loc l = some L /\ us = [.pointer (some ⟨L.b, i * L.k + j + d, none⟩)] := by
 cases h with
 | ptr hL => exact ⟨_, hL, rfl⟩
theorem Rep.ptr_inv {l i j d : Nat} (h : Rep E [v] (.ptr l i j d)) : ∃ L, E.loc l = some L /\ v = .pointer (some ⟨L.b, i * L.k + j + d, none⟩) := by
 obtain ⟨L, hL, hv⟩ := h.ptr_inv'
 injection hv with hv
 exact ⟨L, hL, hv⟩
theorem Rep.ipt_inv' {x : AV} {j d : Nat} (h : Rep E us (.ipt x j d)) : ∃ (a : Addr) (ws : List Value), E.F a.block /\ (∀ (i : Nat) (u : Value), ws[i]? = some u -> E.w.cell? (a.add i) = some u) /\ Rep E.imm ws x /\ us = [.pointer (some (a.add (j + d)))] := by
 cases h with
 | ipt hF hc hr => exact ⟨_, _, hF, hc, hr, rfl⟩
theorem Rep.ipt_inv {x : AV} {j d : Nat} (h : Rep E [v] (.ipt x j d)) : ∃ (a : Addr) (ws : List Value), E.F a.block /\ (∀ (i : Nat) (u : Value), ws[i]? = some u -> E.w.cell? (a.add i) = some u) /\ Rep E.imm ws x /\ v = .pointer (some (a.add (j + d))) := by
 obtain ⟨a, ws, h1, h2, h3, hv⟩ := h.ipt_inv'
 injection hv with hv
 exact ⟨a, ws, h1, h2, h3, hv⟩
theorem Rep.own_inv' {l off len : Nat} (h : Rep E us (.own l off len)) : ∃ (L : Loc) (A : Option Addr), E.loc l = some L /\ off + len <= L.cap /\ (off < L.cap -> A = some ⟨L.b, off * L.k, none⟩) /\ us = [.slice A len (L.cap - off)] := by
 cases h with
 | own hL hb ha => exact ⟨_, _, hL, hb, ha, rfl⟩
theorem Rep.own_inv {l off len : Nat} (h : Rep E [v] (.own l off len)) : ∃ (L : Loc) (A : Option Addr), E.loc l = some L /\ off + len <= L.cap /\ (off < L.cap -> A = some ⟨L.b, off * L.k, none⟩) /\ v = .slice A len (L.cap - off) := by
 obtain ⟨a, ws, h1, h2, h3, hv⟩ := h.own_inv'
 injection hv with hv
 exact ⟨a, ws, h1, h2, h3, hv⟩
theorem Rep.rows_inv' {k n : Nat} {f : Nat -> AV} (h : Rep E us (.rows k n f)) : ∃ (A : Option Addr) (cap : Nat) (ws : Nat -> List Value) (a : Addr), n <= cap /\ cap <= maxLen /\ (0 < n -> A = some a /\ E.F a.block) /\
  (∀ i, i < n -> (ws i).length = k) /\ (∀ i, i < n -> ∀ (j : Nat) (u : Value), (ws i)[j]? = some u -> E.w.cell? (a.add (i * k + j)) = some u) /\ (∀ i, i < n -> Rep E.imm (ws i) (f i)) /\ us = [.slice A n cap] := by
 cases h with
 | rows hc hm ha hl hcell hr => exact ⟨_, _, _, _, hc, hm, ha, hl, hcell, hr, rfl⟩
theorem Rep.rows_inv {k n : Nat} {f : Nat -> AV} (h : Rep E [v] (.rows k n f)) : ∃ (A : Option Addr) (cap : Nat) (ws : Nat -> List Value) (a : Addr), n <= cap /\ cap <= maxLen /\ (0 < n -> A = some a /\ E.F a.block) /\
  (∀ i, i < n -> (ws i).length = k) /\ (∀ i, i < n -> ∀ (j : Nat) (u : Value), (ws i)[j]? = some u -> E.w.cell? (a.add (i * k + j)) = some u) /\ (∀ i, i < n -> Rep E.imm (ws i) (f i)) /\ v = .slice A n cap := by
 obtain ⟨a, b, c, d, h1, h2, h3, h4, h5, h6, hv⟩ := h.rows_inv'
 injection hv with hv
 exact ⟨a, b, c, d, h1, h2, h3, h4, h5, h6, hv⟩
theorem Rep.clo_inv' {fn : Fn} {caps : List AV} (h : Rep E us (.clo fn caps)) : ∃ vs : List Value, vs.length = caps.length /\ (∀ (i : Nat) (v : Value) (c : AV), vs[i]? = some v -> caps[i]? = some c -> Rep E [v] c) /\ us = [.func fn #[] vs.toArray] := by
 cases h with
 | clo hl h => exact ⟨_, hl, h, rfl⟩
theorem Rep.clo_inv {fn : Fn} {caps : List AV} (h : Rep E [v] (.clo fn caps)) : ∃ vs : List Value, vs.length = caps.length /\ (∀ (i : Nat) (v : Value) (c : AV), vs[i]? = some v -> caps[i]? = some c -> Rep E [v] c) /\ v = .func fn #[] vs.toArray := by
 obtain ⟨vs, h1, h2, hv⟩ := h.clo_inv'
 injection hv with hv
 exact ⟨vs, h1, h2, hv⟩
theorem Rep.emp_inv' (h : Rep E us .emp) : ∃ A, us = [.slice A 0 0] := by
 cases h with
 | emp A => exact ⟨A, rfl⟩
theorem Rep.emp_inv (h : Rep E [v] .emp) : ∃ A, v = .slice A 0 0 := by
 obtain ⟨A, hv⟩ := h.emp_inv'
 injection hv with hv
 exact ⟨A, hv⟩
end inv
theorem rep_dropC {E : Env} : ∀ {cs : List AV} {us : List Value} {j : Nat} {cs' : List AV}, Rep E us (.agg cs) -> dropC cs j = some cs' -> Rep E (us.drop j) (.agg cs') := by
 intro cs
 induction cs with
 | nil =>
  intro us j cs' h hd
  cases j with
  | zero => simp [dropC] at hd; subst hd; simpa using h
  | succ j => simp [dropC] at hd
 | cons c cs ih =>
  intro us j cs' h hd
  cases j with
  | zero => simp [dropC] at hd; subst hd; simpa using h
  | succ j =>
   simp only [dropC] at hd
   split at hd
   ·rename_i hc
    obtain ⟨_, _, h3⟩ := h.cons_inv
    have := ih h3 hd
    rw [List.drop_drop] at this
    rwa [show cw c + (j + 1 - cw c) = j + 1 by omega] at this
   ·cases hd
theorem rep_takeC {E : Env} : ∀ {cs : List AV} {us : List Value} {j : Nat} {cs' : List AV}, Rep E us (.agg cs) -> takeC cs j = some cs' -> Rep E (us.take j) (.agg cs') := by
 intro cs
 induction cs with
 | nil =>
  intro us j cs' h hd
  cases j with
  | zero => simp [takeC] at hd; subst hd; simpa using Rep.nil
  | succ j => simp [takeC] at hd
 | cons c cs ih =>
  intro us j cs' h hd
  cases j with
  | zero => simp [takeC] at hd; subst hd; simpa using Rep.nil
  | succ j =>
   simp only [takeC] at hd
   split at hd
   ·rename_i hc
    obtain ⟨h1, h2, h3⟩ := h.cons_inv
    cases ht : takeC cs (j + 1 - cw c) with
    | none => simp [ht] at hd
    | some cs1 =>
     simp [ht] at hd
     subst hd
     have h4 := ih h3 ht
     have := Rep.cons h1 h2 h4
     rw [<- List.take_add] at this
     rwa [show cw c + (j + 1 - cw c) = j + 1 by omega] at this
   ·cases hd
theorem rep_append {E : Env} {bs : List AV} {vs : List Value} (hb : Rep E vs (.agg bs)) : ∀ {cs : List AV} {us : List Value}, Rep E us (.agg cs) -> Rep E (us ++ vs) (.agg (cs ++ bs)) := by
 intro cs
 induction cs with
 | nil => intro us h; obtain rfl := h.nil_inv; simpa using hb
 | cons c cs ih =>
  intro us h
  obtain ⟨h1, h2, h3⟩ := h.cons_inv
  have := Rep.cons h1 h2 (ih h3)
  rw [<- List.append_assoc, List.take_append_drop] at this
  simpa using this
theorem rep_one_cell {E : Env} {v : Value} {x : AV} (h : Rep E [v] x) (hx : cw x = 1) : Rep E [v] (.agg [x]) := by
 have := Rep.cons (cs := []) (vs := []) (by simpa using hx.symm) h .nil
 simpa using this
def partsOf : AV -> Option (List AV)
 | .agg cs => some cs
 | .tup _ => none
 | .any => none
 | .iarr .. => none
 | x => some [x]
theorem repV_parts {E : Env} {v : Value} {x : AV} {cs : List AV} (h : RepV E v x) (hp : partsOf x = some cs) : Rep E v.cells.toList (.agg cs) := by
 cases x with
 | agg cs' =>
  simp only [partsOf, Option.some.injEq] at hp
  subst hp
  obtain ⟨us, rfl, hr⟩ := h
  simpa [Value.cells] using hr
 | tup _ => simp [partsOf] at hp
 | any => simp [partsOf] at hp
 | iarr => simp [partsOf] at hp
 | _ =>
  simp only [partsOf, Option.some.injEq] at hp
  subst hp
  have h' : Rep E [v] _ := h
  have h1 := h'.one v (by simp)
  have : v.cells.toList = [v] := by cases v <;> simp [Value.oneCell', Value.cells] at h1 ⊢
  rw [this]
  exact rep_one_cell h' rfl
inductive LObj where
 | dead
 | box (t : TypeId) (cs : List AV)
 | row (k : Nat) (t : TypeId) (n : Nat) (f : Nat -> AV)
 | prow (t : TypeId) (cs : List AV)
 | raw (ob : Obj)
 | capo (l c : Nat)
 | mapo (kt : TypeId) (W : Value -> Prop) (has : Value -> Prop) (val : Value -> AV)
structure St where
 slots : List AV
 heap : List LObj
def St.get (s : St) (t : Nat) : AV := s.slots.getD t .any
def St.put (s : St) (d : Option Nat) (x : AV) : St := match d with
 | some d => { s with slots := s.slots.set d x }
 | none => s
def CellsAt (w : World) (b : Nat) (arr : Array Value) (t : TypeId) (k : Nat) : Prop := ∃ fr : Nat × Nat, w.heap[b]? = some (.cells arr t fr) /\ (fr = (0, 0) ∨ (arr.size <= fr.1 /\ k = 1))
theorem CellsAt.congr {w w' : World} {b : Nat} {arr : Array Value} {t : TypeId} {k : Nat} (h : CellsAt w b arr t k) (e : w'.heap[b]? = w.heap[b]?) : CellsAt w' b arr t k := by
 obtain ⟨fr, h1, h2⟩ := h
 exact ⟨fr, e.trans h1, h2⟩
theorem CellsAt.of {w : World} {b : Nat} {arr : Array Value} {t : TypeId} {k : Nat} (h : w.heap[b]? = some (.cells arr t (0, 0))) : CellsAt w b arr t k := ⟨(0, 0), h, .inl rfl⟩
theorem CellsAt.lt {w : World} {b : Nat} {arr : Array Value} {t : TypeId} {k : Nat} (h : CellsAt w b arr t k) : b < w.heap.size := by
 obtain ⟨fr, h1, _⟩ := h
 exact (Array.getElem?_eq_some_iff.1 h1).1
theorem CellsAt.cell {w : World} {b : Nat} {arr : Array Value} {t : TypeId} {k : Nat} (h : CellsAt w b arr t k) (j : Nat) : w.cell? ⟨b, j, none⟩ = arr[j]? := by
 obtain ⟨fr, h1, _⟩ := h
 simp [World.cell?, h1]
theorem CellsAt.free {w : World} {b : Nat} {arr : Array Value} {t : TypeId} {k : Nat} (h : CellsAt w b arr t k) {j : Nat} (hj : j < arr.size) : w.frozen? ⟨b, j, none⟩ = false := by
 obtain ⟨fr, h1, h2⟩ := h
 rcases h2 with rfl | h2
 ·simp [World.frozen?, h1]
 ·simp only [World.frozen?, h1]
  have : ¬ fr.1 <= j := by have := h2.1; omega
  simp [this]
def ObjOk (E : Env) (l : Nat) : LObj -> Prop
 | .dead => True
 | .box t cs => ∃ (L : Loc) (us : List Value), E.loc l = some L /\ L.t = t /\ L.cap = 1 /\ E.w.heap[L.b]? = some (.cells us.toArray t (0, 0)) /\ Rep E us (.agg cs)
 | .row k t n f => ∃ L : Loc, E.loc l = some L /\ L.t = t /\ L.k = k /\ n <= L.cap /\ L.cap <= maxLen /\ (0 < L.cap -> ∃ arr : Array Value, CellsAt E.w L.b arr t k /\ arr.size = L.cap * k /\
   ∀ i, i < n -> ∃ us : List Value, us.length = k /\ Rep E.imm us (f i) /\ ∀ (j : Nat) (u : Value), us[j]? = some u -> arr[i * k + j]? = some u)
 | .prow t cs => ∃ (L : Loc) (us : List Value), E.loc l = some L /\ L.t = t /\ L.k = 1 /\ L.cap = us.length /\ us.length = cs.length /\ 0 < us.length /\ E.w.heap[L.b]? = some (.cells us.toArray t (0, 0)) /\ Rep E us (.agg cs)
 | .raw ob => ∃ L : Loc, E.loc l = some L /\ L.cap = 1 /\ E.w.heap[L.b]? = some ob
 | .capo q c => ∃ L : Loc, E.loc q = some L /\ L.cap = c
 | .mapo _ W has val => ∃ (L : Loc) (es : Array MapEntry) (clock : Nat), E.loc l = some L /\ L.cap = 1 /\ E.w.heap[L.b]? = some (.map es clock) /\ (∀ e ∈ es.toList, W e.key) /\ es.toList.Pairwise (λ x y => x.key ≠ y.key) /\
   (∀ v, has v ↔ ∃ e ∈ es.toList, e.key = v) /\ ∀ e ∈ es.toList, RepV1 E.imm e.val (val e.key)
def Env.owns (E : Env) (b : Nat) : Prop := ∃ l L, E.loc l = some L /\ 0 < L.cap /\ L.b = b
def Env.old (E : Env) (b : Nat) : Prop := b < E.w.heap.size /\ ¬ E.owns b
structure BelowO (E0 : Env) (w' : World) : Prop where
 os : w'.os = E0.w.os
 tape : w'.tape = E0.w.tape
 output : w'.output = E0.w.output
 size : E0.w.heap.size <= w'.heap.size
 block : ∀ k, E0.old k -> w'.heap[k]? = E0.w.heap[k]?
theorem BelowO.refl (E0 : Env) : BelowO E0 E0.w := ⟨rfl, rfl, rfl, Nat.le_refl _, λ _ _ => rfl⟩
theorem BelowO.next {E0 : Env} {w w' : World} (h : BelowO E0 w) (os : w'.os = w.os) (tape : w'.tape = w.tape) (output : w'.output = w.output) (size : w.heap.size <= w'.heap.size) (block : ∀ k, E0.old k -> w'.heap[k]? = w.heap[k]?) : BelowO E0 w' :=
 ⟨os.trans h.os, tape.trans h.tape, output.trans h.output, Nat.le_trans h.size size, λ k hk => (block k hk).trans (h.block k hk)⟩
theorem BelowO.alloc {E0 : Env} {w : World} (h : BelowO E0 w) (ob : Obj) : BelowO E0 (w.alloc ob) :=
 h.next rfl rfl rfl (by simp) (λ k hk => Below.heap_alloc w ob k (Nat.lt_of_lt_of_le hk.1 h.size))
theorem BelowO.grown {E0 : Env} {w w' : World} {row : Option Nat} (h : BelowO E0 w) (hg : w.grownBy w' row) (hr : ∀ k, row = some k -> ¬ E0.old k) : BelowO E0 w' :=
 h.next hg.os hg.tape hg.output hg.size (λ k hk => hg.block k (Nat.lt_of_lt_of_le hk.1 h.size) (λ e => hr k e.symm hk))
theorem Env.old_lt {E0 : Env} {w : World} (h : BelowO E0 w) {b : Nat} (hb : E0.old b) : b < w.heap.size := Nat.lt_of_lt_of_le hb.1 h.size
structure Gam (E0 E : Env) (H : List LObj) : Prop where
 objs : ∀ l o, H[l]? = some o -> ObjOk E l o
 dom : ∀ l L, E.loc l = some L -> l < H.length
 own : ∀ l L, E.loc l = some L -> 0 < L.cap -> ¬ E0.old L.b /\ L.b < E.w.heap.size /\ ¬ E.F L.b
 inj : ∀ l l' L L', E.loc l = some L -> E.loc l' = some L' -> 0 < L.cap -> 0 < L'.cap -> L.b = L'.b -> l = l'
 lt : ∀ b, E.F b -> b < E.w.heap.size
 up : ∀ b, E0.F b -> E.F b
 down : ∀ b, E.F b -> E0.F b ∨ ¬ E0.old b
 below : BelowO E0 E.w
 stay : ∀ l, l < E0.m -> E.loc l = E0.loc l ∨ E.loc l = none
 hm : E0.m <= H.length
theorem BelowO.to {E0 : Env} {w w' : World} (h : BelowO E0 w) (k : Below w.heap.size w w') : BelowO E0 w' :=
 h.next k.os k.tape k.output k.size (λ b hb => k.block b (Env.old_lt h hb))
section
variable {E1 E' : Env} {H' : List LObj}
theorem old_iff (h : ∀ l, E1.loc l = none) (b : Nat) : E1.old b ↔ b < E1.w.heap.size :=
 ⟨λ hb => hb.1, λ hb => ⟨hb, λ ⟨l, L, hL, _⟩ => by rw [h l] at hL; cases hL⟩⟩
theorem Gam.belowN (g : Gam E1 E' H') (h : ∀ l, E1.loc l = none) : Below E1.w.heap.size E1.w E'.w :=
 ⟨g.below.os, g.below.tape, g.below.output, g.below.size, λ k hk => g.below.block k ((old_iff h k).2 hk)⟩
theorem Gam.ownN (g : Gam E1 E' H') (h : ∀ l, E1.loc l = none) (l : Nat) (L : Loc) (hL : E'.loc l = some L) (hc : 0 < L.cap) : E1.w.heap.size <= L.b /\ L.b < E'.w.heap.size /\ ¬ E'.F L.b := by
 have h1 := g.own l L hL hc
 exact ⟨Nat.le_of_not_lt λ hh => h1.1 ((old_iff h _).2 hh), h1.2⟩
theorem Gam.downN (g : Gam E1 E' H') (h : ∀ l, E1.loc l = none) (b : Nat) (hb : E'.F b) : E1.F b ∨ E1.w.heap.size <= b :=
 (g.down b hb).imp id λ hh => Nat.le_of_not_lt λ h2 => hh ((old_iff h _).2 h2)
end
structure GlT where
 av : Nat -> Option AV
def glAv [Inhabited GlT] (g : Nat) : Option AV := (default : GlT).av g
def GloE [Inhabited GlT] (E : Env) : Prop := ∀ g x, glAv g = some x -> E.F g /\ ∃ us : List Value, Rep E.imm us x /\ ∀ i, E.w.cell? ⟨g, i, none⟩ = us[i]?
section glo
variable [Inhabited GlT]
theorem GloE.next {E E' : Env} (h : GloE E) (hF : ∀ b, E.F b -> E'.F b) (hc : ∀ a : Addr, E.F a.block -> E'.w.cell? a = E.w.cell? a) (hi : Ext E.imm E'.imm) : GloE E' := λ g x hx => by
 obtain ⟨h1, us, h2, h3⟩ := h g x hx
 exact ⟨hF g h1, us, h2.mono hi, λ i => by rw [hc ⟨g, i, none⟩ h1]; exact h3 i⟩
theorem GloE.mono {E E' : Env} (h : GloE E) (e : Ext E E') : GloE E' := h.next e.F e.cell e.imm
theorem GloE.at {E : Env} (h : GloE E) {g : Nat} {x : AV} (hx : glAv g = some x) : Rep E [.pointer (some ⟨g, 0, none⟩)] (.ipt x 0 0) := by
 obtain ⟨h1, us, h2, h3⟩ := h g x hx
 have := Rep.ipt (E := E) (x := x) (j := 0) (d := 0) (a := ⟨g, 0, none⟩) (us := us) h1 (λ i u hu => by
  have := h3 i
  rw [hu] at this
  rw [<- this]
  congr 1
  unfold Addr.add
  split <;> simp_all) h2
 exact this
def SlotsOk (E : Env) (tmps : Array Value) (slots : List AV) : Prop :=
 (tmps.size = slots.length /\ GloE E) /\ ∀ (i : Nat) (v : Value) (x : AV), tmps[i]? = some v -> slots[i]? = some x -> RepV E v x
structure GamS (E0 E : Env) (s : St) (a : Act) : Prop extends Gam E0 E s.heap where
 slots : SlotsOk E a.tmps s.slots
theorem SlotsOk.get {E : Env} {tmps : Array Value} {slots : List AV} (h : SlotsOk E tmps slots) (t : Nat) : RepV E (tmps.getD t undef) (slots.getD t .any) := by
 rw [Array.getD_eq_getD_getElem?, List.getD_eq_getElem?_getD]
 rcases Nat.lt_or_ge t tmps.size with hlt | hge
 ·have h2 : t < slots.length := by rw [<- h.1.1]; exact hlt
  have := h.2 t tmps[t] slots[t] (by simp [hlt]) (by simp [h2])
  simpa [hlt, h2] using this
 ·have h2 : slots.length <= t := by rw [<- h.1.1]; exact hge
  simp [h2, RepV, RepV1]
theorem SlotsOk.put {E : Env} {a : Act} {s : St} (h : SlotsOk E a.tmps s.slots) (d : Option Nat) {v : Value} {x : AV} (hx : RepV E v x) : SlotsOk E (a.put d v).tmps (s.put d x).slots := by
 cases d with
 | none => exact h
 | some d =>
  refine ⟨⟨by simp [Act.put, St.put, h.1.1], h.1.2⟩, λ i u y hu hy => ?_⟩
  simp only [Act.put, St.put] at hu hy
  rw [Array.getElem?_setIfInBounds] at hu
  rw [List.getElem?_set] at hy
  by_cases hi : d = i
  ·subst hi
   simp only [if_true] at hu hy
   split at hu <;> simp_all
  ·rw [if_neg hi] at hu hy
   exact h.2 i u y hu hy
theorem SlotsOk.mono {E E' : Env} {tmps : Array Value} {slots : List AV} (h : SlotsOk E tmps slots) (e : Ext E E') : SlotsOk E' tmps slots :=
 ⟨⟨h.1.1, h.1.2.mono e⟩, λ i v x hv hx => (h.2 i v x hv hx).mono e⟩
def avOf : Value -> AV
 | .agg cs => if cs.toList.all (·.oneCell') then .agg (cs.toList.map .pl) else .any
 | .tuple _ => .any
 | v => .pl v
theorem rep_pls {E : Env} : ∀ {us : List Value}, us.all (·.oneCell') = true -> Rep E us (.agg (us.map .pl)) := by
 intro us
 induction us with
 | nil => intro _; exact .nil
 | cons u us ih =>
  intro h
  simp only [List.all_cons, Bool.and_eq_true] at h
  exact Rep.cons (us := [u]) rfl (.pl u h.1) (ih h.2)
theorem repV_avOf (E : Env) (v : Value) : RepV E v (avOf v) := by
 cases v with
 | agg cs =>
  simp only [avOf]
  split
  ·rename_i h
   exact ⟨cs.toList, by simp, rep_pls h⟩
  ·simp [RepV, RepV1]
 | tuple _ => simp [avOf, RepV, RepV1]
 | _ => exact Rep.pl _ rfl
def St.ev (s : St) : Operand -> AV
 | .tmp t => s.get t
 | .const v => avOf v
 | .global g => match glAv g with
  | some x => .ipt x 0 0
  | none => .any
 | .func f => .pl (.func (.func f) #[] #[])
theorem SlotsOk.ev {E : Env} {a : Act} {s : St} (h : SlotsOk E a.tmps s.slots) (x : Operand) : RepV E (a.eval x) (s.ev x) := by
 cases x with
 | tmp t => exact h.get t
 | const v => exact repV_avOf E v
 | global g =>
  simp only [St.ev]
  cases hg : glAv g with
  | some x => exact h.1.2.at hg
  | none => simp [RepV, RepV1]
 | func f => exact Rep.pl _ rfl
end glo
end Go.Am

namespace Go.Am
open Go.RowKit
def aggB (P : Program) (t : TypeId) : Option Bool := match P.underlying t with
 | some (.struct _) => some true
 | some (.array _ _) => some true
 | some _ => some false
 | none => none
def szOf (P : Program) (t : TypeId) : Option Nat := match P.info? t with
 | some i => some i.size
 | none => none
section
variable {P : Program} {w : World}
theorem run_sizeOf {t : TypeId} {z : Nat} (h : szOf P t = some z) : (sizeOf t).run P w = .ok z w := by
 unfold szOf at h
 split at h
 ·rename_i i hi
  injection h with h
  subst h
  simp [sizeOf, typeInfo, hi]
 ·cases h
theorem run_isAgg {t : TypeId} {b : Bool} (h : aggB P t = some b) : (isAgg t).run P w = .ok b w := by
 unfold aggB at h
 split at h <;> first
  |(rename_i hu; injection h with h; subst h; simp [isAgg, run_underlying hu])
  | cases h
  |(rename_i d _ _ hu; injection h with h; subst h; unfold isAgg; rw [Sem.run_bind, run_underlying hu]; cases d <;> simp_all)
def Mem (w : World) (a : Addr) (us : List Value) : Prop := ∀ (i : Nat) (u : Value), us[i]? = some u -> w.cell? (a.add i) = some u
theorem Mem.drop {a : Addr} {us : List Value} (h : Mem w a us) (j : Nat) : Mem w (a.add j) (us.drop j) := λ i u hu => by
 rw [Go.Deep.add_add]
 exact h _ u (by rw [<- hu, List.getElem?_drop])
theorem Mem.take {a : Addr} {us : List Value} (h : Mem w a us) (j : Nat) : Mem w a (us.take j) := λ i u hu => by
 rw [List.getElem?_take] at hu
 split at hu
 ·exact h i u hu
 ·cases hu
theorem takeC_cwL : ∀ {cs : List AV} {j : Nat} {cs' : List AV}, takeC cs j = some cs' -> cwL cs' = j := by
 intro cs
 induction cs with
 | nil =>
  intro j cs' h
  cases j with
  | zero => simp [takeC] at h; subst h; rfl
  | succ j => simp [takeC] at h
 | cons c cs ih =>
  intro j cs' h
  cases j with
  | zero => simp [takeC] at h; subst h; rfl
  | succ j =>
   simp only [takeC] at h
   split at h
   ·cases ht : takeC cs (j + 1 - cw c) with
    | none => simp [ht] at h
    | some c1 => simp [ht] at h; subst h; simp only [cwL, ih ht]; omega
   ·cases h
def loadAV (P : Program) (t : TypeId) (cs : List AV) (j d : Nat) : Option (Prop × AV) :=
 match aggB P t with
 | some true => match szOf P t, dropC cs j, d with
  | some z, some cs1, 0 => match takeC cs1 z with
   | some cs2 => some (True, .agg cs2)
   | none => none
  | _, _, _ => none
 | some false => match dropC cs j with
  | some (.iarr k n f :: _) => some (d < n, .pl (.int k (f d)))
  | some (.agg _ :: _) => none
  | some (.tup _ :: _) => none
  | some (c :: _) => match d with
   | 0 => some (True, c)
   | _ + 1 => none
  | _ => none
 | none => none
theorem repV1_of_one {E : Env} {v : Value} {c : AV} (h : Rep E [v] c) (h1 : ∀ cs, c ≠ .agg cs) (h2 : ∀ k n f, c ≠ .iarr k n f) (h3 : ∀ cs, c ≠ .tup cs) : RepV E v c := by
 cases c <;> first
  | exact absurd rfl (h1 _)
  | exact absurd rfl (h2 _ _ _)
  | exact absurd rfl (h3 _)
  | exact h
  | simp [RepV, RepV1]
theorem run_loadAV {E : Env} {t : TypeId} {cs : List AV} {us : List Value} {a : Addr} {j d : Nat} {p : Prop} {x : AV} {T : World -> Prop} (hm : ∀ w, T w -> Mem w a us) (h : Rep E us (.agg cs))
  (hl : loadAV P t cs j d = some (p, x)) (hp : p) : ∃ v, (∀ w, T w -> (Instr.loadAt t (.pointer (some (a.add (j + d))))).run P w = .ok v w) /\ RepV E v x := by
 unfold loadAV at hl
 split at hl
 ·rename_i hagg
  split at hl
  ·rename_i z cs1 hz hd
   split at hl
   ·rename_i cs2 ht
    simp only [Option.some.injEq, Prod.mk.injEq] at hl
    obtain ⟨_, rfl⟩ := hl
    have h2 := rep_takeC (rep_dropC h hd) ht
    have hlen : ((us.drop j).take z).length = z := by rw [h2.length]; simpa [aw] using takeC_cwL ht
    refine ⟨.agg ((us.drop j).take z).toArray, λ w hw => ?_, _, rfl, h2⟩
    have hc := run_loadCells_list (P := P) w (a.add j) ((us.drop j).take z) (((hm w hw).drop j).take z)
    rw [hlen] at hc
    simp [Instr.loadAt, Instr.sureAddr, loadVar, run_isAgg hagg, run_sizeOf hz, hc]
   ·cases hl
  ·cases hl
 ·rename_i hagg
  have hrun : ∀ v, (∀ w, T w -> w.cell? (a.add (j + d)) = some v) -> ∀ w, T w -> (Instr.loadAt t (.pointer (some (a.add (j + d))))).run P w = .ok v w := by
   intro v hv w hw
   simp [Instr.loadAt, Instr.sureAddr, loadVar, run_isAgg hagg, hv w hw]
  split at hl
  ·rename_i k n f rest hd
   simp only [Option.some.injEq, Prod.mk.injEq] at hl
   obtain ⟨rfl, rfl⟩ := hl
   have h2 := rep_dropC h hd
   obtain ⟨_, h3, _⟩ := h2.cons_inv
   refine ⟨.int k (f d), hrun _ (λ w hw => ?_), Rep.pl _ rfl⟩
   have h4 : ((us.drop j).take n)[d]? = some (.int k (f d)) := by
    exact h3.iarr_inv.2 d hp
   rw [<- Go.Deep.add_add]
   exact ((hm w hw).drop j).take n d _ h4
  ·cases hl
  ·cases hl
  ·rename_i c rest _ _ _ hd
   split at hl
   ·simp only [Option.some.injEq, Prod.mk.injEq] at hl
    obtain ⟨_, rfl⟩ := hl
    have h2 := rep_dropC h hd
    obtain ⟨h3, h4, _⟩ := h2.cons_inv
    have hc1 : cw c = 1 := by cases c <;> simp_all [cw]
    rw [hc1] at h3 h4
    cases hu : us.drop j with
    | nil => rw [hu] at h3; simp at h3
    | cons v vs =>
     rw [hu] at h4
     simp only [List.take_succ_cons, List.take_zero] at h4
     refine ⟨v, hrun v (λ w hw => ?_), repV1_of_one h4 (by simp_all) (by simp_all) (by simp_all)⟩
     have := (hm w hw).drop j 0 v (by simp [hu])
     simpa [Go.Deep.add_add] using this
   ·cases hl
  ·cases hl
 ·cases hl
end
end Go.Am

namespace Go.Am
open Go.RowKit
def fieldOf (P : Program) (t : TypeId) (f : Nat) : Option Field := match P.underlying t with
 | some (.struct fs) => fs[f]?
 | _ => none
def aFieldAddr (P : Program) (t : TypeId) (x : AV) (f : Nat) : Option AV := match fieldOf P t f with
 | some fl => match szOf P fl.type with
  | some (_ + 1) => match x with
   | .ptr l i j 0 => some (.ptr l i (j + fl.offset) 0)
   | .ipt y j 0 => some (.ipt y (j + fl.offset) 0)
   | _ => none
  | _ => none
 | none => none
theorem addr_add (b o n : Nat) : (⟨b, o, none⟩ : Addr).add n = ⟨b, o + n, none⟩ := by
 unfold Addr.add
 split <;> simp_all
section
variable {P : Program} {E : Env}
theorem fieldOf_spec {t : TypeId} {f : Nat} {fl : Field} (h : fieldOf P t f = some fl) : ∃ fs, P.underlying t = some (.struct fs) /\ fs[f]? = some fl := by
 unfold fieldOf at h
 split at h
 ·rename_i fs hu
  exact ⟨fs, hu, h⟩
 ·cases h
theorem run_fieldAddr {t : TypeId} {v : Value} {x y : AV} {f : Nat} (hx : RepV E v x) (h : aFieldAddr P t x f = some y) :
  ∃ v', (∀ w, (Instr.fieldAt t v f).run P w = .ok v' w) /\ RepV E v' y := by
 unfold aFieldAddr at h
 split at h
 ·rename_i fl hf
  obtain ⟨fs, hu, hfs⟩ := fieldOf_spec hf
  split at h
  ·rename_i z hz
   have hne : ∀ w, (sizeOf fl.type).run P w = .ok (z + 1) w := λ w => run_sizeOf hz
   have key : ∀ (a : Addr) (w : World), (Instr.fieldAt t (.pointer (some a)) f).run P w = .ok (.pointer (some (a.add fl.offset))) w := by
    intro a w
    simp [Instr.fieldAt, run_underlying hu, hfs, Instr.sureAddr, fieldPlace, hne]
   split at h
   ·rename_i l i j
    injection h with h
    subst h
    have hx' : Rep E [v] (.ptr l i j 0) := hx
    obtain ⟨L, hL, rfl⟩ := hx'.ptr_inv
    refine ⟨_, key _, ?_⟩
    rw [addr_add]
    have := Rep.ptr (E := E) (i := i) (j := j + fl.offset) (d := 0) hL
    simpa [RepV, RepV1, Nat.add_assoc] using this
   ·rename_i y' j
    injection h with h
    subst h
    have hx' : Rep E [v] (.ipt y' j 0) := hx
    obtain ⟨a, us, hF, hc, hr, rfl⟩ := hx'.ipt_inv
    refine ⟨_, key _, ?_⟩
    rw [Go.Deep.add_add]
    have := Rep.ipt (E := E) (j := j + fl.offset) (d := 0) hF hc hr
    simpa [RepV, RepV1, Nat.add_assoc] using this
   ·cases h
  ·cases h
 ·cases h
def aIndexAddr (P : Program) (H : List LObj) (t : TypeId) (x i : AV) : Option (Prop × AV) := match i with
 | .pl (.int _ m) => match P.underlying t with
  | some (.slice e) => match x with
   | .rows k n f => match szOf P e with
    | some z => if z = k then some (0 <= m /\ m < n, .ipt (f m.toNat) 0 0) else none
    | none => none
   | .own l off len => match H[l]?, szOf P e with
    | some (.row k _ _ _), some z => if z = k then some (0 <= m /\ m < len, .ptr l (off + m.toNat) 0 0) else none
    | some (.prow _ _), some 1 => some (0 <= m /\ m < len, .ptr l (off + m.toNat) 0 0)
    | _, _ => none
   | _ => none
  | some (.array n e) => match x, szOf P e with
   | .ptr l a j 0, some 1 => some (0 <= m /\ m < n, .ptr l a j m.toNat)
   | .ipt y j 0, some 1 => some (0 <= m /\ m < n, .ipt y j m.toNat)
   | _, _ => none
  | _ => none
 | _ => none
theorem repV_int {v : Value} {k : IntKind} {m : Int} (h : RepV E v (.pl (.int k m))) : v = .int k m := by
 have h' : Rep E [v] (.pl (.int k m)) := h
 exact h'.pl_inv
theorem repV_pl {v u : Value} (h : RepV E v (.pl u)) : v = u := by
 have h' : Rep E [v] (.pl u) := h
 exact h'.pl_inv
theorem run_indexAddr {H : List LObj} (hH : ∀ l o, H[l]? = some o -> ObjOk E l o) {t : TypeId} {v u : Value} {x i y : AV} {p : Prop} (hx : RepV E v x) (hi : RepV E u i)
  (h : aIndexAddr P H t x i = some (p, y)) (hp : p) : ∃ v', (∀ w, (Instr.indexAt t v u).run P w = .ok v' w) /\ RepV E v' y := by
 unfold aIndexAddr at h
 split at h
 ·rename_i kk m
  obtain rfl := repV_int hi
  split at h
  ·rename_i e hu
   split at h
   ·rename_i k n f
    split at h
    ·rename_i z hz
     split at h
     ·rename_i hzk
      subst hzk
      simp only [Option.some.injEq, Prod.mk.injEq] at h
      obtain ⟨rfl, rfl⟩ := h
      have hx' : Rep E [v] (.rows z n f) := hx
      obtain ⟨A, cap, us, a, hc, hm, ha, hl, hcell, hr, rfl⟩ := hx'.rows_inv
      obtain ⟨m', rfl⟩ := Int.eq_ofNat_of_zero_le hp.1
      have hlt : m' < n := by have := hp.2; omega
      obtain ⟨rfl, hF⟩ := ha (by omega)
      refine ⟨.pointer (some (a.add (m' * z))), ?_, ?_⟩
      ·simp [Instr.indexAt, asIntOf, run_underlying hu, run_sizeOf hz, hlt]
      ·have := Rep.ipt (E := E) (x := f m') (j := 0) (d := 0) (a := a.add (m' * z)) (us := us m') (by simpa using hF)
        (λ i u hiu => by rw [Go.Deep.add_add]; exact hcell m' hlt i u hiu) (hr m' hlt)
       simpa [RepV, RepV1, Go.Deep.add_add] using this
     ·cases h
    ·cases h
   ·rename_i l off len
    split at h
    ·rename_i k t' n' f' z ho hz
     split at h
     ·rename_i hzk
      subst hzk
      simp only [Option.some.injEq, Prod.mk.injEq] at h
      obtain ⟨rfl, rfl⟩ := h
      obtain ⟨L, hL, _, hLk, _⟩ := hH _ _ ho
      have hx' : Rep E [v] (.own l off len) := hx
      obtain ⟨L', ad, hL', hb, ha, rfl⟩ := hx'.own_inv
      obtain rfl : L = L' := by rw [hL] at hL'; injection hL'
      obtain ⟨m', rfl⟩ := Int.eq_ofNat_of_zero_le hp.1
      have hlt : m' < len := by have := hp.2; omega
      obtain rfl := ha (by omega)
      refine ⟨.pointer (some (⟨L.b, (off + m') * L.k, none⟩)), ?_, ?_⟩
      ·simp [Instr.indexAt, asIntOf, run_underlying hu, run_sizeOf hz, hlt, addr_add, hLk, Nat.add_mul]
      ·have := Rep.ptr (E := E) (i := off + m') (j := 0) (d := 0) hL
       simpa [RepV, RepV1] using this
     ·cases h
    ·rename_i t' cs' ho hz
     simp only [Option.some.injEq, Prod.mk.injEq] at h
     obtain ⟨rfl, rfl⟩ := h
     obtain ⟨L, us, hL, _, hLk, hcap, hn, h0, hg, hr⟩ := hH _ _ ho
     have hx' : Rep E [v] (.own l off len) := hx
     obtain ⟨L', ad, hL', hb, ha, rfl⟩ := hx'.own_inv
     obtain rfl : L = L' := by rw [hL] at hL'; injection hL'
     obtain ⟨m', rfl⟩ := Int.eq_ofNat_of_zero_le hp.1
     have hlt : m' < len := by have := hp.2; omega
     obtain rfl := ha (by omega)
     refine ⟨.pointer (some (⟨L.b, (off + m') * L.k, none⟩)), ?_, ?_⟩
     ·simp [Instr.indexAt, asIntOf, run_underlying hu, run_sizeOf hz, hlt, addr_add, hLk]
     ·have := Rep.ptr (E := E) (i := off + m') (j := 0) (d := 0) hL
      simpa [RepV, RepV1] using this
    ·cases h
   ·cases h
  ·rename_i n e hu
   split at h
   ·rename_i l a j hz
    simp only [Option.some.injEq, Prod.mk.injEq] at h
    obtain ⟨rfl, rfl⟩ := h
    have hx' : Rep E [v] (.ptr l a j 0) := hx
    obtain ⟨L, hL, rfl⟩ := hx'.ptr_inv
    obtain ⟨m', rfl⟩ := Int.eq_ofNat_of_zero_le hp.1
    have hlt : m' < n := by have := hp.2; omega
    refine ⟨.pointer (some (⟨L.b, a * L.k + j + m', none⟩)), ?_, ?_⟩
    ·simp [Instr.indexAt, asIntOf, run_underlying hu, Instr.sureAddr, run_sizeOf hz, hlt, addr_add]
    ·have := Rep.ptr (E := E) (i := a) (j := j) (d := m') hL
     simpa [RepV, RepV1] using this
   ·rename_i y' j hz
    simp only [Option.some.injEq, Prod.mk.injEq] at h
    obtain ⟨rfl, rfl⟩ := h
    have hx' : Rep E [v] (.ipt y' j 0) := hx
    obtain ⟨a, us, hF, hc, hr, rfl⟩ := hx'.ipt_inv
    obtain ⟨m', rfl⟩ := Int.eq_ofNat_of_zero_le hp.1
    have hlt : m' < n := by have := hp.2; omega
    refine ⟨.pointer (some (a.add (j + m'))), ?_, ?_⟩
    ·simp [Instr.indexAt, asIntOf, run_underlying hu, Instr.sureAddr, run_sizeOf hz, hlt, Go.Deep.add_add]
    ·have := Rep.ipt (E := E) (j := j) (d := m') hF hc hr
     simpa [RepV, RepV1] using this
   ·cases h
  ·cases h
 ·cases h
def bnd (x : Option AV) (d : Int) : Option Int := match x with
 | none => some d
 | some (.pl (.int _ m)) => some m
 | some _ => none
def inOwn (hi : Option AV) (off : Nat) (b : Int) (n : Nat) : Prop := match hi with
 | none => True
 | some _ => off + b <= n
def aSlice (P : Program) (H : List LObj) (t : TypeId) (x : AV) (lo hi mx : Option AV) : Option (Prop × AV) :=
 match P.underlying t, x, mx with
 | some .string, .pl (.string s), none => match bnd lo 0, bnd hi s.size with
  | some l, some h => some (0 <= l /\ l <= h /\ h <= s.size, .pl (.string (s.extract l.toNat h.toNat)))
  | _, _ => none
 | some (.slice e), .rows k n f, none => match szOf P e, bnd lo 0, bnd hi n with
  | some z, some l, some h => if z = k then some (0 <= l /\ l <= h /\ h <= n, .rows k (h.toNat - l.toNat) (λ i => f (l.toNat + i))) else none
  | _, _, _ => none
 | some (.slice e), .rows _ _ _, some m => match lo, hi, szOf P e with
  | none, some h, some _ => match m, h with
   | .pl (.int _ 0), .pl (.int _ 0) => some (True, .emp)
   | _, _ => none
  | _, _, _ => none
 | some (.slice e), .own l off len, none => match H[l]?, szOf P e, bnd lo 0, bnd hi len with
  | some (.row k _ n _), some z, some a, some b => if z = k then some (0 <= a /\ a <= b /\ inOwn hi off b n, .own l (off + a.toNat) (b.toNat - a.toNat)) else none
  | _, _, _, _ => none
 | some (.slice e), .own _ _ _, some m => match lo, hi, szOf P e with
  | none, some h, some _ => match m, h with
   | .pl (.int _ 0), .pl (.int _ 0) => some (True, .emp)
   | _, _ => none
  | _, _, _ => none
 | some (.slice e), .emp, none => match szOf P e, bnd lo 0, bnd hi 0 with
  | some _, some l, some h => some (l = 0 /\ h = 0, .emp)
  | _, _, _ => none
 | _, _, _ => none
theorem run_bounds (w : World) (isSlice : Bool) (len cap : Nat) {vlo vhi : Option Value} {l h : Int} (hl : vlo = none /\ l = 0 ∨ ∃ k, vlo = some (.int k l)) (hh : vhi = none /\ h = len ∨ ∃ k, vhi = some (.int k h))
  (h0 : 0 <= l) (h1 : l <= h) (h2 : h <= cap) : (Instr.sliceBounds isSlice len cap vlo vhi none).run P w = .ok (l.toNat, h.toNat, cap) w := by
 obtain ⟨l', rfl⟩ := Int.eq_ofNat_of_zero_le h0
 obtain ⟨h', rfl⟩ := Int.eq_ofNat_of_zero_le (show 0 <= h by omega)
 rcases hl with ⟨rfl, hl⟩ | ⟨k, rfl⟩ <;> rcases hh with ⟨rfl, hh⟩ | ⟨k', rfl⟩
 ·simp only [Instr.sliceBounds]
  have e1 : h' = len := by omega
  have e2 : l' = 0 := by omega
  subst e1 e2
  simp
 ·simp only [Instr.sliceBounds]
  have e2 : l' = 0 := by omega
  subst e2
  have := run_sliceBound (P := P) w k' h' cap (if isSlice = true then .sliceAcap else .sliceAlen) (by omega) h2
  simp [this]
 ·simp only [Instr.sliceBounds]
  have e1 : h' = len := by omega
  subst e1
  have := run_sliceBound (P := P) w k l' h' .sliceB (by omega) (by omega)
  simp [this]
 ·simp only [Instr.sliceBounds]
  have a1 := run_sliceBound (P := P) w k' h' cap (if isSlice = true then .sliceAcap else .sliceAlen) (by omega) h2
  have a2 := run_sliceBound (P := P) w k l' h' .sliceB (by omega) (by omega)
  simp [a1, a2]
end
end Go.Am

namespace Go.Am
open Go.RowKit
section
variable {P : Program} {E : Env}
def OptRep (E : Env) (x : Option AV) (v : Option Value) : Prop := (x = none /\ v = none) ∨ ∃ y u, x = some y /\ v = some u /\ RepV E u y
theorem OptRep.none_ {v : Option Value} (h : OptRep E none v) : v = none := by
 rcases h with ⟨_, h⟩ | ⟨_, _, h, _⟩
 ·exact h
 ·cases h
theorem OptRep.some_ {y : AV} {v : Option Value} (h : OptRep E (some y) v) : ∃ u, v = some u /\ RepV E u y := by
 rcases h with ⟨h, _⟩ | ⟨_, u, h, hv, hr⟩
 ·cases h
 ·injection h with h; subst h; exact ⟨u, hv, hr⟩
theorem bnd_spec {x : Option AV} {v : Option Value} {d m : Int} (hr : OptRep E x v) (h : bnd x d = some m) : (v = none /\ m = d) ∨ ∃ k, v = some (.int k m) := by
 rcases hr with ⟨rfl, rfl⟩ | ⟨y, u, rfl, rfl, hr⟩
 ·simp only [bnd, Option.some.injEq] at h
  exact .inl ⟨rfl, h.symm⟩
 ·unfold bnd at h
  split at h
  ·rename_i hh; cases hh
  ·rename_i k m' hh
   injection hh with hh
   subst hh
   injection h with h
   subst h
   exact .inr ⟨k, by rw [repV_int hr]⟩
  ·cases h
theorem run_slice {H : List LObj} (hH : ∀ l o, H[l]? = some o -> ObjOk E l o) {t : TypeId} {v : Value} {x y : AV} {lo hi mx : Option AV} {vlo vhi vmx : Option Value} {p : Prop}
  (hx : RepV E v x) (h1 : OptRep E lo vlo) (h2 : OptRep E hi vhi) (h3 : OptRep E mx vmx)
  (h : aSlice P H t x lo hi mx = some (p, y)) (hp : p) : ∃ v', (∀ w, (Instr.sliceAt t v vlo vhi vmx).run P w = .ok v' w) /\ RepV E v' y := by
 have hmx0 : mx = none -> vmx = none := by
  intro e
  rcases h3 with ⟨_, h⟩ | ⟨y, u, h, _⟩
  ·exact h
  ·rw [e] at h; cases h
 unfold aSlice at h
 split at h
 ·rename_i s hu
  obtain rfl := hmx0 rfl
  split at h
  ·rename_i l hh hl hhi
   simp only [Option.some.injEq, Prod.mk.injEq] at h
   obtain ⟨rfl, rfl⟩ := h
   obtain rfl := repV_pl hx
   have hb := λ w => run_bounds (P := P) w false s.size s.size (bnd_spec h1 hl) (bnd_spec h2 hhi) hp.1 hp.2.1 hp.2.2
   refine ⟨.string (s.extract l.toNat hh.toNat), ?_, Rep.pl _ rfl⟩
   simp [Instr.sliceAt, run_underlying hu, Instr.slice, hb]
  ·cases h
 ·rename_i e k n f hu
  obtain rfl := hmx0 rfl
  split at h
  ·rename_i z l hh hz hl hhi
   split at h
   ·rename_i hzk
    subst hzk
    simp only [Option.some.injEq, Prod.mk.injEq] at h
    obtain ⟨rfl, rfl⟩ := h
    have hx' : Rep E [v] (.rows z n f) := hx
    obtain ⟨A, cap, us, a, hc, hm, ha, hle, hcell, hr, rfl⟩ := hx'.rows_inv
    have hb := λ w => run_bounds (P := P) w true n cap (bnd_spec h1 hl) (bnd_spec h2 hhi) hp.1 hp.2.1 (by omega)
    obtain ⟨l', rfl⟩ := Int.eq_ofNat_of_zero_le hp.1
    obtain ⟨h', rfl⟩ := Int.eq_ofNat_of_zero_le (show 0 <= hh by omega)
    have hlh : l' <= h' := by have := hp.2.1; omega
    have hhn : h' <= n := by have := hp.2.2; omega
    simp only [Int.toNat_natCast] at hb ⊢
    refine ⟨.slice (if cap = l' then A else A.map (·.add (l' * z))) (h' - l') (cap - l'), ?_, ?_⟩
    ·simp [Instr.sliceAt, run_underlying hu, Instr.slice, hb, run_sizeOf hz]
    ·refine Rep.rows (us := λ i => us (l' + i)) (a := a.add (l' * z)) (by omega) (by omega) (λ hpos => ?_) (λ i hi => hle _ (by omega)) (λ i hi j u hju => ?_) (λ i hi => hr _ (by omega))
     ·obtain ⟨rfl, hF⟩ := ha (by omega)
      rw [if_neg (by omega)]
      exact ⟨rfl, by simpa using hF⟩
     ·rw [Go.Deep.add_add]
      have := hcell (l' + i) (by omega) j u hju
      rwa [Nat.add_mul, Nat.add_assoc] at this
   ·cases h
  ·cases h
 ·rename_i e k n f kk hu
  split at h
  ·rename_i hh z hz
   split at h
   case h_2 => cases h
   simp only [Option.some.injEq, Prod.mk.injEq] at h
   obtain ⟨_, rfl⟩ := h
   have hx' : Rep E [v] (.rows k n f) := hx
   obtain ⟨A, cap, us, a, hc, hm, ha, hle, hcell, hr, rfl⟩ := hx'.rows_inv
   obtain rfl := h1.none_
   obtain ⟨u2, rfl, hr2⟩ := h2.some_
   obtain ⟨u3, rfl, hr3⟩ := h3.some_
   obtain rfl := repV_int hr2
   obtain rfl := repV_int hr3
   refine ⟨.slice A 0 0, ?_, .emp A⟩
   simp [Instr.sliceAt, run_underlying hu, Instr.slice, Instr.sliceBounds, Instr.sliceBound, asIntOf, run_sizeOf hz]
  ·cases h
 ·rename_i e l off len hu
  obtain rfl := hmx0 rfl
  split at h
  ·rename_i k t' n f z a b ho hz hl hhi
   split at h
   ·rename_i hzk
    subst hzk
    simp only [Option.some.injEq, Prod.mk.injEq] at h
    obtain ⟨rfl, rfl⟩ := h
    obtain ⟨L, hL, _, hLk, hn, hmax, _⟩ := hH _ _ ho
    have hx' : Rep E [v] (.own l off len) := hx
    obtain ⟨L', ad, hL', hb', ha, rfl⟩ := hx'.own_inv
    obtain rfl : L = L' := by rw [hL] at hL'; injection hL'
    have hlc : (off : Int) + b <= L.cap := by
     have hin := hp.2.2
     cases hi with
     | none =>
      simp only [bnd, Option.some.injEq] at hhi
      omega
     | some _ => simp only [inOwn] at hin; omega
    have hb := λ w => run_bounds (P := P) w true len (L.cap - off) (bnd_spec h1 hl) (bnd_spec h2 hhi) hp.1 hp.2.1 (by omega)
    obtain ⟨a', rfl⟩ := Int.eq_ofNat_of_zero_le hp.1
    obtain ⟨b', rfl⟩ := Int.eq_ofNat_of_zero_le (show 0 <= b by omega)
    have hab : a' <= b' := by have := hp.2.1; omega
    have hbn : off + b' <= L.cap := by omega
    simp only [Int.toNat_natCast] at hb ⊢
    refine ⟨.slice (if L.cap - off = a' then ad else ad.map (·.add (a' * z))) (b' - a') (L.cap - off - a'), ?_, ?_⟩
    ·simp [Instr.sliceAt, run_underlying hu, Instr.slice, hb, run_sizeOf hz]
    ·rw [show L.cap - off - a' = L.cap - (off + a') by omega]
     refine Rep.own hL (by omega) (λ hlt => ?_)
     rw [if_neg (by omega), ha (by omega), Option.map_some, addr_add, hLk, Nat.add_mul]
   ·cases h
  ·cases h
 ·rename_i e l off len kk hu
  split at h
  ·rename_i hh z hz
   split at h
   case h_2 => cases h
   simp only [Option.some.injEq, Prod.mk.injEq] at h
   obtain ⟨_, rfl⟩ := h
   have hx' : Rep E [v] (.own l off len) := hx
   obtain ⟨L, ad, hL, hb', ha, rfl⟩ := hx'.own_inv
   obtain rfl := h1.none_
   obtain ⟨u2, rfl, hr2⟩ := h2.some_
   obtain ⟨u3, rfl, hr3⟩ := h3.some_
   obtain rfl := repV_int hr2
   obtain rfl := repV_int hr3
   refine ⟨.slice ad 0 0, ?_, .emp _⟩
   simp [Instr.sliceAt, run_underlying hu, Instr.slice, Instr.sliceBounds, Instr.sliceBound, asIntOf, run_sizeOf hz]
  ·cases h
 ·rename_i e hu
  obtain rfl := hmx0 rfl
  split at h
  ·rename_i z l hh hz hl hhi
   simp only [Option.some.injEq, Prod.mk.injEq] at h
   obtain ⟨rfl, rfl⟩ := h
   have hx' : Rep E [v] .emp := hx
   obtain ⟨A, rfl⟩ := hx'.emp_inv
   obtain ⟨rfl, rfl⟩ := hp
   have hb := λ w => run_bounds (P := P) w true 0 0 (bnd_spec h1 hl) (bnd_spec h2 hhi) (by omega) (by omega) (by omega)
   refine ⟨.slice A 0 0, ?_, .emp _⟩
   simp [Instr.sliceAt, run_underlying hu, Instr.slice, hb, run_sizeOf hz]
  ·cases h
 ·cases h
def aLen (P : Program) (t : TypeId) (x : AV) : Option Int := match P.underlying t with
 | some .string => match x with
  | .pl (.string s) => some s.size
  | _ => none
 | some (.array n _) => some n
 | some (.slice _) => match x with
  | .rows _ n _ => some n
  | .own _ _ n => some n
  | .emp => some 0
  | .pl (.slice _ n _) => some n
  | _ => none
 | _ => none
theorem run_len {t ty : TypeId} {v : Value} {x : AV} {m : Int} (hx : RepV E v x) (h : aLen P t x = some m) : ∀ w, (Builtin.len_ #[t] ty #[v]).run P w = .ok (.int .i64 m) w := by
 unfold aLen at h
 split at h
 ·rename_i hu
  split at h
  ·injection h with h
   subst h
   obtain rfl := repV_pl hx
   simp [Builtin.len_, run_underlying hu, goInt]
  ·cases h
 ·rename_i n e hu
  injection h with h
  subst h
  simp [Builtin.len_, run_underlying hu, goInt]
 ·rename_i e hu
  have key : ∀ A n c w, (Builtin.len_ #[t] ty #[.slice A n c]).run P w = .ok (.int .i64 n) w := by
   intro A n c w
   simp [Builtin.len_, run_underlying hu, goInt]
  split at h
  ·rename_i k n f
   injection h with h
   subst h
   have hx' : Rep E [v] (.rows k n f) := hx
   obtain ⟨A, cap, us, a, _, _, _, _, _, _, rfl⟩ := hx'.rows_inv
   exact key _ _ _
  ·rename_i l off n
   injection h with h
   subst h
   have hx' : Rep E [v] (.own l off n) := hx
   obtain ⟨L, ad, _, _, _, rfl⟩ := hx'.own_inv
   exact key _ _ _
  ·injection h with h
   subst h
   have hx' : Rep E [v] .emp := hx
   obtain ⟨A, rfl⟩ := hx'.emp_inv
   exact key _ _ _
  ·injection h with h
   subst h
   obtain rfl := repV_pl hx
   exact key _ _ _
  ·cases h
 ·cases h
def cmpInt : BinOp -> Int -> Int -> Option Bool
 | .eql, a, b => some (a == b)
 | .neq, a, b => some (a != b)
 | .lss, a, b => some (decide (a < b))
 | .leq, a, b => some (decide (a <= b))
 | .gtr, a, b => some (decide (a > b))
 | .geq, a, b => some (decide (a ≥ b))
 | _, _, _ => none
def arInt : BinOp -> IntKind -> Int -> Int -> Option Int
 | .add, k, a, b => some (k.wrap (a + b))
 | .sub, k, a, b => some (k.wrap (a - b))
 | .mul, k, a, b => some (k.wrap (a * b))
 | .quo, k, a, .ofNat (n + 1) => some (k.wrap (a.tdiv (Int.ofNat (n + 1))))
 | .rem, _, a, .ofNat (n + 1) => some (a.tmod (Int.ofNat (n + 1)))
 | .and, k, a, b => some (k.wrap (BitVec.ofInt k.bits a &&& BitVec.ofInt k.bits b).toNat)
 | .or, k, a, b => some (k.wrap (BitVec.ofInt k.bits a ||| BitVec.ofInt k.bits b).toNat)
 | .xor, k, a, b => some (k.wrap (BitVec.ofInt k.bits a ^^^ BitVec.ofInt k.bits b).toNat)
 | .andNot, k, a, b => some (k.wrap (BitVec.ofInt k.bits a &&& ~~~(BitVec.ofInt k.bits b)).toNat)
 | _, _, _, _ => none
def shInt : BinOp -> IntKind -> Int -> Int -> Option Int
 | .shr, k, a, .ofNat n => some (a.fdiv (2 ^ (min n k.bits)))
 | .shl, k, a, .ofNat n => some (k.wrap (a * 2 ^ (min n k.bits)))
 | _, _, _, _ => none
def cmpStr : BinOp -> ByteArray -> ByteArray -> Option Bool
 | .eql, a, b => some (a.toList == b.toList)
 | .neq, a, b => some (!(a.toList == b.toList))
 | .lss, a, b => some (Op.bytesLess a.toList b.toList)
 | .leq, a, b => some (Op.bytesLess a.toList b.toList || a.toList == b.toList)
 | .gtr, a, b => some (!(Op.bytesLess a.toList b.toList || a.toList == b.toList))
 | .geq, a, b => some (!(Op.bytesLess a.toList b.toList))
 | _, _, _ => none
theorem run_cmpInt {op : BinOp} {t : TypeId} {k : IntKind} {a b : Int} {r : Bool} (h : cmpInt op a b = some r) (w : World) : (binOp op t (.int k a) (.int k b)).run P w = .ok (.bool r) w := by
 cases op <;> simp [cmpInt] at h <;> subst h <;> simp [binOp, Op.intCmp]
theorem run_arInt {op : BinOp} {t : TypeId} {k : IntKind} {a b n : Int} (h : arInt op k a b = some n) (w : World) : (binOp op t (.int k a) (.int k b)).run P w = .ok (.int k n) w := by
 cases op
 case quo =>
  match b, h with
  | .ofNat (m + 1), h =>
   simp only [arInt, Option.some.injEq] at h
   subst h
   have : ¬ ((m : Int) + 1 = 0) := by omega
   simp [binOp, Op.intDiv, this]
  | .ofNat 0, h => simp [arInt] at h
  | .negSucc m, h => simp [arInt] at h
 case rem =>
  match b, h with
  | .ofNat (m + 1), h =>
   simp only [arInt, Option.some.injEq] at h
   subst h
   have : ¬ ((m : Int) + 1 = 0) := by omega
   simp [binOp, Op.intDiv, this]
  | .ofNat 0, h => simp [arInt] at h
  | .negSucc m, h => simp [arInt] at h
 all_goals (simp [arInt] at h; try (subst h; simp [binOp, Op.intArith, Op.intBits]))
theorem run_shInt {op : BinOp} {t : TypeId} {k k' : IntKind} {a b n : Int} (h : shInt op k a b = some n) (w : World) : (binOp op t (.int k a) (.int k' b)).run P w = .ok (.int k n) w := by
 match op, b, h with
 | .shr, .ofNat m, h =>
  simp only [shInt, Option.some.injEq] at h
  subst h
  simp [binOp, Op.shift]
  omega
 | .shl, .ofNat m, h =>
  simp only [shInt, Option.some.injEq] at h
  subst h
  simp [binOp, Op.shift]
  omega
theorem run_cmpStr {op : BinOp} {t : TypeId} {a b : ByteArray} {r : Bool} (h : cmpStr op a b = some r) (w : World) : (binOp op t (.string a) (.string b)).run P w = .ok (.bool r) w := by
 cases op <;> simp only [cmpStr, Option.some.injEq, reduceCtorEq] at h <;> subst h <;> simp [binOp, Op.stringOp]
theorem run_eqGuard_cells {op : BinOp} {t : TypeId} {x y : Operand} {u v : Value} (hu : u.oneCell' = true) (hn : u ≠ .nilIface) (w : World) : (eqGuard op t x y u v).run P w = .ok () w := by
 cases op <;> cases u <;> simp_all [eqGuard, Value.oneCell']
end
end Go.Am

namespace Go.Am
open Go.RowKit
section
variable {P : Program} {E : Env}
def subC (cs : List AV) (off z : Nat) : Option (List AV) := match dropC cs off with
 | some c1 => takeC c1 z
 | none => none
theorem rep_subC {us : List Value} {cs cs' : List AV} {off z : Nat} (h : Rep E us (.agg cs)) (hs : subC cs off z = some cs') : Rep E ((us.drop off).take z) (.agg cs') /\ ((us.drop off).take z).length = z := by
 unfold subC at hs
 split at hs
 ·rename_i c1 hd
  have h2 := rep_takeC (rep_dropC h hd) hs
  exact ⟨h2, by rw [h2.length]; simpa [aw] using takeC_cwL hs⟩
 ·cases hs
def eqLeaf : TypeDesc -> AV -> AV -> Option Bool
 | .int _, .pl (.int k a), .pl (.int k' b) => if k = k' then some (a == b) else none
 | .string, .pl (.string a), .pl (.string b) => some (a.toList == b.toList)
 | .bool, .pl (.bool a), .pl (.bool b) => some (a == b)
 | _, _, _ => none
def eqOne (d : TypeDesc) : List AV -> List AV -> Option Bool
 | [x], [y] => eqLeaf d x y
 | _, _ => none
theorem eqOne_spec {d : TypeDesc} {xs ys : List AV} {r : Bool} (h : eqOne d xs ys = some r) : ∃ x y, xs = [x] /\ ys = [y] /\ eqLeaf d x y = some r := by
 unfold eqOne at h
 split at h
 ·exact ⟨_, _, rfl, rfl, h⟩
 ·cases h
def eqT (P : Program) : Nat -> TypeId -> List AV -> List AV -> Option Bool
 | 0, _, _, _ => none
 | fuel + 1, t, xs, ys => match P.underlying t with
  | some (.struct fs) => if P.stoodInHeld t then none else
    fs.toList.foldr (λ f acc => if f.name = "_" then acc else match szOf P f.type with
     | some z => match subC xs f.offset z, subC ys f.offset z with
      | some a, some b => match eqT P fuel f.type a b, acc with
       | some r, some s => some (r && s)
       | _, _ => none
      | _, _ => none
     | none => none) (some true)
  | some (.array len e) => match P.underlying e, szOf P e, xs, ys with
   | some (.int _), some 1, [.iarr k n f], [.iarr k' n' g] => if k = k' /\ n = len /\ n' = len /\ 0 < fuel then some ((List.range n).all λ i => f i == g i) else none
   | _, _, _, _ => none
  | some d => eqOne d xs ys
  | none => none
theorem run_part_agg {w : World} {t : TypeId} {z : Nat} (hz : szOf P t = some z) (ha : aggB P t = some true) (us : List Value) (off : Nat) : (part t us.toArray off).run P w = .ok (.agg ((us.drop off).take z).toArray) w := by
 simp [part, run_isAgg ha, run_sizeOf hz, List.extract_toArray, List.extract_eq_take_drop]
theorem run_part_cell {w : World} {t : TypeId} (ha : aggB P t = some false) (us : List Value) (off : Nat) (u : Value) (hu : us[off]? = some u) : (part t us.toArray off).run P w = .ok u w := by
 simp [part, run_isAgg ha, hu]
theorem rep_single_inv {us : List Value} {x : AV} (h : Rep E us (.agg [x])) (hx : cw x = 1) : ∃ u, us = [u] /\ Rep E [u] x := by
 obtain ⟨h1, h2, h3⟩ := h.cons_inv
 rw [hx] at h1 h2 h3
 have h4 := h3.nil_inv
 cases us with
 | nil => simp at h1
 | cons u us =>
  simp at h4 h2
  subst h4
  exact ⟨u, rfl, h2⟩
theorem run_eqLeaf {d : TypeDesc} {t : TypeId} (hu : P.underlying t = some d) {x y : AV} {u v : Value} {b : Bool} (h : eqLeaf d x y = some b) (hx : Rep E [u] x) (hy : Rep E [v] y) (n : Nat) (w : World) :
  (Op.equalIn (n + 1) t u v).run P w = .ok b w := by
 unfold eqLeaf at h
 split at h
 ·split at h
  ·rename_i hk
   subst hk
   injection h with h
   subst h
   obtain rfl := hx.pl_inv
   obtain rfl := hy.pl_inv
   simp [Op.equalIn, run_underlying hu]
  ·cases h
 ·injection h with h
  subst h
  obtain rfl := hx.pl_inv
  obtain rfl := hy.pl_inv
  exact run_equalIn_string w n t _ _ hu
 ·injection h with h
  subst h
  obtain rfl := hx.pl_inv
  obtain rfl := hy.pl_inv
  simp [Op.equalIn, run_underlying hu]
 ·cases h
end
theorem run_eqArr {P : Program} {t e : TypeId} {ki : IntKind} {len D : Nat} (hu : P.underlying t = some (.array len e)) (he : P.underlying e = some (.int ki)) (hz : szOf P e = some 1) (k : IntKind) (f g : Nat -> Int) (us vs : List Value)
  (hus : ∀ i, i < len -> us[i]? = some (.int k (f i))) (hvs : ∀ i, i < len -> vs[i]? = some (.int k (g i))) (w : World) (hD : ∀ a b, (Op.equalIn D e (.int k a) (.int k b)).run P w = .ok (a == b) w) :
  (Op.equalIn (D + 1) t (.agg us.toArray) (.agg vs.toArray)).run P w = .ok ((List.range len).all λ i => f i == g i) w := by
 have ha : aggB P e = some false := by simp [aggB, he]
 have key : ∀ (n m : Nat), m + n <= len -> (forIn (m := Sem) (List.range' m n) ((none : Option Bool), ()) (λ i __s => do
   let a ← part e us.toArray (i * 1)
   let b ← part e vs.toArray (i * 1)
   let r ← Op.equalIn D e a b
   if (!r) = true then pure (ForInStep.done (some false, ())) else pure (ForInStep.yield (none, ())))).run P w =
    Result.ok (if ((List.range' m n).all λ i => f i == g i) then (none, ()) else (some false, ())) w := by
  intro n
  induction n with
  | zero => intro m _; simp
  | succ n ih =>
   intro m hm
   have h1 := run_part_cell (P := P) (w := w) ha us m _ (hus m (by omega))
   have h2 := run_part_cell (P := P) (w := w) ha vs m _ (hvs m (by omega))
   have h3 := hD (f m) (g m)
   simp only [List.range'_succ, List.forIn_cons, Nat.mul_one, Sem.run_bind, h1, h2, h3, Result.andThen_ok, List.all_cons]
   by_cases hfg : f m == g m
   ·simp only [hfg, Bool.not_true, Bool.false_eq_true, if_false, Sem.run_pure, Result.andThen_ok, Bool.true_and]
    have := ih (m + 1) (by omega)
    simp only [Nat.mul_one] at this
    exact this
   ·simp [hfg]
 have hk := key len 0 (by omega)
 have h1 := run_sizeOf (w := w) hz
 simp only [Op.equalIn, Sem.run_bind, run_underlying hu, Result.andThen_ok, h1]
 rw [Std.Legacy.Range.forIn_eq_forIn_range']
 simp only [Std.Legacy.Range.size, Nat.sub_zero, Nat.add_sub_cancel, Nat.div_one]
 rw [hk]
 rw [List.range_eq_range']
 split <;> simp_all
theorem eqT_none {P : Program} {fuel : Nat} {t : TypeId} {xs ys : List AV} (h : aggB P t = none) : eqT P fuel t xs ys = none := by
 cases fuel with
 | zero => rfl
 | succ fuel =>
  unfold aggB at h
  split at h
  ·cases h
  ·cases h
  ·cases h
  ·rename_i hu; simp [eqT, hu]
theorem eqT_leaf {P : Program} {fuel : Nat} {t : TypeId} {xs ys : List AV} {r : Bool} (h : aggB P t = some false) (hr : eqT P fuel t xs ys = some r) :
  ∃ d x y, P.underlying t = some d /\ xs = [x] /\ ys = [y] /\ eqLeaf d x y = some r := by
 cases fuel with
 | zero => simp [eqT] at hr
 | succ fuel =>
  cases hu : P.underlying t with
  | none => simp [aggB, hu] at h
  | some d =>
   cases d <;> first
    |(simp [aggB, hu] at h; done)
    |(simp only [eqT, hu] at hr; obtain ⟨x, y, h1, h2, h3⟩ := eqOne_spec hr; exact ⟨_, x, y, rfl, h1, h2, h3⟩)
theorem run_eqT {P : Program} {E : Env} : ∀ {fuel : Nat} {t : TypeId} {xs ys : List AV} {us vs : List Value} {b : Bool} {u v : Value} (_ : eqT P fuel t xs ys = some b) (_ : Rep E us (.agg xs)) (_ : Rep E vs (.agg ys))
  (_ : if aggB P t = some true then u = .agg us.toArray /\ v = .agg vs.toArray else us = [u] /\ vs = [v]) (n : Nat) (w : World), fuel <= n -> (Op.equalIn n t u v).run P w = .ok b w := by
 intro fuel
 induction fuel with
 | zero => intro t xs ys us vs b u v h; simp [eqT] at h
 | succ fuel ih =>
  intro t xs ys us vs b u v h hx hy huv n w hn
  obtain ⟨n, rfl⟩ : ∃ m, n = m + 1 := ⟨n - 1, by omega⟩
  simp only [eqT] at h
  split at h
  ·rename_i fs hu
   have hagg : aggB P t = some true := by simp [aggB, hu]
   rw [if_pos hagg] at huv
   obtain ⟨rfl, rfl⟩ := huv
   split at h
   ·cases h
   ·rename_i hst
    have hfs : P.underlying t = some (.struct (P.fieldsOf t)) := by simp [Program.fieldsOf, hu]
    have e1 : P.fieldsOf t = fs := by simp [Program.fieldsOf, hu]
    rw [run_equalIn_struct w n t _ _ hfs (by simpa using hst), e1]
    clear hfs e1 hst hu
    revert h
    generalize fs.toList = l
    intro h
    induction l generalizing b with
    | nil =>
     simp at h
     subst h
     simp [Op.eqFields]
    | cons f l ihl =>
     simp only [List.foldr_cons] at h
     simp only [Op.eqFields]
     by_cases hf : f.name = "_"
     ·rw [if_pos hf] at h
      simp only [hf, ne_eq, not_true_eq_false, if_false]
      exact ihl h
     ·rw [if_neg hf] at h
      simp only [ne_eq, hf, not_false_eq_true, if_true]
      split at h
      ·rename_i z hz
       split at h
       ·rename_i a b' hsa hsb
        split at h
        ·rename_i r s hr hs
         injection h with h
         subst h
         obtain ⟨ra, la⟩ := rep_subC hx hsa
         obtain ⟨rb, lb⟩ := rep_subC hy hsb
         have hrest := ihl hs
         have hpart : ∃ (u' v' : Value), (part f.type us.toArray f.offset).run P w = .ok u' w /\ (part f.type vs.toArray f.offset).run P w = .ok v' w /\ (Op.equalIn n f.type u' v').run P w = .ok r w := by
          by_cases hag : aggB P f.type = some true
          ·exact ⟨_, _, run_part_agg hz hag us f.offset, run_part_agg hz hag vs f.offset, ih hr ra rb (by rw [if_pos hag]; exact ⟨rfl, rfl⟩) n w (by omega)⟩
          ·cases hag2 : aggB P f.type with
           | none => exact absurd hr (by rw [eqT_none hag2]; simp)
           | some bb =>
            cases bb with
            | true => exact absurd hag2 hag
            | false =>
             obtain ⟨d, x, y, _, rfl, rfl, hlf⟩ := eqT_leaf hag2 hr
             have cx : cw x = 1 := by unfold eqLeaf at hlf; split at hlf <;> first | rfl | cases hlf
             have cy : cw y = 1 := by unfold eqLeaf at hlf; split at hlf <;> first | rfl | cases hlf
             obtain ⟨u', hu', _⟩ := rep_single_inv ra cx
             obtain ⟨v', hv', _⟩ := rep_single_inv rb cy
             have hz1 : z = 1 := by rw [hu'] at la; simpa using la.symm
             subst hz1
             have e1 : us[f.offset]? = some u' := by
              have := congrArg (λ l => l[0]?) hu'
              simpa [List.getElem?_take, List.getElem?_drop] using this
             have e2 : vs[f.offset]? = some v' := by
              have := congrArg (λ l => l[0]?) hv'
              simpa [List.getElem?_take, List.getElem?_drop] using this
             exact ⟨u', v', run_part_cell hag2 us _ _ e1, run_part_cell hag2 vs _ _ e2, ih hr ra rb (by rw [if_neg hag]; exact ⟨hu', hv'⟩) n w (by omega)⟩
         obtain ⟨u', v', p1, p2, p3⟩ := hpart
         simp only [Sem.run_bind, p1, p2, p3, Result.andThen_ok, Sem.run_ite]
         cases r
         ·simp
         ·simpa using hrest
        ·cases h
       ·cases h
      ·cases h
  ·rename_i len e hu
   have hagg : aggB P t = some true := by simp [aggB, hu]
   rw [if_pos hagg] at huv
   obtain ⟨rfl, rfl⟩ := huv
   split at h
   ·rename_i ki k m f k' m' g he hz
    split at h
    ·rename_i hc
     obtain ⟨rfl, rfl, rfl, hfuel⟩ := hc
     injection h with h
     subst h
     obtain ⟨_, hx2, hx3⟩ := hx.cons_inv
     obtain ⟨_, hy2, hy3⟩ := hy.cons_inv
     have hx4 := hx2.iarr_inv.2
     have hy4 := hy2.iarr_inv.2
     refine run_eqArr hu he hz k f g us vs (λ i hi => ?_) (λ i hi => ?_) w (λ a b => ?_)
     ·have := hx4 i hi; rw [List.getElem?_take] at this; split at this <;> simp_all
     ·have := hy4 i hi; rw [List.getElem?_take] at this; split at this <;> simp_all
     ·obtain ⟨m, rfl⟩ : ∃ m, n = m + 1 := ⟨n - 1, by omega⟩
      simp [Op.equalIn, run_underlying he]
    ·cases h
   ·cases h
  ·rename_i d hd1 hd2 hd
   have hagg : ¬ aggB P t = some true := by
    unfold aggB
    rw [hd]
    cases d <;> simp_all
   rw [if_neg hagg] at huv
   obtain ⟨rfl, rfl⟩ := huv
   obtain ⟨x, y, rfl, rfl, hlf⟩ := eqOne_spec h
   have cx : cw x = 1 /\ cw y = 1 := by unfold eqLeaf at hlf; split at hlf <;> first | exact ⟨rfl, rfl⟩ | cases hlf
   obtain ⟨u', hu', rx⟩ := rep_single_inv hx cx.1
   obtain ⟨v', hv', ry⟩ := rep_single_inv hy cx.2
   injection hu' with hu'
   injection hv' with hv'
   subst hu' hv'
   exact run_eqLeaf hd hlf rx ry n w
  ·cases h
end Go.Am

namespace Go.Am
open Go.RowKit
def plEq : Value -> Value -> Bool
 | .int k a, .int k' b => decide (k = k') && a == b
 | .bool a, .bool b => a == b
 | .string a, .string b => a.data.toList == b.data.toList
 | .float k a, .float k' b => decide (k = k') && a == b
 | .pointer none, .pointer none => true
 | .slice none 0 0, .slice none 0 0 => true
 | .map none, .map none => true
 | .nilFunc, .nilFunc => true
 | .nilIface, .nilIface => true
 | _, _ => false
theorem plEq_spec {v u : Value} (h : plEq v u = true) : v = u /\ u.oneCell' = true := by
 unfold plEq at h
 split at h <;> first
  |(cases h; done)
  |(simp only [Bool.and_eq_true, decide_eq_true_eq, beq_iff_eq] at h; obtain ⟨rfl, rfl⟩ := h; exact ⟨rfl, rfl⟩)
  |(simp only [beq_iff_eq] at h; subst h; exact ⟨rfl, rfl⟩)
  | exact ⟨rfl, rfl⟩
  |(rename_i a b; simp only [beq_iff_eq] at h; obtain ⟨⟨a⟩⟩ := a; obtain ⟨⟨b⟩⟩ := b; simp only at h; subst h; exact ⟨rfl, rfl⟩)
def matchCells : List AV -> List Value -> Bool
 | [], [] => true
 | .iarr k n f :: cs, us => decide (n <= us.length) && ((List.range n).all λ i => plEq (.int k (f i)) (us.getD i .nilFunc)) && matchCells cs (us.drop n)
 | .pl v :: cs, u :: us => plEq v u && matchCells cs us
 | _, _ => false
theorem rep_matchCells {E : Env} : ∀ {cs : List AV} {us : List Value}, matchCells cs us = true -> Rep E us (.agg cs) := by
 intro cs
 induction cs with
 | nil => intro us h; cases us with
  | nil => exact .nil
  | cons u us => simp [matchCells] at h
 | cons c cs ih =>
  intro us h
  cases c with
  | iarr k n f =>
   simp only [matchCells, Bool.and_eq_true, decide_eq_true_eq, List.all_eq_true, List.mem_range] at h
   obtain ⟨⟨h1, h2⟩, h3⟩ := h
   have := Rep.cons (us := us.take n) (c := .iarr k n f) (by simp [cw]; omega) (.iarr (by simp; omega) (λ i hi => by
    have h4 := (plEq_spec (h2 i hi)).1
    have hlt : i < us.length := by omega
    rw [List.getElem?_take, if_pos hi, h4]
    simp [List.getD_eq_getElem?_getD, hlt])) (ih h3)
   rwa [List.take_append_drop] at this
  | pl v =>
   cases us with
   | nil => simp [matchCells] at h
   | cons u us =>
    simp only [matchCells, Bool.and_eq_true] at h
    obtain ⟨rfl, ho⟩ := plEq_spec h.1
    exact Rep.cons (us := [v]) rfl (.pl v ho) (ih h.2)
  | _ => cases us <;> simp [matchCells] at h
def zeroC (P : Program) : Nat -> TypeId -> Option (List AV)
 | 0, _ => none
 | fuel + 1, t => match P.underlying t with
  | some (.struct fs) => fs.toList.foldr (λ f acc => match zeroC P fuel f.type, acc with
   | some a, some b => some (a ++ b)
   | _, _ => none) (some [])
  | some (.array n e) => match P.underlying e with
   | some (.int k) => some [.iarr k n λ _ => 0]
   | some .string => some (List.replicate n (.pl (.string ByteArray.empty)))
   | _ => none
  | some _ => match P.info? t with
   | some i => match i.zero with
    | some v => some [avOf v]
    | none => none
   | none => none
  | none => none
def zeroAV (P : Program) (t : TypeId) : Option (List AV) := match P.info? t with
 | some i => match i.zero, zeroC P 8 t with
  | some z, some cs => if matchCells cs z.cells.toList then some cs else none
  | _, _ => none
 | none => none
section
variable {P : Program} {E : Env}
theorem run_zeroAV' {t : TypeId} {cs : List AV} (h : zeroAV P t = some cs) : ∃ z : Value, (∀ w, (zeroValue t).run P w = .ok z w) /\ Rep E z.cells.toList (.agg cs) := by
 unfold zeroAV at h
 split at h
 ·rename_i i hi
  split at h
  ·rename_i z cs' hz hc
   split at h
   ·rename_i hm
    injection h with h
    subst h
    refine ⟨z, ?_, rep_matchCells hm⟩
    simp [zeroValue, typeInfo, hi, hz]
   ·cases h
  ·cases h
 ·cases h
theorem run_zeroAV {t : TypeId} {cs : List AV} (h : zeroAV P t = some cs) (w : World) : ∃ z : Value, (zeroValue t).run P w = .ok z w /\ Rep E z.cells.toList (.agg cs) := by
 obtain ⟨z, h1, h2⟩ := run_zeroAV' (E := E) h
 exact ⟨z, h1 w, h2⟩
def placeOf (P : Program) (t : TypeId) (i : Nat) : Option (Nat × Nat) := match P.underlying t with
 | some (.struct fs) => match fs[i]? with
  | some f => match szOf P f.type with
   | some z => some (f.offset, z)
   | none => none
  | none => none
 | some (.array _ e) => match szOf P e with
  | some z => some (i * z, z)
  | none => none
 | _ => none
def spliceC (cs : List AV) (off : Nat) (new : List AV) (z : Nat) : Option (List AV) := match takeC cs off, dropC cs (off + z) with
 | some a, some b => if cwL new = z then some (a ++ (new ++ b)) else none
 | _, _ => none
theorem rep_splice {us ns : List Value} {cs new cs' : List AV} {off z : Nat} (h : Rep E us (.agg cs)) (hn : Rep E ns (.agg new)) (hs : spliceC cs off new z = some cs') :
  Rep E (us.take off ++ (ns ++ us.drop (off + z))) (.agg cs') /\ ns.length = z /\ off + z <= us.length := by
 unfold spliceC at hs
 split at hs
 ·rename_i a b ha hb
  split at hs
  ·rename_i hz
   injection hs with hs
   subst hs
   have hlen : ns.length = z := by rw [hn.length]; exact hz
   refine ⟨rep_append (rep_append (rep_dropC h hb) hn) (rep_takeC h ha), hlen, ?_⟩
   have hd := (rep_dropC h hb).length
   have ht := (rep_takeC h ha).length
   have hall := h.length
   have key : ∀ {cs : List AV} {j : Nat} {cs' : List AV}, dropC cs j = some cs' -> j + cwL cs' = cwL cs := by
    intro cs
    induction cs with
    | nil => intro j cs' hd; cases j with
     | zero => simp [dropC] at hd; subst hd; simp
     | succ j => simp [dropC] at hd
    | cons c cs ih => intro j cs' hd; cases j with
     | zero => simp [dropC] at hd; subst hd; simp
     | succ j =>
      simp only [dropC] at hd
      split at hd
      ·have := ih hd; simp only [cwL]; omega
      ·cases hd
   have := key hb
   simp only [aw] at hall
   omega
  ·cases hs
 ·cases hs
def spliceA (cs : List AV) (off : Nat) (new : List AV) (z : Nat) : Option (List AV) := match cs, new with
 | [.iarr k n f], [.pl (.int k' v)] => if k = k' /\ off < n /\ z = 1 then some [.iarr k n (λ j => if j = off then v else f j)] else none
 | cs, new => spliceC cs off new z
theorem rep_spliceA {us ns : List Value} {cs new cs' : List AV} {off z : Nat} (h : Rep E us (.agg cs)) (hn : Rep E ns (.agg new)) (hs : spliceA cs off new z = some cs') :
  Rep E (us.take off ++ (ns ++ us.drop (off + z))) (.agg cs') /\ ns.length = z /\ off + z <= us.length := by
 unfold spliceA at hs
 split at hs
 ·rename_i k n f k' v
  split at hs
  ·rename_i hc
   obtain ⟨rfl, hlt, rfl⟩ := hc
   injection hs with hs
   subst hs
   obtain ⟨_, h2, h3⟩ := h.cons_inv
   obtain ⟨_, g2, g3⟩ := hn.cons_inv
   simp only [cw] at h2 h3 g2 g3
   have hl : us.length = n := by have := h.length; simpa [aw, cwL, cw] using this
   have hnl : ns.length = 1 := by have := hn.length; simpa [aw, cwL, cw] using this
   obtain ⟨u, rfl⟩ := List.length_eq_one_iff.1 hnl
   have hu := g2.pl_inv'
   simp at hu
   subst hu
   rw [List.take_of_length_le (by omega)] at h2
   obtain ⟨_, h5⟩ := h2.iarr_inv
   refine ⟨?_, rfl, by omega⟩
   have hr : Rep E (us.take off ++ ([.int k v] ++ us.drop (off + 1))) (.iarr k n (λ j => if j = off then v else f j)) := by
    refine .iarr (by simp; omega) λ i hi => ?_
    by_cases h6 : i < off
    ·rw [List.getElem?_append_left (by simp; omega), List.getElem?_take_of_lt h6, h5 i hi, if_neg (by omega)]
    ·by_cases h7 : i = off
     ·subst h7
      rw [List.getElem?_append_right (by simp; omega)]
      simp [Nat.min_eq_left (show i <= us.length by omega)]
     ·rw [List.getElem?_append_right (by simp; omega), List.length_take, Nat.min_eq_left (by omega)]
      rw [show i - off = (i - off - 1) + 1 by omega]
      simp only [List.cons_append, List.nil_append, List.getElem?_cons_succ, List.getElem?_drop]
      rw [show off + 1 + (i - off - 1) = i by omega, h5 i hi, if_neg h7]
   have := Rep.cons (us := us.take off ++ ([.int k v] ++ us.drop (off + 1))) (by simp [cw]; omega) hr Rep.nil
   simpa using this
  ·cases hs
 ·exact rep_splice h hn hs
def buildC (P : Program) (t : TypeId) : List AV -> List (Nat × AV) -> Option (List AV)
 | cs, [] => some cs
 | cs, (i, x) :: rest => match placeOf P t i, partsOf x with
  | some (off, z), some new => match spliceA cs off new z with
   | some cs' => buildC P t cs' rest
   | none => none
  | _, _ => none
theorem foldl_splice : ∀ (ns us : List Value) (off k : Nat), off + k + ns.length <= us.length ->
  ((ns.toArray.zipIdx k).foldl (λ cs (x : Value × Nat) => cs.setIfInBounds (off + x.2) x.1) us.toArray) = (us.take (off + k) ++ (ns ++ us.drop (off + k + ns.length))).toArray := by
 intro ns
 induction ns with
 | nil =>
  intro us off k h
  have e : ([] : List Value).toArray.zipIdx k = #[] := by apply Array.ext'; simp
  rw [e]
  simp
 | cons n ns ih =>
  intro us off k h
  have e : (n :: ns).toArray.zipIdx k = #[(n, k)] ++ ns.toArray.zipIdx (k + 1) := by
   apply Array.ext'
   simp [List.zipIdx_cons]
  rw [e, Array.foldl_append]
  simp only [List.foldl_toArray', List.foldl_cons, List.foldl_nil]
  have h' : off + (k + 1) + ns.length <= (us.set (off + k) n).length := by simp at h ⊢; omega
  have := ih (us.set (off + k) n) off (k + 1) h'
  simp only [List.setIfInBounds_toArray] at this ⊢
  rw [this]
  congr 1
  have hlt : off + k < us.length := by simp at h; omega
  rw [show off + (k + 1) = off + k + 1 by omega, List.take_succ_eq_append_getElem (by simpa using hlt)]
  rw [List.getElem_set_self, List.take_set_of_le (Nat.le_refl _), List.drop_set_of_lt (by omega), List.append_assoc, List.length_cons, show off + k + (ns.length + 1) = off + k + 1 + ns.length by omega]
  rfl
theorem run_fill {t : TypeId} {place : Nat -> Option (Nat × Nat)} (hpl : ∀ i p, placeOf P t i = some p -> place i = some p) : ∀ {ps : List (Nat × AV)} {vs : List (Nat × Value)} {cs cs' : List AV} {us : List Value}, Rep E us (.agg cs) ->
  (vs.length = ps.length /\ ∀ (i : Nat) (p : Nat × AV) (v : Nat × Value), ps[i]? = some p -> vs[i]? = some v -> v.1 = p.1 /\ RepV E v.2 p.2) -> buildC P t cs ps = some cs' ->
  ∃ us' : List Value, Instr.fill place us.toArray vs = some us'.toArray /\ Rep E us' (.agg cs') := by
 intro ps
 induction ps with
 | nil =>
  intro vs cs cs' us h hv hb
  have : vs = [] := List.eq_nil_of_length_eq_zero hv.1
  subst this
  simp only [buildC, Option.some.injEq] at hb
  subst hb
  exact ⟨us, rfl, h⟩
 | cons p ps ih =>
  intro vs cs cs' us h hv hb
  cases vs with
  | nil => simp at hv
  | cons v vs =>
   obtain ⟨i, x⟩ := p
   obtain ⟨i', v⟩ := v
   obtain ⟨he, hr⟩ := hv.2 0 (i, x) (i', v) rfl rfl
   simp only at he hr
   subst he
   simp only [buildC] at hb
   split at hb
   ·rename_i off z new hp hn
    split at hb
    ·rename_i cs1 hs
     have hparts := repV_parts hr hn
     obtain ⟨h1, h2, h3⟩ := rep_spliceA h hparts hs
     obtain ⟨us', hf, hr'⟩ := ih h1 ⟨by simpa using hv.1, λ j p' v' hj hj' => hv.2 (j + 1) p' v' (by simpa using hj) (by simpa using hj')⟩ hb
     refine ⟨us', ?_, hr'⟩
     simp only [Instr.fill, hpl _ _ hp]
     have hsz : v.cells.size = z := by simpa using h2
     rw [if_neg (by simp only [hsz]; simp; omega)]
     have := foldl_splice v.cells.toList us off 0 (by simp [hsz]; omega)
     simp only [Nat.add_zero, Array.toArray_toList, Array.length_toList, hsz] at this
     rw [<- hf]
     congr 1
    ·cases hb
   ·cases hb
theorem run_places {fs : Array Field} (h : ∀ f ∈ fs.toList, (szOf P f.type).isSome = true) (w : World) :
  (fs.mapM λ f => do pure (f.offset, <- sizeOf f.type) : Sem (Array (Nat × Nat))).run P w = .ok (fs.map λ f => (f.offset, (szOf P f.type).getD 0)) w := by
 rw [Array.mapM_eq_mapM_toList]
 have key : ∀ l : List Field, (∀ f ∈ l, (szOf P f.type).isSome = true) -> (l.mapM (λ f => do pure (f.offset, <- sizeOf f.type) : Field -> Sem (Nat × Nat))).run P w = .ok (l.map λ f => (f.offset, (szOf P f.type).getD 0)) w := by
  intro l
  induction l with
  | nil => intro _; simp
  | cons f l ih =>
   intro hl
   obtain ⟨z, hz⟩ := Option.isSome_iff_exists.1 (hl f (by simp))
   have := ih (λ g hg => hl g (by simp [hg]))
   simp only [List.mapM_cons, Sem.run_bind, run_sizeOf hz, Result.andThen_ok, Sem.run_pure, this, List.map_cons, hz, Option.getD_some]
 rw [Sem.run_map, key fs.toList h]
 simp only [Result.andThen_ok]
 congr 1
 apply Array.ext'
 simp
def aBuild (P : Program) (t : TypeId) (ps : List (Nat × AV)) : Option AV := match P.underlying t, zeroAV P t with
 | some (.struct fs), some cs => if fs.toList.all (λ f => (szOf P f.type).isSome) then (buildC P t cs ps).map .agg else none
 | some (.array _ e), some cs => if (szOf P e).isSome then (buildC P t cs ps).map .agg else none
 | _, _ => none
theorem run_build {t : TypeId} {ps : List (Nat × AV)} {vs : Array (Nat × Value)} {x : AV} (hv : vs.toList.length = ps.length /\ ∀ (i : Nat) (p : Nat × AV) (v : Nat × Value), ps[i]? = some p -> vs.toList[i]? = some v -> v.1 = p.1 /\ RepV E v.2 p.2)
  (h : aBuild P t ps = some x) : ∃ v', (∀ w, (Instr.build t vs).run P w = .ok v' w) /\ RepV E v' x := by
 unfold aBuild at h
 split at h
 ·rename_i fs cs hu hz
  split at h
  ·rename_i hall
   cases hb : buildC P t cs ps with
   | none => simp [hb] at h
   | some cs' =>
    simp [hb] at h
    subst h
    obtain ⟨z, hrz, hz'⟩ := run_zeroAV' (E := E) hz
    have hall' : ∀ f ∈ fs.toList, (szOf P f.type).isSome = true := List.all_eq_true.1 hall
    obtain ⟨us', hf, hr⟩ := run_fill (P := P) (t := t) (place := ((fs.map λ f => (f.offset, (szOf P f.type).getD 0))[·]?)) (λ i p hp => by
     simp only [placeOf, hu] at hp
     split at hp
     ·rename_i f hfi
      split at hp
      ·rename_i zz hzz
       injection hp with hp
       subst hp
       simp [hfi, hzz]
      ·cases hp
     ·cases hp) hz' hv hb
    refine ⟨.agg us'.toArray, λ w => ?_, us', rfl, hr⟩
    have hpl := run_places hall' w
    simp only [Array.toArray_toList] at hf
    simp only [Instr.build, Sem.run_bind, hrz, run_underlying hu, hpl, Result.andThen_ok, hf, Sem.run_pure]
  ·cases h
 ·rename_i n e cs hu hz
  split at h
  ·rename_i hsome
   obtain ⟨sz, hs⟩ := Option.isSome_iff_exists.1 hsome
   cases hb : buildC P t cs ps with
   | none => simp [hb] at h
   | some cs' =>
    simp [hb] at h
    subst h
    obtain ⟨z, hrz, hz'⟩ := run_zeroAV' (E := E) hz
    obtain ⟨us', hf, hr⟩ := run_fill (P := P) (t := t) (place := λ i => some (i * sz, sz)) (λ i p hp => by
     simp only [placeOf, hu, hs] at hp
     exact hp) hz' hv hb
    refine ⟨.agg us'.toArray, ?_, us', rfl, hr⟩
    simp only [Array.toArray_toList] at hf
    simp [Instr.build, hrz, run_underlying hu, run_sizeOf hs, hf]
  ·cases h
 ·cases h
end
end Go.Am

namespace Go.Am
open Go.RowKit
section
variable {P : Program} {E : Env}
theorem run_partAV' {t : TypeId} {cs : List AV} {us : List Value} {j d : Nat} {p : Prop} {x : AV} (h : Rep E us (.agg cs)) (hl : loadAV P t cs j d = some (p, x)) (hp : p) (h0 : d = 0) :
  ∃ v, (∀ w, (part t us.toArray j).run P w = .ok v w) /\ RepV E v x := by
 unfold loadAV at hl
 split at hl
 ·rename_i hagg
  split at hl
  ·rename_i z cs1 hz hd
   split at hl
   ·rename_i cs2 ht
    simp only [Option.some.injEq, Prod.mk.injEq] at hl
    obtain ⟨_, rfl⟩ := hl
    exact ⟨_, λ w => run_part_agg hz hagg us j, _, rfl, rep_takeC (rep_dropC h hd) ht⟩
   ·cases hl
  ·cases hl
 ·rename_i hagg
  split at hl
  ·rename_i k n f rest hd
   simp only [Option.some.injEq, Prod.mk.injEq] at hl
   obtain ⟨rfl, rfl⟩ := hl
   subst h0
   obtain ⟨_, h3, _⟩ := (rep_dropC h hd).cons_inv
   have h4 := h3.iarr_inv.2 0 hp
   refine ⟨.int k (f 0), λ w => run_part_cell hagg us j _ ?_, Rep.pl _ rfl⟩
   simp only [cw] at h4
   rw [List.getElem?_take, if_pos hp, List.getElem?_drop] at h4
   exact h4
  ·cases hl
  ·cases hl
  ·rename_i c rest n1 n2 n3 hd
   split at hl
   ·simp only [Option.some.injEq, Prod.mk.injEq] at hl
    obtain ⟨_, rfl⟩ := hl
    obtain ⟨h3, h4, _⟩ := (rep_dropC h hd).cons_inv
    have hc1 : cw c = 1 := by cases c <;> first | rfl | exact (n1 _ _ _ rfl).elim
    rw [hc1] at h3 h4
    cases hu : us.drop j with
    | nil => rw [hu] at h3; simp at h3
    | cons v vs =>
     rw [hu] at h4
     simp only [List.take_succ_cons, List.take_zero] at h4
     refine ⟨v, λ w => run_part_cell hagg us j v ?_, repV1_of_one h4 (λ _ e => n2 _ e) (λ _ _ _ e => n1 _ _ _ e) (λ _ e => n3 _ e)⟩
     have : (us.drop j)[0]? = some v := by rw [hu]; rfl
     simpa [List.getElem?_drop] using this
   ·cases hl
  ·cases hl
 ·cases hl
theorem run_partAV {t : TypeId} {cs : List AV} {us : List Value} {j : Nat} {p : Prop} {x : AV} (h : Rep E us (.agg cs)) (hl : loadAV P t cs j 0 = some (p, x)) (hp : p) :
  ∃ v, (∀ w, (part t us.toArray j).run P w = .ok v w) /\ RepV E v x := run_partAV' h hl hp rfl
def aField (P : Program) (t : TypeId) (x : AV) (f : Nat) : Option (Prop × AV) := match fieldOf P t f, x with
 | some fl, .agg cs => loadAV P fl.type cs fl.offset 0
 | _, _ => none
def strsOf : List AV -> Option (List ByteArray)
 | [] => some []
 | .pl (.string s) :: cs => match strsOf cs with
  | some ss => some (s :: ss)
  | none => none
 | _ => none
theorem rep_strs : ∀ {cs : List AV} {ss : List ByteArray} {us : List Value}, strsOf cs = some ss -> Rep E us (.agg cs) -> us = ss.map Value.string := by
 intro cs
 induction cs with
 | nil =>
  intro ss us h hr
  simp only [strsOf, Option.some.injEq] at h
  subst h
  exact hr.nil_inv
 | cons c cs ih =>
  intro ss us h hr
  unfold strsOf at h
  split at h
  ·rename_i h0; cases h0
  ·rename_i s cs' h0
   injection h0 with h1 h2
   subst h1 h2
   split at h
   ·rename_i ss' hs
    injection h with h
    subst h
    obtain ⟨h3, h4, h5⟩ := hr.cons_inv
    simp only [cw] at h3 h4 h5
    have h6 := ih hs h5
    have h7 := h4.pl_inv'
    rw [List.map_cons, <- h6]
    cases us with
    | nil => simp at h3
    | cons u us => simp at h7; rw [h7]; rfl
   ·cases h
  ·cases h
def aIndex (P : Program) (t : TypeId) (x i : AV) : Option (Prop × AV) := match P.underlying t, x, i with
 | some .string, .pl (.string s), .pl (.int _ m) => some (0 <= m /\ m < s.size, .pl (.int .u8 (s.data.toList.getD m.toNat 0).toNat))
 | some (.array n e), .agg [.iarr k n' f], .pl (.int _ m) => match aggB P e, szOf P e with
  | some false, some 1 => if n = n' then some (0 <= m /\ m < n, .pl (.int k (f m.toNat))) else none
  | _, _ => none
 | some (.array n e), .agg (.pl (.string s) :: cs), .pl (.int _ m) => match aggB P e, szOf P e, strsOf cs with
  | some false, some 1, some ss => if n = ss.length + 1 then some (0 <= m /\ m < n, .pl (.string ((s :: ss).getD m.toNat ByteArray.empty))) else none
  | _, _, _ => none
 | _, _, _ => none
def aBin (P : Program) (op : BinOp) (t : TypeId) (x y : AV) : Option AV := match x, y with
 | .pl (.int k a), .pl (.int k' b) => match shInt op k a b with
  | some n => some (.pl (.int k n))
  | none => if k = k' then match cmpInt op a b with
   | some r => some (.pl (.bool r))
   | none => match arInt op k a b with
    | some n => some (.pl (.int k n))
    | none => none
  else none
 | .pl (.string a), .pl (.string b) => match cmpStr op a b with
  | some r => some (.pl (.bool r))
  | none => none
 | .pl (.bool a), .pl (.bool b) => match P.underlying t, op with
  | some .bool, .eql => some (.pl (.bool (a == b)))
  | some .bool, .neq => some (.pl (.bool (!(a == b))))
  | _, _ => none
 | .agg xs, .agg ys => if P.eqGuardType P.depth t = false /\ aggB P t = some true then match op, eqT P 8 t xs ys with
   | .eql, some r => some (.pl (.bool r))
   | .neq, some r => some (.pl (.bool (!r)))
   | _, _ => none
  else none
 | _, _ => none
theorem run_eql_bool {t : TypeId} (hu : P.underlying t = some .bool) (a b : Bool) (w : World) : (binOp .eql t (.bool a) (.bool b)).run P w = .ok (.bool (a == b)) w := by
 have h := run_equalIn_bool' (P := P) w 9999 t a b hu
 simp only [binOp]
 simp [Op.equal, Op.maxDepth, h]
theorem run_neq_bool {t : TypeId} (hu : P.underlying t = some .bool) (a b : Bool) (w : World) : (binOp .neq t (.bool a) (.bool b)).run P w = .ok (.bool (!(a == b))) w := by
 have h := run_equalIn_bool' (P := P) w 9999 t a b hu
 simp only [binOp]
 simp [Op.equal, Op.maxDepth, h]
theorem run_aBin {op : BinOp} {t : TypeId} {x y z : AV} {u v : Value} {ox oy : Operand} (hx : RepV E u x) (hy : RepV E v y) (h : aBin P op t x y = some z) :
  ∃ r, (∀ w, (do eqGuard op t ox oy u v; binOp op t u v : Sem Value).run P w = .ok r w) /\ RepV E r z := by
 unfold aBin at h
 split at h
 ·split at h
  ·rename_i n hn
   obtain rfl := repV_pl hx
   obtain rfl := repV_pl hy
   injection h with h
   subst h
   exact ⟨_, λ w => by rw [Sem.run_bind, run_eqGuard_cells rfl (by simp) w, Result.andThen_ok, run_shInt hn], Rep.pl _ rfl⟩
  split at h
  ·rename_i k a k' b _ _ hk
   subst hk
   obtain rfl := repV_pl hx
   obtain rfl := repV_pl hy
   split at h
   ·rename_i r hr
    injection h with h
    subst h
    exact ⟨.bool r, λ w => by rw [Sem.run_bind, run_eqGuard_cells rfl (by simp) w, Result.andThen_ok, run_cmpInt hr], Rep.pl _ rfl⟩
   ·split at h
    ·rename_i n hn
     injection h with h
     subst h
     exact ⟨.int k n, λ w => by rw [Sem.run_bind, run_eqGuard_cells rfl (by simp) w, Result.andThen_ok, run_arInt hn], Rep.pl _ rfl⟩
    ·cases h
  ·cases h
 ·obtain rfl := repV_pl hx
  obtain rfl := repV_pl hy
  split at h
  ·rename_i r hr
   injection h with h
   subst h
   exact ⟨.bool r, λ w => by rw [Sem.run_bind, run_eqGuard_cells rfl (by simp) w, Result.andThen_ok, run_cmpStr hr], Rep.pl _ rfl⟩
  ·cases h
 ·obtain rfl := repV_pl hx
  obtain rfl := repV_pl hy
  split at h
  ·rename_i hu
   injection h with h
   subst h
   exact ⟨_, λ w => by rw [Sem.run_bind, run_eqGuard_cells rfl (by simp) w, Result.andThen_ok]; exact run_eql_bool hu _ _ w, Rep.pl _ rfl⟩
  ·rename_i hu
   injection h with h
   subst h
   exact ⟨_, λ w => by rw [Sem.run_bind, run_eqGuard_cells rfl (by simp) w, Result.andThen_ok]; exact run_neq_bool hu _ _ w, Rep.pl _ rfl⟩
  ·cases h
 ·rename_i xs ys
  split at h
  ·rename_i hg
   obtain ⟨us, rfl, hus⟩ := hx
   obtain ⟨vs, rfl, hvs⟩ := hy
   have hguard : ∀ w, (eqGuard op t ox oy (.agg us.toArray) (.agg vs.toArray)).run P w = .ok () w := λ w => run_eqGuard_agg (P := P) w op t ox oy _ _ hg.1
   split at h
   ·rename_i r hr
    injection h with h
    subst h
    have := λ w => run_eqT hr hus hvs (by rw [if_pos hg.2]; exact ⟨rfl, rfl⟩) 10000 w (by omega)
    exact ⟨.bool r, λ w => by simp [hguard w, run_eql_struct, this w], Rep.pl _ rfl⟩
   ·rename_i r hr
    injection h with h
    subst h
    have := λ w => run_eqT hr hus hvs (by rw [if_pos hg.2]; exact ⟨rfl, rfl⟩) 10000 w (by omega)
    exact ⟨.bool (!r), λ w => by simp [hguard w, run_neq_struct, this w], Rep.pl _ rfl⟩
   ·cases h
  ·cases h
 ·cases h
def aPick (c x y : AV) : Option AV := match c, x, y with
 | .pl (.bool b), .pl (.bool p), .pl (.bool q) => some (.pl (.bool (bif b then p else q)))
 | .pl (.bool true), x, _ => some x
 | .pl (.bool false), _, y => some y
 | _, _, _ => none
def aConv (P : Program) (src dst : TypeId) (x : AV) : Option AV := match P.underlying src, P.underlying dst, x with
 | some (.int _), some (.int k), .pl (.int _ n) => some (.pl (.int k (k.wrap n)))
 | some .string, some .string, .pl (.string s) => some (.pl (.string s))
 | some (.int _), some .string, .pl (.int _ n) => some (.pl (.string (Utf8.encode n)))
 | _, _, _ => none
def oneAV : AV -> Bool
 | .any => false
 | .iarr .. => false
 | .agg _ => false
 | .tup _ => false
 | _ => true
def aLook (P : Program) (b : Builtin) (ts : List TypeId) (xs : List AV) : Option AV := match b, ts, xs with
 | .len, [t], [x] => match aLen P t x with
  | some m => some (.pl (.int .i64 m))
  | none => none
 | .min, [_, _], [.pl (.int k a), .pl (.int _ b)] => some (.pl (.int k (if b < a then b else a)))
 | .max, [_, _], [.pl (.int k a), .pl (.int _ b)] => some (.pl (.int k (if b > a then b else a)))
 | .max, [_, _, _], [.pl (.int k a), .pl (.int _ b), .pl (.int _ c)] => some (.pl (.int k (if c > (if b > a then b else a) then c else (if b > a then b else a))))
 | _, _, _ => none
def ptrT (P : Program) (t : TypeId) : Bool := match P.underlying t with
 | some (.pointer e) => match szOf P e with
  | some (_ + 1) => true
  | _ => false
 | _ => false
def ifaceT (P : Program) (t : TypeId) : Bool := match P.underlying t with
 | some (.interface _) => true
 | _ => false
def plainT (P : Program) (t : TypeId) : Bool := match P.underlying t with
 | some (.interface _) => false
 | some _ => true
 | none => false
theorem run_makeIface {t : TypeId} (h : plainT P t = true) (v : Value) (w : World) : (Instr.makeInterface t v).run P w = .ok (.iface t v) w := by
 unfold plainT at h
 split at h
 ·cases h
 ·rename_i d hne hd
  unfold Instr.makeInterface
  rw [Sem.run_bind, run_underlying hd, Result.andThen_ok]
  cases d <;> first | rfl | exact absurd rfl (hne _)
 ·cases h
def isConstO : Operand -> Bool
 | .const _ => true
 | _ => false
def aBinX (P : Program) (op : BinOp) (t : TypeId) (oy : Operand) (x y : AV) : Option (Prop × AV) := match x, y with
 | .pl (.string a), .pl (.string b) => match op with
  | .add => some (a.size + b.size <= 9223372036854775807, .pl (.string (a ++ b)))
  | _ => none
 | .ifc _ _, .pl .nilIface => match ifaceT P t, op with
  | true, .eql => some (True, .pl (.bool false))
  | true, .neq => some (True, .pl (.bool true))
  | _, _ => none
 | .pl .nilIface, .pl .nilIface => match ifaceT P t, isConstO oy, op with
  | true, true, .eql => some (True, .pl (.bool true))
  | true, true, .neq => some (True, .pl (.bool false))
  | _, _, _ => none
 | .ptr l i j d, .ptr l' i' j' d' => match ptrT P t, Nat.beq l l' && (Nat.beq i i' && (Nat.beq j j' && Nat.beq d d')), op with
  | true, true, .eql => some (True, .pl (.bool true))
  | true, true, .neq => some (True, .pl (.bool false))
  | _, _, _ => none
 | .ptr _ _ _ _, .pl (.pointer none) => match ptrT P t, op with
  | true, .eql => some (True, .pl (.bool false))
  | true, .neq => some (True, .pl (.bool true))
  | _, _ => none
 | .ipt _ _ _, .pl (.pointer none) => match ptrT P t, op with
  | true, .eql => some (True, .pl (.bool false))
  | true, .neq => some (True, .pl (.bool true))
  | _, _ => none
 | .pl (.pointer none), .pl (.pointer none) => match ptrT P t, op with
  | true, .eql => some (True, .pl (.bool true))
  | true, .neq => some (True, .pl (.bool false))
  | _, _ => none
 | _, _ => none
theorem ptrT_spec {t : TypeId} (h : ptrT P t = true) : ∃ e j, P.underlying t = some (.pointer e) /\ P.info? e = some j /\ j.size ≠ 0 := by
 unfold ptrT at h
 split at h
 ·rename_i e he
  split at h
  ·rename_i z hz
   unfold szOf at hz
   cases hi : P.info? e with
   | none => rw [hi] at hz; cases hz
   | some i => rw [hi] at hz; injection hz with hz; exact ⟨e, i, he, hi, by omega⟩
  ·cases h
 ·cases h
theorem ifaceT_spec {t : TypeId} (h : ifaceT P t = true) : ∃ ms, P.underlying t = some (.interface ms) := by
 unfold ifaceT at h
 split at h
 ·rename_i ms he; exact ⟨ms, he⟩
 ·cases h
theorem Rep.ifc_inv' {us : List Value} {t : TypeId} {x : AV} (h : Rep E us (.ifc t x)) : ∃ v, us = [.iface t v] := by
 cases h with
 | ifc hv h => exact ⟨_, rfl⟩
 | ifca h => exact ⟨_, rfl⟩
theorem run_eq_of {t : TypeId} {u v : Value} {b : Bool} (hb : binOp .eql t u v = (do pure (.bool (← Op.equal t u v)) : Sem Value)) (hb2 : binOp .neq t u v = (do pure (.bool (!(← Op.equal t u v))) : Sem Value))
  (h : ∀ d w, (Op.equalIn (d + 1) t u v).run P w = .ok b w) (w : World) : (binOp .eql t u v).run P w = .ok (.bool b) w /\ (binOp .neq t u v).run P w = .ok (.bool (!b)) w := by
 rw [hb, hb2]
 simp [Op.equal, Op.maxDepth, h 9999]
theorem run_aBinX {op : BinOp} {t : TypeId} {x y z : AV} {u v : Value} {ox oy : Operand} {p : Prop} (hx : RepV E u x) (hy : RepV E v y) (h : aBinX P op t oy x y = some (p, z)) (hp : p) :
  ∃ r, (∀ w, (do eqGuard op t ox oy u v; binOp op t u v : Sem Value).run P w = .ok r w) /\ RepV E r z := by
 have fin : ∀ {b : Bool} {u v : Value}, (∀ w, (eqGuard op t ox oy u v).run P w = .ok () w) -> (∀ w, (binOp op t u v).run P w = .ok (.bool b) w) -> ∃ r, (∀ w, (do eqGuard op t ox oy u v; binOp op t u v : Sem Value).run P w = .ok r w) /\ RepV E r (.pl (.bool b)) :=
  fun {b u v} h1 h2 => ⟨.bool b, λ w => by rw [Sem.run_bind, h1 w, Result.andThen_ok, h2 w], Rep.pl _ rfl⟩
 unfold aBinX at h
 split at h
 ·obtain rfl := repV_pl hx
  obtain rfl := repV_pl hy
  split at h
  ·simp only [Option.some.injEq, Prod.mk.injEq] at h
   obtain ⟨rfl, rfl⟩ := h
   refine ⟨_, λ w => by rw [Sem.run_bind, run_eqGuard_cells rfl (by simp) w, Result.andThen_ok]; simp only [binOp, Op.stringOp]; rw [if_neg (by simp only [IntKind.max, IntKind.bits, IntKind.signed]; omega)]; rfl, Rep.pl _ rfl⟩
  ·cases h
 ·rename_i t' x'
  obtain rfl := repV_pl hy
  have hx' : ∃ vv, u = .iface t' vv := by
   have hx1 : Rep E [u] (.ifc t' x') := hx
   obtain ⟨v, hv⟩ := hx1.ifc_inv'
   injection hv with hv
   exact ⟨v, hv⟩
  obtain ⟨vv, rfl⟩ := hx'
  have key : ∀ (hT : ifaceT P t = true) (w : World), (binOp .eql t (.iface t' vv) .nilIface).run P w = .ok (.bool false) w /\ (binOp .neq t (.iface t' vv) .nilIface).run P w = .ok (.bool true) w := λ hT w => by
   obtain ⟨ms, hu⟩ := ifaceT_spec hT
   have := run_eq_of (P := P) (t := t) (u := .iface t' vv) (v := .nilIface) (b := false) rfl rfl (λ d w => by simp [Op.equalIn, run_underlying hu]) w
   exact this
  have hg : ∀ w, (eqGuard op t ox oy (.iface t' vv) .nilIface).run P w = .ok () w := λ w => by unfold eqGuard; split <;> rfl
  split at h
  ·rename_i hT
   simp only [Option.some.injEq, Prod.mk.injEq] at h
   obtain ⟨_, rfl⟩ := h
   exact fin hg λ w => (key hT w).1
  ·rename_i hT
   simp only [Option.some.injEq, Prod.mk.injEq] at h
   obtain ⟨_, rfl⟩ := h
   exact fin hg λ w => (key hT w).2
  ·cases h
 ·obtain rfl := repV_pl hx
  obtain rfl := repV_pl hy
  have key : ∀ (hT : ifaceT P t = true) (w : World), (binOp .eql t .nilIface .nilIface).run P w = .ok (.bool true) w /\ (binOp .neq t .nilIface .nilIface).run P w = .ok (.bool false) w := λ hT w => by
   obtain ⟨ms, hu⟩ := ifaceT_spec hT
   exact run_eq_of (P := P) (t := t) (u := .nilIface) (v := .nilIface) (b := true) rfl rfl (λ d w => by simp [Op.equalIn, run_underlying hu]) w
  have hg : isConstO oy = true -> ∀ w, (eqGuard op t ox oy .nilIface .nilIface).run P w = .ok () w := λ hc w => by
   cases oy with
   | const c => unfold eqGuard; split <;> simp
   | _ => cases hc
  split at h
  ·rename_i hT hc
   simp only [Option.some.injEq, Prod.mk.injEq] at h
   obtain ⟨_, rfl⟩ := h
   exact fin (hg hc) λ w => (key hT w).1
  ·rename_i hT hc
   simp only [Option.some.injEq, Prod.mk.injEq] at h
   obtain ⟨_, rfl⟩ := h
   exact fin (hg hc) λ w => (key hT w).2
  ·cases h
 ·rename_i l i j d l' i' j' d'
  have key : ∀ (hT : ptrT P t = true) (a : Addr) (w : World), (binOp .eql t (.pointer (some a)) (.pointer (some a))).run P w = .ok (.bool true) w /\ (binOp .neq t (.pointer (some a)) (.pointer (some a))).run P w = .ok (.bool false) w := λ hT a w => by
   obtain ⟨e, jj, hu, hj, _⟩ := ptrT_spec hT
   exact ⟨run_eql_ptr_same (P := P) w a hu hj, Lib.run_neq_ptr_same (P := P) w a hu hj⟩
  have hsame : (Nat.beq l l' && (Nat.beq i i' && (Nat.beq j j' && Nat.beq d d'))) = true -> u = v /\ ∃ a, u = .pointer (some a) := λ hh => by
   simp only [Bool.and_eq_true, Nat.beq_eq] at hh
   obtain ⟨rfl, rfl, rfl, rfl⟩ := hh
   have hx1 : Rep E [u] (.ptr l i j d) := hx
   have hy1 : Rep E [v] (.ptr l i j d) := hy
   obtain ⟨L, hL, e1⟩ := hx1.ptr_inv
   obtain ⟨L', hL', e2⟩ := hy1.ptr_inv
   rw [hL] at hL'
   injection hL' with hL'
   subst hL'
   exact ⟨by rw [e1, e2], _, e1⟩
  split at h
  ·rename_i hT hs
   obtain ⟨rfl, a, rfl⟩ := hsame hs
   simp only [Option.some.injEq, Prod.mk.injEq] at h
   obtain ⟨_, rfl⟩ := h
   exact fin (λ w => run_eqGuard_cells rfl (by simp) w) λ w => (key hT a w).1
  ·rename_i hT hs
   obtain ⟨rfl, a, rfl⟩ := hsame hs
   simp only [Option.some.injEq, Prod.mk.injEq] at h
   obtain ⟨_, rfl⟩ := h
   exact fin (λ w => run_eqGuard_cells rfl (by simp) w) λ w => (key hT a w).2
  ·cases h
 ·have hx1 : Rep E [u] _ := hx
  obtain ⟨L, hL, rfl⟩ := hx1.ptr_inv
  obtain rfl := repV_pl hy
  have key : ∀ (hT : ptrT P t = true) (a : Addr) (w : World), (binOp .eql t (.pointer (some a)) (.pointer none)).run P w = .ok (.bool false) w /\ (binOp .neq t (.pointer (some a)) (.pointer none)).run P w = .ok (.bool true) w := λ hT a w => by
   obtain ⟨e, jj, hu, hj, _⟩ := ptrT_spec hT
   exact run_eq_of (P := P) (t := t) (b := false) rfl rfl (λ d w => by simp [Op.equalIn, run_underlying hu]) w
  split at h
  ·rename_i hT
   simp only [Option.some.injEq, Prod.mk.injEq] at h
   obtain ⟨_, rfl⟩ := h
   exact fin (λ w => run_eqGuard_cells rfl (by simp) w) λ w => (key hT _ w).1
  ·rename_i hT
   simp only [Option.some.injEq, Prod.mk.injEq] at h
   obtain ⟨_, rfl⟩ := h
   exact fin (λ w => run_eqGuard_cells rfl (by simp) w) λ w => (key hT _ w).2
  ·cases h
 ·have hx1 : Rep E [u] _ := hx
  obtain ⟨a, ws, _, _, _, rfl⟩ := hx1.ipt_inv
  obtain rfl := repV_pl hy
  have key : ∀ (hT : ptrT P t = true) (a : Addr) (w : World), (binOp .eql t (.pointer (some a)) (.pointer none)).run P w = .ok (.bool false) w /\ (binOp .neq t (.pointer (some a)) (.pointer none)).run P w = .ok (.bool true) w := λ hT a w => by
   obtain ⟨e, jj, hu, hj, _⟩ := ptrT_spec hT
   exact run_eq_of (P := P) (t := t) (b := false) rfl rfl (λ d w => by simp [Op.equalIn, run_underlying hu]) w
  split at h
  ·rename_i hT
   simp only [Option.some.injEq, Prod.mk.injEq] at h
   obtain ⟨_, rfl⟩ := h
   exact fin (λ w => run_eqGuard_cells rfl (by simp) w) λ w => (key hT _ w).1
  ·rename_i hT
   simp only [Option.some.injEq, Prod.mk.injEq] at h
   obtain ⟨_, rfl⟩ := h
   exact fin (λ w => run_eqGuard_cells rfl (by simp) w) λ w => (key hT _ w).2
  ·cases h
 ·obtain rfl := repV_pl hx
  obtain rfl := repV_pl hy
  have key : ∀ (hT : ptrT P t = true) (w : World), (binOp .eql t (.pointer none) (.pointer none)).run P w = .ok (.bool true) w /\ (binOp .neq t (.pointer none) (.pointer none)).run P w = .ok (.bool false) w := λ hT w => by
   obtain ⟨e, jj, hu, hj, _⟩ := ptrT_spec hT
   exact run_eq_of (P := P) (t := t) (b := true) rfl rfl (λ d w => by simp [Op.equalIn, run_underlying hu]) w
  split at h
  ·rename_i hT
   simp only [Option.some.injEq, Prod.mk.injEq] at h
   obtain ⟨_, rfl⟩ := h
   exact fin (λ w => run_eqGuard_cells rfl (by simp) w) λ w => (key hT w).1
  ·rename_i hT
   simp only [Option.some.injEq, Prod.mk.injEq] at h
   obtain ⟨_, rfl⟩ := h
   exact fin (λ w => run_eqGuard_cells rfl (by simp) w) λ w => (key hT w).2
  ·cases h
 ·cases h
variable [Inhabited GlT]
def isPtr : AV -> Bool
 | .ptr _ _ _ _ => true
 | .ipt _ _ _ => true
 | _ => false
def pureOp (P : Program) (s : St) (o : Oper) : Option (Prop × AV) := match o.op with
 | .move x => some (True, s.ev x)
 | .assign x => some (True, s.ev x)
 | .pick c a b => match aPick (s.ev c) (s.ev a) (s.ev b) with
  | some r => some (True, r)
  | none => none
 | .build t ps => match aBuild P t (ps.toList.map λ p => (p.1, s.ev p.2)) with
  | some r => some (True, r)
  | none => none
 | .load t a => match s.ev a with
  | .ptr l i j d => match s.heap[l]? with
   | some (.box _ cs) => match i with
    | 0 => loadAV P t cs j d
    | _ + 1 => none
   | some (.row _ _ n f) => match partsOf (f i) with
    | some cs => match loadAV P t cs j d with
     | some (p, x) => some (i < n /\ p, x)
     | none => none
    | none => none
   | some (.prow _ cs) => loadAV P t cs (i + j) d
   | _ => none
  | .ipt x j d => match partsOf x with
   | some cs => loadAV P t cs j d
   | none => none
  | _ => none
 | .fieldAddr t x f => match aFieldAddr P t (s.ev x) f with
  | some r => some (True, r)
  | none => none
 | .field t x f => aField P t (s.ev x) f
 | .indexAddr t x i => aIndexAddr P s.heap t (s.ev x) (s.ev i)
 | .index t x i => aIndex P t (s.ev x) (s.ev i)
 | .slice t x lo hi mx => aSlice P s.heap t (s.ev x) (lo.map s.ev) (hi.map s.ev) (mx.map s.ev)
 | .binOp op t x y _ => match aBin P op t (s.ev x) (s.ev y) with
  | some r => some (True, r)
  | none => aBinX P op t y (s.ev x) (s.ev y)
 | .nilCheck x => match isPtr (s.ev x) with
  | true => some (True, s.ev x)
  | false => none
 | .makeInterface t x => match plainT P t, s.ev x with
  | true, .pl v => some (True, .ifc t (.pl v))
  | true, .ptr _ _ _ _ => some (True, .ifc t .any)
  | _, _ => none
 | .unOp .not _ x => match s.ev x with
  | .pl (.bool b) => some (True, .pl (.bool !b))
  | _ => none
 | .convert a b x => match aConv P a b (s.ev x) with
  | some r => some (True, r)
  | none => none
 | .extract t ix => match s.ev t with
  | .tup xs => match xs[ix]? with
   | some x => some (True, x)
   | none => none
  | _ => none
 | .makeFunc fn first caps => if first.toList.isEmpty /\ (caps.toList.map s.ev).all oneAV then some (True, .clo fn (caps.toList.map s.ev)) else none
 | .call { callee := .builtin b, args, argTypes } => match aLook P b argTypes.toList (args.toList.map s.ev) with
  | some r => some (True, r)
  | none => none
 | _ => none
omit [Inhabited GlT] in
theorem parts_rep {us : List Value} {x : AV} {cs : List AV} (h : Rep E us x) (hp : partsOf x = some cs) : Rep E us (.agg cs) := by
 cases x <;> simp only [partsOf, Option.some.injEq, reduceCtorEq] at hp <;> subst hp <;> first
  | exact h
  |(have hl := h.length
    simp only [aw, cw] at hl
    obtain ⟨v, rfl⟩ := List.length_eq_one_iff.1 hl
    exact rep_one_cell h rfl)
theorem map_two {α β : Type} {f : α -> β} {l : List α} {a b : β} (h : l.map f = [a, b]) : ∃ p q, l = [p, q] /\ f p = a /\ f q = b := by
 match l, h with
 | [], h => simp at h
 | [p], h => simp at h
 | [p, q], h => simp at h; exact ⟨p, q, rfl, h.1, h.2⟩
 | _ :: _ :: _ :: _, h => simp at h
theorem map_three {α β : Type} {f : α -> β} {l : List α} {a b c : β} (h : l.map f = [a, b, c]) : ∃ p q r, l = [p, q, r] /\ f p = a /\ f q = b /\ f r = c := by
 match l, h with
 | [], h => simp at h
 | [p], h => simp at h
 | [p, q], h => simp at h
 | [p, q, r], h => simp at h; exact ⟨p, q, r, rfl, h.1, h.2.1, h.2.2⟩
 | _ :: _ :: _ :: _ :: _, h => simp at h
theorem run_min2 {b : Builtin} {ts : List TypeId} {xs : List AV} {r : AV} (h : aLook P b ts xs = some r) {args : Array Operand} {a : Act} {s : St} (hs : SlotsOk E a.tmps s.slots) (hx : args.toList.map s.ev = xs) (o : Oper)
  (ho : o.op = .call { callee := .builtin b, args := args, argTypes := ts.toArray }) : ∃ v, (∀ w, (execOp a.eval o).run P w = .ok (.value v) w) /\ RepV E v r := by
 obtain ⟨args⟩ := args
 unfold aLook at h
 split at h
 ·split at h
  ·rename_i t x m hm
   injection h with h
   subst h
   match args, hx with
   | [p], hx =>
    simp only [List.map_cons, List.map_nil, List.cons.injEq, and_true] at hx
    have h1 := hs.ev p
    rw [hx] at h1
    have h2 := run_len (ty := o.type) h1 hm
    refine ⟨.int .i64 m, λ w => ?_, Rep.pl _ rfl⟩
    simp only [execOp, ho, resolve, invoke, builtin, Sem.run_bind, Sem.run_pure, Result.andThen_ok, List.map_toArray, List.map_cons, List.map_nil, h2 w]
  ·cases h
 ·rename_i t1 t2 k m kb n
  injection h with h
  subst h
  obtain ⟨p, q, rfl, hx1, hx2⟩ := map_two hx
  have h1 := hs.ev p
  have h2 := hs.ev q
  rw [hx1] at h1
  rw [hx2] at h2
  have e1 := repV_int h1
  have e2 := repV_int h2
  refine ⟨_, λ w => ?_, Rep.pl _ rfl⟩
  simp only [execOp, ho, resolve, invoke, builtin, Sem.run_bind, Sem.run_pure, Result.andThen_ok, List.map_toArray, List.map_cons, List.map_nil, e1, e2, Builtin.min_, List.foldlM_cons, List.foldlM_nil, Builtin.min2]
 ·rename_i t1 t2 k m kb n
  injection h with h
  subst h
  obtain ⟨p, q, rfl, hx1, hx2⟩ := map_two hx
  have h1 := hs.ev p
  have h2 := hs.ev q
  rw [hx1] at h1
  rw [hx2] at h2
  have e1 := repV_int h1
  have e2 := repV_int h2
  refine ⟨_, λ w => ?_, Rep.pl _ rfl⟩
  simp only [execOp, ho, resolve, invoke, builtin, Sem.run_bind, Sem.run_pure, Result.andThen_ok, List.map_toArray, List.map_cons, List.map_nil, e1, e2, Builtin.max_, List.foldlM_cons, List.foldlM_nil, Builtin.max2]
 ·rename_i t1 t2 t3 k m kb n kc q
  injection h with h
  subst h
  obtain ⟨p1, p2, p3, rfl, hx1, hx2, hx3⟩ := map_three hx
  have h1 := hs.ev p1
  have h2 := hs.ev p2
  have h3 := hs.ev p3
  rw [hx1] at h1
  rw [hx2] at h2
  rw [hx3] at h3
  have e1 := repV_int h1
  have e2 := repV_int h2
  have e3 := repV_int h3
  refine ⟨_, λ w => ?_, Rep.pl _ rfl⟩
  simp only [execOp, ho, resolve, invoke, builtin, Sem.run_bind, Sem.run_pure, Result.andThen_ok, List.map_toArray, List.map_cons, List.map_nil, e1, e2, e3, Builtin.max_, List.foldlM_cons, List.foldlM_nil, Builtin.max2]
 ·cases h
theorem optRep_map {a : Act} {s : St} (hs : SlotsOk E a.tmps s.slots) (x : Option Operand) : OptRep E (x.map s.ev) (x.map a.eval) := by
 cases x with
 | none => exact .inl ⟨rfl, rfl⟩
 | some x => exact .inr ⟨_, _, rfl, rfl, hs.ev x⟩
theorem run_aPick {c x y z : AV} {vc vx vy : Value} (hc : RepV E vc c) (hx : RepV E vx x) (hy : RepV E vy y) (h : aPick c x y = some z) :
  ∃ v, (∀ w, (do pure (Next.value (if ← asBool vc then vx else vy)) : Sem Next).run P w = .ok (.value v) w) /\ RepV E v z := by
 unfold aPick at h
 split at h
 ·rename_i b p q
  injection h with h
  subst h
  obtain rfl := repV_pl hc
  obtain rfl := repV_pl hx
  obtain rfl := repV_pl hy
  exact ⟨.bool (bif b then p else q), by cases b <;> simp [asBool], Rep.pl _ rfl⟩
 ·injection h with h
  subst h
  obtain rfl := repV_pl hc
  exact ⟨vx, by simp [asBool], hx⟩
 ·injection h with h
  subst h
  obtain rfl := repV_pl hc
  exact ⟨vy, by simp [asBool], hy⟩
 ·cases h
def isLoad : Op -> Bool
 | .load _ _ => true
 | _ => false
def Same (E : Env) (w : World) : Prop := ∀ b, (E.F b ∨ ∃ l L, E.loc l = some L /\ 0 < L.cap /\ L.b = b) -> w.heap[b]? = E.w.heap[b]?
theorem run_pureS {T : World -> Prop} {s : St} {a : Act} {o : Oper} {p : Prop} {x : AV} (hT : isLoad o.op = true -> ∀ w, T w -> Same E w) (hs : SlotsOk E a.tmps s.slots) (hH : ∀ l o, s.heap[l]? = some o -> ObjOk E l o) (h : pureOp P s o = some (p, x)) (hp : p) :
  ∃ v, (∀ w, T w -> (execOp a.eval o).run P w = .ok (.value v) w) /\ RepV E v x := by
 have wrapS : ∀ {m : Sem Value} {y : AV}, (∃ v, (∀ w, T w -> m.run P w = .ok v w) /\ RepV E v y) -> ∃ v, (∀ w, T w -> (do pure (Next.value (← m)) : Sem Next).run P w = .ok (.value v) w) /\ RepV E v y := by
  rintro m y ⟨v, hm, hv⟩
  exact ⟨v, λ w hw => by rw [Sem.run_bind, hm w hw]; rfl, hv⟩
 have wrap : ∀ {m : Sem Value} {y : AV}, (∃ v, (∀ w, m.run P w = .ok v w) /\ RepV E v y) -> ∃ v, (∀ w, T w -> (do pure (Next.value (← m)) : Sem Next).run P w = .ok (.value v) w) /\ RepV E v y := by
  rintro m y ⟨v, hm, hv⟩
  exact ⟨v, λ w _ => by rw [Sem.run_bind, hm w]; rfl, hv⟩
 have drop : ∀ {m : Sem Next} {y : AV}, (∃ v, (∀ w, m.run P w = .ok (.value v) w) /\ RepV E v y) -> ∃ v, (∀ w, T w -> m.run P w = .ok (.value v) w) /\ RepV E v y := by
  rintro m y ⟨v, hm, hv⟩
  exact ⟨v, λ w _ => hm w, hv⟩
 unfold pureOp at h
 unfold execOp
 split at h
 ·rename_i y ho
  simp only [Option.some.injEq, Prod.mk.injEq] at h
  obtain ⟨_, rfl⟩ := h
  simp only [ho]
  exact ⟨_, λ _ _ => rfl, hs.ev y⟩
 ·rename_i y ho
  simp only [Option.some.injEq, Prod.mk.injEq] at h
  obtain ⟨_, rfl⟩ := h
  simp only [ho]
  exact ⟨_, λ _ _ => rfl, hs.ev y⟩
 ·rename_i c y z ho
  split at h
  ·rename_i r hr
   simp only [Option.some.injEq, Prod.mk.injEq] at h
   obtain ⟨_, rfl⟩ := h
   simp only [ho]
   exact drop (run_aPick (hs.ev c) (hs.ev y) (hs.ev z) hr)
  ·cases h
 ·rename_i t ps ho
  split at h
  ·rename_i r hr
   simp only [Option.some.injEq, Prod.mk.injEq] at h
   obtain ⟨_, rfl⟩ := h
   simp only [ho]
   refine wrap (run_build ⟨by simp, λ i q v hq hv => ?_⟩ hr)
   simp only [Array.toList_map, List.getElem?_map, Option.map_eq_some_iff] at hq hv
   obtain ⟨q1, hq1, rfl⟩ := hq
   obtain ⟨v1, hv1, rfl⟩ := hv
   rw [hq1] at hv1
   injection hv1 with hv1
   subst hv1
   exact ⟨rfl, hs.ev _⟩
  ·cases h
 ·rename_i t ad ho
  simp only [ho]
  refine wrapS ?_
  have had := hs.ev ad
  split at h
  ·rename_i l i j d hev
   rw [hev] at had
   split at h
   ·rename_i bt cs hl
    split at h
    ·obtain ⟨L, us, hL, _, hcap, hg, hr⟩ := hH _ _ hl
     have had' : Rep E [a.eval ad] (.ptr l 0 j d) := had
     obtain ⟨L', hL', hv⟩ := had'.ptr_inv
     rw [hL] at hL'
     injection hL' with hL'
     subst hL'
     rw [hv]
     have hm : ∀ w, T w -> Mem w ⟨L.b, 0, none⟩ us := λ w hw i u hu => by
      rw [addr_add, cell_of_row w L.b _ _ _ _ ((hT (by rw [ho]; rfl) w hw L.b (.inr ⟨l, L, hL, by omega, rfl⟩)).trans hg)]
      simpa using hu
     have := run_loadAV hm hr h hp
     rwa [addr_add, show 0 + (j + d) = 0 * L.k + j + d by omega] at this
    ·cases h
   ·rename_i k t' n f hl
    split at h
    ·rename_i cs hcs
     split at h
     ·rename_i p' x' hload
      simp only [Option.some.injEq, Prod.mk.injEq] at h
      obtain ⟨rfl, rfl⟩ := h
      obtain ⟨L, hL, _, hLk, hn, hmax, hrow⟩ := hH _ _ hl
      obtain ⟨arr, hg, hsz, helem⟩ := hrow (by have := hp.1; omega)
      have had' : Rep E [a.eval ad] (.ptr l i j d) := had
      obtain ⟨L', hL', hv⟩ := had'.ptr_inv
      rw [hL] at hL'
      injection hL' with hL'
      subst hL'
      rw [hv]
      obtain ⟨us, hul, hur, hue⟩ := helem i hp.1
      have hm : ∀ w, T w -> Mem w ⟨L.b, i * k, none⟩ us := λ w hw q u hu => by
       rw [addr_add, (hg.congr (hT (by rw [ho]; rfl) w hw L.b (.inr ⟨l, L, hL, by have := hp.1; omega, rfl⟩))).cell]
       exact hue q u hu
      have := run_loadAV hm (parts_rep (hur.mono (Ext.of_imm E)) hcs) hload hp.2
      rwa [addr_add, show i * k + (j + d) = i * L.k + j + d by rw [hLk]; omega] at this
     ·cases h
    ·cases h
   ·rename_i t' cs hl
    obtain ⟨L, us, hL, _, hk, hcap, hn, h0, hg, hr⟩ := hH _ _ hl
    have had' : Rep E [a.eval ad] (.ptr l i j d) := had
    obtain ⟨L', hL', hv⟩ := had'.ptr_inv
    rw [hL] at hL'
    injection hL' with hL'
    subst hL'
    rw [hv]
    have hm : ∀ w, T w -> Mem w ⟨L.b, 0, none⟩ us := λ w hw i u hu => by
     rw [addr_add, cell_of_row w L.b _ _ _ _ ((hT (by rw [ho]; rfl) w hw L.b (.inr ⟨l, L, hL, by omega, rfl⟩)).trans hg)]
     simpa using hu
    have := run_loadAV hm hr h hp
    rwa [addr_add, show 0 + (i + j + d) = i * L.k + j + d by rw [hk]; omega] at this
   ·cases h
  ·rename_i y j d hev
   rw [hev] at had
   split at h
   ·rename_i cs hcs
    have had' : Rep E [a.eval ad] (.ipt y j d) := had
    obtain ⟨a0, us, hF, hc, hr, hv⟩ := had'.ipt_inv
    rw [hv]
    exact run_loadAV (T := T) (λ w hw i u hu => by rw [World.cell?_of_block (w := E.w) (hT (by rw [ho]; rfl) w hw _ (.inl (by simpa using hF)))]; exact hc i u hu) (parts_rep (hr.mono (Ext.of_imm E)) hcs) h hp
   ·cases h
  ·cases h
 ·rename_i t y f ho
  split at h
  ·rename_i r hr
   simp only [Option.some.injEq, Prod.mk.injEq] at h
   obtain ⟨_, rfl⟩ := h
   simp only [ho]
   exact wrap (run_fieldAddr (hs.ev y) hr)
  ·cases h
 ·rename_i t y f ho
  simp only [ho]
  refine wrap ?_
  unfold aField at h
  split at h
  ·rename_i fl cs hf hev
   obtain ⟨fs, hu, hfs⟩ := fieldOf_spec hf
   have hy := hs.ev y
   rw [hev] at hy
   obtain ⟨us, hv, hr⟩ := hy
   obtain ⟨v, h1, h2⟩ := run_partAV hr h hp
   refine ⟨v, λ w => ?_, h2⟩
   simp [Instr.field, run_underlying hu, hfs, hv, asAgg, h1 w]
  ·cases h
 ·rename_i t y i ho
  simp only [ho]
  exact wrap (run_indexAddr hH (hs.ev y) (hs.ev i) h hp)
 ·rename_i t y i ho
  simp only [ho]
  refine wrap ?_
  unfold aIndex at h
  split at h
  ·rename_i str kk m hu hev hei
   simp only [Option.some.injEq, Prod.mk.injEq] at h
   obtain ⟨rfl, rfl⟩ := h
   have hy := hs.ev y
   have hi := hs.ev i
   rw [hev] at hy
   rw [hei] at hi
   have e1 := repV_pl hy
   have e2 := repV_int hi
   obtain ⟨m', rfl⟩ := Int.eq_ofNat_of_zero_le hp.1
   have hlt : m' < str.size := by have := hp.2; omega
   refine ⟨_, ?_, Rep.pl _ rfl⟩
   have hb : str[m']? = some (str.data.toList.getD m' 0) := by
    have h1 : str[m']? = some str[m'] := getElem?_pos str m' hlt
    rw [h1]
    have hlt' : m' < str.data.toList.length := by simpa using hlt
    rw [List.getD_eq_getElem?_getD, List.getElem?_eq_getElem hlt']
    rfl
   simp [Instr.index, e1, e2, asIntOf, run_underlying hu, hb]
  ·rename_i n e k n' f kk m hu hev hei
   split at h
   ·rename_i ha hz
    split at h
    ·rename_i hn
     subst hn
     simp only [Option.some.injEq, Prod.mk.injEq] at h
     obtain ⟨rfl, rfl⟩ := h
     have hy := hs.ev y
     have hi := hs.ev i
     rw [hev] at hy
     rw [hei] at hi
     obtain ⟨us, e1, hr⟩ := hy
     have e2 := repV_int hi
     obtain ⟨m', rfl⟩ := Int.eq_ofNat_of_zero_le hp.1
     have hlt : m' < n := by have := hp.2; omega
     obtain ⟨_, h3, _⟩ := hr.cons_inv
     have h4 := h3.iarr_inv.2 m' hlt
     simp only [cw] at h4
     rw [List.getElem?_take, if_pos hlt] at h4
     refine ⟨_, ?_, Rep.pl _ rfl⟩
     simp [Instr.index, e1, e2, asIntOf, run_underlying hu, hlt, run_sizeOf hz, run_part_cell ha us m' _ h4]
    ·cases h
   ·cases h
  ·rename_i n e s cs kk m hu hev hei
   split at h
   ·rename_i ss ha hz hss
    split at h
    ·rename_i hn
     simp only [Option.some.injEq, Prod.mk.injEq] at h
     obtain ⟨rfl, rfl⟩ := h
     have hy := hs.ev y
     have hi := hs.ev i
     rw [hev] at hy
     rw [hei] at hi
     obtain ⟨us, e1, hr⟩ := hy
     have e2 := repV_int hi
     obtain ⟨m', rfl⟩ := Int.eq_ofNat_of_zero_le hp.1
     have hlt : m' < n := by have := hp.2; omega
     have hus := rep_strs (cs := .pl (.string s) :: cs) (ss := s :: ss) (by simp only [strsOf, hss]) hr
     have h4 : us[m']? = some (.string ((s :: ss).getD m' ByteArray.empty)) := by
      rw [hus, List.getElem?_map, List.getD_eq_getElem?_getD, List.getElem?_eq_getElem (by simp; omega)]
      rfl
     refine ⟨_, ?_, Rep.pl _ rfl⟩
     simp [Instr.index, e1, e2, asIntOf, run_underlying hu, hlt, run_sizeOf hz, run_part_cell ha us m' _ h4]
    ·cases h
   ·cases h
  ·cases h
 ·rename_i t y lo hi mx ho
  simp only [ho]
  exact wrap (run_slice hH (hs.ev y) (optRep_map hs lo) (optRep_map hs hi) (optRep_map hs mx) h hp)
 ·rename_i op t y z yt ho
  split at h
  ·rename_i r hr
   simp only [Option.some.injEq, Prod.mk.injEq] at h
   obtain ⟨_, rfl⟩ := h
   simp only [ho]
   exact wrap (run_aBin (hs.ev y) (hs.ev z) hr)
  ·simp only [ho]
   exact wrap (run_aBinX (hs.ev y) (hs.ev z) h hp)
 ·rename_i y ho
  split at h
  ·rename_i hpt
   simp only [Option.some.injEq, Prod.mk.injEq] at h
   obtain ⟨_, rfl⟩ := h
   have hy := hs.ev y
   simp only [ho]
   revert hy hpt
   generalize s.ev y = z
   intro hpt hy
   cases z with
   | ptr l i j d =>
    have hy1 : Rep E [a.eval y] (.ptr l i j d) := hy
    obtain ⟨L, _, hv⟩ := hy1.ptr_inv
    exact ⟨_, λ w _ => by rw [hv]; rfl, hv ▸ hy⟩
   | ipt x j d =>
    have hy1 : Rep E [a.eval y] (.ipt x j d) := hy
    obtain ⟨a', ws, _, _, _, hv⟩ := hy1.ipt_inv
    exact ⟨_, λ w _ => by rw [hv]; rfl, hv ▸ hy⟩
   | _ => cases hpt
  ·cases h
 ·rename_i t y ho
  split at h
  ·rename_i v hT hev
   simp only [Option.some.injEq, Prod.mk.injEq] at h
   obtain ⟨_, rfl⟩ := h
   have hy := hs.ev y
   rw [hev] at hy
   have hy1 : Rep E [a.eval y] (.pl v) := hy
   simp only [ho]
   refine wrap ⟨.iface t (a.eval y), λ w => run_makeIface hT _ w, Rep.ifc (hy1.one _ List.mem_cons_self) hy1⟩
  ·rename_i l i j d hT hev
   simp only [Option.some.injEq, Prod.mk.injEq] at h
   obtain ⟨_, rfl⟩ := h
   have hy := hs.ev y
   rw [hev] at hy
   have hy1 : Rep E [a.eval y] (.ptr l i j d) := hy
   have h1 := hy1.one _ List.mem_cons_self
   simp only [ho]
   refine wrap ⟨.iface t (a.eval y), λ w => run_makeIface hT _ w, Rep.ifc h1 (.any _ h1)⟩
  ·cases h
 ·rename_i t y ho
  split at h
  ·rename_i b hev
   simp only [Option.some.injEq, Prod.mk.injEq] at h
   obtain ⟨_, rfl⟩ := h
   have hy := hs.ev y
   rw [hev] at hy
   simp only [ho]
   exact wrap ⟨_, λ w => by rw [repV_pl hy]; rfl, Rep.pl _ rfl⟩
  ·cases h
 ·rename_i src dst y ho
  split at h
  ·rename_i r hr
   simp only [Option.some.injEq, Prod.mk.injEq] at h
   obtain ⟨_, rfl⟩ := h
   simp only [ho]
   refine wrap ?_
   have hy := hs.ev y
   unfold aConv at hr
   split at hr
   ·rename_i k' k n1 kk n hu1 hu2 hev
    injection hr with hr
    subst hr
    rw [hev] at hy
    exact ⟨_, λ w => by rw [repV_pl hy]; simp [convert, run_underlying hu1, run_underlying hu2, Conv.intToInt], Rep.pl _ rfl⟩
   ·rename_i str hu1 hu2 hev
    injection hr with hr
    subst hr
    rw [hev] at hy
    exact ⟨_, λ w => by rw [repV_pl hy]; simp [convert, run_underlying hu1, run_underlying hu2], Rep.pl _ rfl⟩
   ·rename_i k' kk n hu1 hu2 hev
    injection hr with hr
    subst hr
    rw [hev] at hy
    exact ⟨_, λ w => by rw [repV_pl hy]; simp [convert, run_underlying hu1, run_underlying hu2, Conv.intToString], Rep.pl _ rfl⟩
   ·cases hr
  ·cases h
 ·rename_i t ix ho
  split at h
  ·rename_i xs hev
   split at h
   ·rename_i y hix
    simp only [Option.some.injEq, Prod.mk.injEq] at h
    obtain ⟨_, rfl⟩ := h
    have hy := hs.ev t
    rw [hev] at hy
    obtain ⟨vs, hv, hl, hr⟩ := hy
    simp only [ho]
    refine wrap ?_
    have hlt : ix < vs.length := by rw [hl]; exact (List.getElem?_eq_some_iff.1 hix).1
    refine ⟨vs[ix], ?_, ?_⟩
    ·simp [Instr.extract, hv, hlt]
    ·have := hr ix vs[ix] y (by simp [hlt]) hix
     cases y <;> first | exact this | exact this.elim
   ·cases h
  ·cases h
 ·rename_i fn first caps ho
  split at h
  ·rename_i hc
   simp only [Option.some.injEq, Prod.mk.injEq] at h
   obtain ⟨_, rfl⟩ := h
   simp only [ho]
   refine wrap ⟨.func fn #[] (caps.toList.map a.eval).toArray, ?_, ?_⟩
   ·have e1 : first = #[] := by
     have := hc.1
     rw [List.isEmpty_iff] at this
     exact Array.toList_eq_nil_iff.1 this
    simp [Instr.makeFunc, e1]
    apply Array.ext'
    simp
   ·refine Rep.clo (by simp) (λ i v c hv hcc => ?_)
    simp only [List.getElem?_map, Option.map_eq_some_iff] at hv hcc
    obtain ⟨q, hq, rfl⟩ := hv
    obtain ⟨q', hq', rfl⟩ := hcc
    rw [hq] at hq'
    injection hq' with hq'
    subst hq'
    have hone : oneAV (s.ev q) = true := by
     have := List.all_eq_true.1 hc.2 (s.ev q) (List.mem_map.2 ⟨q, List.mem_of_getElem? hq, rfl⟩)
     exact this
    have hq1 := hs.ev q
    revert hq1 hone
    generalize s.ev q = y
    intro hone hq1
    cases y <;> first | exact hq1 | (simp [oneAV] at hone)
  ·cases h
 ·rename_i b args argTypes ho
  split at h
  ·rename_i r hr
   simp only [Option.some.injEq, Prod.mk.injEq] at h
   obtain ⟨_, rfl⟩ := h
   have := run_min2 (E := E) (P := P) hr hs rfl o (by simpa using ho)
   unfold execOp at this
   exact drop this
  ·cases h
 ·cases h
theorem Same.refl (E : Env) : Same E E.w := λ _ _ => rfl
theorem run_pure {s : St} {a : Act} {o : Oper} {p : Prop} {x : AV} (hs : SlotsOk E a.tmps s.slots) (hH : ∀ l o, s.heap[l]? = some o -> ObjOk E l o) (h : pureOp P s o = some (p, x)) (hp : p) :
  ∃ v, (execOp a.eval o).run P E.w = .ok (.value v) E.w /\ RepV E v x := by
 obtain ⟨v, h1, h2⟩ := run_pureS (T := Same E) (λ _ _ h => h) hs hH h hp
 exact ⟨v, h1 _ (Same.refl E), h2⟩
end
end Go.Am

namespace Go.Am
open Go.RowKit
mutual
def immB : AV -> Bool
 | .any => true
 | .pl _ => true
 | .iarr _ _ _ => true
 | .agg cs => immL cs
 | .tup _ => false
 | .rows _ _ _ => true
 | .own _ _ _ => false
 | .ptr _ _ _ _ => false
 | .ipt _ _ _ => true
 | .clo _ cs => immL cs
 | .ifc _ x => immB x
 | .mp _ => false
 | .emp => true
def immL : List AV -> Bool
 | [] => true
 | c :: cs => immB c && immL cs
end
theorem immL_get {cs : List AV} (h : immL cs = true) {i : Nat} {c : AV} (hc : cs[i]? = some c) : immB c = true := by
 induction cs generalizing i with
 | nil => simp at hc
 | cons d cs ih =>
  simp only [immL, Bool.and_eq_true] at h
  cases i with
  | zero => simp at hc; subst hc; exact h.1
  | succ i => exact ih h.2 (by simpa using hc)
theorem rep_imm {E : Env} {us : List Value} {x : AV} (h : Rep E us x) : immB x = true -> Rep E.imm us x := by
 induction h with
 | any v h => intro _; exact .any v h
 | pl v h => intro _; exact .pl v h
 | iarr hl h => intro _; exact .iarr hl h
 | nil => intro _; exact .nil
 | cons hl _ _ ih1 ih2 =>
  intro hi
  simp only [immB, immL, Bool.and_eq_true] at hi ih2
  exact .cons hl (ih1 hi.1) (ih2 hi.2)
 | rows hc hm ha hl hcell h _ => intro _; exact .rows hc hm ha hl hcell h
 | ipt hF hcell h _ => intro _; exact .ipt hF hcell h
 | clo hl _ ih => intro hi; exact .clo hl (λ i v c hv hc => ih i v c hv hc (immL_get (by simpa [immB] using hi) hc))
 | ifc hv _ ih => intro hi; exact .ifc hv (ih (by simpa [immB] using hi))
 | ifca _ ih => intro hi; exact .ifca (ih (by simpa [immB] using hi))
 | emp A => intro _; exact .emp A
 | _ => intro hi; simp [immB] at hi
theorem Ext.repImm {E E' : Env} (e : Ext E E') {us : List Value} {x : AV} (h : Rep E.imm us x) : Rep E'.imm us x := h.mono e.imm
theorem ObjOk.mono {E E' : Env} {l : Nat} {o : LObj} (h : ObjOk E l o) (e : Ext E E') (hb : ∀ L, E.loc l = some L -> 0 < L.cap -> E'.w.heap[L.b]? = E.w.heap[L.b]?) : ObjOk E' l o := by
 cases o with
 | dead => trivial
 | box t cs =>
  obtain ⟨L, us, hL, ht, hc, hg, hr⟩ := h
  exact ⟨L, us, e.loc _ _ hL, ht, hc, by rw [hb L hL (by omega)]; exact hg, hr.mono e⟩
 | row k t n f =>
  obtain ⟨L, hL, ht, hk, hn, hm, hrow⟩ := h
  refine ⟨L, e.loc _ _ hL, ht, hk, hn, hm, λ hpos => ?_⟩
  obtain ⟨arr, hg, hsz, hel⟩ := hrow hpos
  refine ⟨arr, hg.congr (hb L hL hpos), hsz, λ i hi => ?_⟩
  obtain ⟨us, h1, h2, h3⟩ := hel i hi
  exact ⟨us, h1, h2.mono e.imm, h3⟩
 | prow t cs =>
  obtain ⟨L, us, hL, ht, hk, hc, hn, h0, hg, hr⟩ := h
  exact ⟨L, us, e.loc _ _ hL, ht, hk, hc, hn, h0, by rw [hb L hL (by omega)]; exact hg, hr.mono e⟩
 | raw ob =>
  obtain ⟨L, hL, hc, hg⟩ := h
  exact ⟨L, e.loc _ _ hL, hc, by rw [hb L hL (by omega)]; exact hg⟩
 | capo q c =>
  obtain ⟨L, hL, hc⟩ := h
  exact ⟨L, e.loc _ _ hL, hc⟩
 | mapo kt W has val =>
  obtain ⟨L, es, clock, hL, hc, hg, h1, h2, h3, h4⟩ := h
  exact ⟨L, es, clock, e.loc _ _ hL, hc, by rw [hb L hL (by omega)]; exact hg, h1, h2, h3, λ x hx => (h4 x hx).mono e.imm⟩
structure Keep (tl : List Nat) (E E' : Env) : Prop where
 os : E'.w.os = E.w.os
 tape : E'.w.tape = E.w.tape
 output : E'.w.output = E.w.output
 size : E.w.heap.size <= E'.w.heap.size
 block : ∀ b, b < E.w.heap.size -> (∀ l L, l ∈ tl -> E.loc l = some L -> 0 < L.cap -> b ≠ L.b) -> E'.w.heap[b]? = E.w.heap[b]?
 loc : ∀ l L', E'.loc l = some L' -> 0 < L'.cap -> E.w.heap.size <= L'.b ∨ ∃ l0 L, (l0 = l ∨ l0 ∈ tl) /\ E.loc l0 = some L /\ 0 < L.cap /\ L.b = L'.b
theorem Keep.refl (tl : List Nat) (E : Env) : Keep tl E E := ⟨rfl, rfl, rfl, Nat.le_refl _, λ _ _ _ => rfl, λ l L' h hc => .inr ⟨l, L', .inl rfl, h, hc, rfl⟩⟩
theorem Keep.below {E E' : Env} (h : Keep [] E E') : Below E.w.heap.size E.w E'.w :=
 ⟨h.os, h.tape, h.output, h.size, λ k hk => h.block k hk (λ l L hl => by cases hl)⟩
section new
variable {E0 E : Env} {H : List LObj}
def Env.new (E : Env) (l : Nat) (ob : Obj) (k cap : Nat) (t : TypeId) : Env :=
 { w := E.w.alloc ob, F := E.F, loc := λ i => if i = l then some ⟨E.w.heap.size, k, cap, t⟩ else E.loc i, m := E.m }
theorem ext_new (g : Gam E0 E H) (ob : Obj) (k cap : Nat) (t : TypeId) : Ext E (E.new H.length ob k cap t) :=
 ⟨λ _ h => h, λ a ha => World.cell?_of_block (w := E.w) (Below.heap_alloc E.w ob a.block (g.lt _ ha)), λ l L hL => by
  have := g.dom l L hL
  simp only [Env.new]
  rw [if_neg (by omega)]
  exact hL⟩
theorem gam_new (g : Gam E0 E H) (ob : Obj) (k cap : Nat) (t : TypeId) {o : LObj} (ho : ObjOk (E.new H.length ob k cap t) H.length o) : Gam E0 (E.new H.length ob k cap t) (H ++ [o]) where
 objs := by
  intro l o' hl
  rw [List.getElem?_append] at hl
  split at hl
  ·rename_i hlt
   refine (g.objs l o' hl).mono (ext_new g ob k cap t) (λ L hL hc => ?_)
   exact Below.heap_alloc E.w ob L.b (g.own l L hL hc).2.1
  ·rename_i hge
   have : l - H.length = 0 := by
    rcases Nat.eq_zero_or_pos (l - H.length) with h | h
    ·exact h
    ·rw [List.getElem?_eq_none (by simp; omega)] at hl; cases hl
   rw [this] at hl
   simp at hl
   subst hl
   rw [show l = H.length by omega]
   exact ho
 dom := by
  intro l L hL
  simp only [Env.new] at hL
  split at hL
  ·simp; omega
  ·have := g.dom l L hL; simp; omega
 own := by
  intro l L hL hc
  simp only [Env.new] at hL
  split at hL
  ·injection hL with hL
   subst hL
   refine ⟨λ ho => Nat.lt_irrefl _ (Env.old_lt g.below ho), by simp [Env.new], λ hF => ?_⟩
   have := g.lt _ hF
   simp at this
  ·have := g.own l L hL hc
   exact ⟨this.1, by simp [Env.new]; omega, this.2.2⟩
 inj := by
  intro l l' L L' hL hL' hc hc' hb
  simp only [Env.new] at hL hL'
  split at hL <;> split at hL'
  ·omega
  ·injection hL with hL
   subst hL
   have := (g.own l' L' hL' hc').2.1
   simp only at hb
   omega
  ·injection hL' with hL'
   subst hL'
   have := (g.own l L hL hc).2.1
   simp only at hb
   omega
  ·exact g.inj l l' L L' hL hL' hc hc' hb
 lt := by
  intro b hb
  have := g.lt b hb
  simp [Env.new]
  omega
 up := g.up
 down := g.down
 below := g.below.alloc ob
 stay := by
  intro l hl
  have := g.hm
  simp only [Env.new]
  rw [if_neg (by omega)]
  exact g.stay l hl
 hm := by have := g.hm; simp; omega
theorem keep_new (E : Env) (l : Nat) (ob : Obj) (k cap : Nat) (t : TypeId) : Keep [] E (E.new l ob k cap t) :=
 ⟨rfl, rfl, rfl, by simp [Env.new], λ b hb _ => Below.heap_alloc E.w ob b hb, λ q L' hL' hc => by
  simp only [Env.new] at hL'
  split at hL'
  ·injection hL' with hL'
   subst hL'
   exact .inl (Nat.le_refl _)
  ·exact .inr ⟨q, L', .inl rfl, hL', hc, rfl⟩⟩
end new
section store
variable {E0 E : Env} {H : List LObj}
def Env.set (E : Env) (b : Nat) (arr : Array Value) : Env := { E with w := E.w.setRow b arr }
theorem ext_set (g : Gam E0 E H) {l : Nat} {L : Loc} (hL : E.loc l = some L) (hc : 0 < L.cap) (arr : Array Value) : Ext E (E.set L.b arr) :=
 ⟨λ _ h => h, λ a ha => World.cell?_of_block (w := E.w) (setRow_other E.w L.b a.block arr (λ e => (g.own l L hL hc).2.2 (e ▸ ha))), λ _ _ h => h⟩
theorem gam_set (g : Gam E0 E H) {l : Nat} {L : Loc} (hL : E.loc l = some L) (hc : 0 < L.cap) (arr : Array Value) {o : LObj} (ho : ObjOk (E.set L.b arr) l o) : Gam E0 (E.set L.b arr) (H.set l o) where
 objs := by
  intro l' o' hl
  rw [List.getElem?_set] at hl
  split at hl
  ·rename_i he
   subst he
   split at hl
   ·injection hl with hl
    subst hl
    exact ho
   ·cases hl
  ·rename_i hne
   refine (g.objs l' o' hl).mono (ext_set g hL hc arr) (λ L' hL' hc' => ?_)
   refine setRow_other E.w L.b L'.b arr (λ e => hne ?_)
   exact g.inj l l' L L' hL hL' hc hc' e.symm
 dom := by intro l' L' hL'; simpa using g.dom l' L' hL'
 own := by intro l' L' hL' hc'; have := g.own l' L' hL' hc'; exact ⟨this.1, by simpa [Env.set] using this.2.1, this.2.2⟩
 inj := g.inj
 lt := by intro b hb; simpa [Env.set] using g.lt b hb
 up := g.up
 down := g.down
 below := by
  exact g.below.next rfl rfl rfl (by simp [Env.set]) (λ k hk => setRow_other E.w L.b k arr (λ e => (g.own l L hL hc).1 (e ▸ hk)))
 stay := g.stay
 hm := by rw [List.length_set]; exact g.hm
theorem keep_set (E : Env) {l : Nat} {L : Loc} (hL : E.loc l = some L) (hc : 0 < L.cap) (arr : Array Value) : Keep [l] E (E.set L.b arr) :=
 ⟨rfl, rfl, rfl, by simp [Env.set], λ b _ hne => setRow_other E.w L.b b arr (hne l L List.mem_cons_self hL hc), λ q L' hL' hc' => .inr ⟨q, L', .inl rfl, hL', hc', rfl⟩⟩
end store
end Go.Am

namespace Go.Am
open Go.RowKit
def storeC (P : Program) (t : TypeId) (cs : List AV) (j d : Nat) (x : AV) : Option (Prop × List AV) :=
 match dropC cs j, takeC cs j, x, szOf P t with
 | some (.iarr k n f :: rest), some pre, .pl (.int k' m), some 1 => if k = k' then some (d < n, pre ++ (.iarr k n (λ q => if q = d then m else f q) :: rest)) else none
 | _, _, _, _ => match d, szOf P t, partsOf x with
  | 0, some z, some new => match spliceC cs j new z with
   | some cs' => some (True, cs')
   | none => none
  | _, _, _ => none
section
variable {P : Program} {E : Env}
theorem rep_storeC {t : TypeId} {cs cs' : List AV} {us : List Value} {j d : Nat} {x : AV} {v : Value} {p : Prop} (h : Rep E us (.agg cs)) (hx : RepV E v x) (hs : storeC P t cs j d x = some (p, cs')) (hp : p) :
  Rep E (us.take (j + d) ++ (v.cells.toList ++ us.drop (j + d + v.cells.size))) (.agg cs') /\ szOf P t = some v.cells.size /\ j + d + v.cells.size <= us.length /\ ∀ u ∈ v.cells.toList, u.oneCell' = true := by
 unfold storeC at hs
 split at hs
 ·rename_i k n f rest pre k' m hd ht hz
  split at hs
  ·rename_i hk
   subst hk
   simp only [Option.some.injEq, Prod.mk.injEq] at hs
   obtain ⟨rfl, rfl⟩ := hs
   have hv := repV_int hx
   subst hv
   have h1 := rep_takeC h ht
   have h2 := rep_dropC h hd
   obtain ⟨h3, h4, h5⟩ := h2.cons_inv
   simp only [cw] at h3 h4 h5
   have h6 := h4.iarr_inv.2
   have hlen : n <= us.length - j := by
    rw [List.length_take, List.length_drop] at h3
    omega
   have hnew : Rep E ((us.drop j).take d ++ (.int k m :: (us.drop (j + d + 1)).take (n - d - 1))) (.iarr k n (λ q => if q = d then m else f q)) := by
    refine .iarr ?_ (λ i hi => ?_)
    ·simp only [List.length_append, List.length_take, List.length_drop, List.length_cons]
     omega
    ·have h7 := h6 i hi
     rw [List.getElem?_take, if_pos hi, List.getElem?_drop] at h7
     rw [List.getElem?_append]
     simp only [List.length_take, List.length_drop]
     rw [Nat.min_eq_left (by omega)]
     by_cases hid : i < d
     ·rw [if_pos hid, List.getElem?_take, if_pos hid, List.getElem?_drop, if_neg (by omega)]
      exact h7
     ·rw [if_neg hid]
      by_cases he : i = d
      ·subst he
       simp
      ·rw [if_neg he, show i - d = (i - d - 1) + 1 by omega, List.getElem?_cons_succ, List.getElem?_take, if_pos (by omega), List.getElem?_drop, show j + d + 1 + (i - d - 1) = j + i by omega]
       exact h7
   have hall := rep_append (Rep.cons (by simp only [List.length_append, List.length_take, List.length_drop, List.length_cons, cw]; omega) hnew h5) h1
   refine ⟨?_, by simpa [Value.cells] using hz, by simp [Value.cells]; omega, by simp [Value.cells, Value.oneCell']⟩
   have e : us.take j ++ ((us.drop j).take d ++ (.int k m :: (us.drop (j + d + 1)).take (n - d - 1)) ++ (us.drop j).drop n) = us.take (j + d) ++ ([Value.int k m] ++ us.drop (j + d + 1)) := by
    rw [List.take_add, List.append_assoc, List.append_assoc]
    congr 2
    simp only [List.cons_append, List.nil_append, List.cons.injEq, true_and, List.drop_drop]
    have e2 : us.drop (j + n) = (us.drop (j + d + 1)).drop (n - d - 1) := by rw [List.drop_drop]; congr 1; omega
    rw [e2, List.take_append_drop]
   rw [e] at hall
   simpa [Value.cells] using hall
  ·cases hs
 ·split at hs
  ·rename_i z new hz hn
   split at hs
   ·rename_i cs1 hsp
    simp only [Option.some.injEq, Prod.mk.injEq] at hs
    obtain ⟨_, rfl⟩ := hs
    have hparts := repV_parts hx hn
    obtain ⟨h1, h2, h3⟩ := rep_splice h hparts hsp
    have h2' : v.cells.size = z := by simpa using h2
    refine ⟨by rw [h2']; exact h1, by rw [h2']; exact hz, by rw [h2']; exact h3, hparts.one⟩
   ·cases hs
  ·cases hs
theorem CellsAt.setRow {w : World} {b : Nat} {arr : Array Value} {t : TypeId} {k : Nat} (h : CellsAt w b arr t k) (cs : Array Value) (hs : cs.size = arr.size) : CellsAt (w.setRow b cs) b cs t k := by
 obtain ⟨fr, h1, h2⟩ := h
 exact ⟨fr, setRow_heap w b arr cs t fr h1, h2.imp id λ h => ⟨by omega, h.2⟩⟩
theorem run_storeCells_atC (g o : Nat) (t : TypeId) {k : Nat} : ∀ (vs : List Value) (i : Nat) (cur : Array Value) (w : World), CellsAt w g cur t k -> o + i + vs.length <= cur.size -> (∀ v ∈ vs, v.oneCell' = true) ->
  (storeCells ⟨g, o, none⟩ vs i).run P w = .ok () (w.setRow g (cur.toList.take (o + i) ++ vs ++ cur.toList.drop (o + i + vs.length)).toArray)
 | [], i, cur, w, hg, _, _ => by
  obtain ⟨fr, hg, _⟩ := hg
  simp only [storeCells, List.append_nil, List.length_nil, Nat.add_zero, List.take_append_drop, Array.toArray_toList]
  rw [setRow_self w g cur t fr hg]
  rfl
 | v :: rest, i, cur, w, hC, hl, h1 => by
  have hi : o + i < cur.size := by simp at hl; omega
  have hadd : (⟨g, o, none⟩ : Addr).add i = ⟨g, o + i, none⟩ := by unfold Addr.add; split <;> simp_all
  have hcell : w.cell? ⟨g, o + i, none⟩ = some cur[o + i] := by rw [hC.cell]; simp [hi]
  have hfro : w.frozen? ⟨g, o + i, none⟩ = false := hC.free hi
  obtain ⟨fr, hg, _⟩ := id hC
  have hst : (store ((⟨g, o, none⟩ : Addr).add i) v).run P w = .ok () (w.setRow g (cur.setIfInBounds (o + i) v)) := by
   rw [hadd, run_store P w _ v _ (h1 v (by simp)), hcell]
   simp [hfro, setCell_eq_setRow w g (o + i) cur t fr v hg]
  have ih := run_storeCells_atC g o t rest (i + 1) (cur.setIfInBounds (o + i) v) (w.setRow g (cur.setIfInBounds (o + i) v)) (hC.setRow _ (by simp)) (by simp at hl ⊢; omega) (λ x hx => h1 x (by simp [hx]))
  simp only [storeCells, Sem.run_bind, hst, Result.andThen_ok, ih, setRow_setRow]
  congr 3
  have e := list_seg_step cur.toList (o + i) v rest (by simp at hl ⊢; omega)
  simpa [Array.toList_setIfInBounds, Nat.add_assoc] using e
theorem run_storeAt {t et : TypeId} {v : Value} {b o : Nat} {cur : Array Value} {w : World} {k : Nat} (hg : CellsAt w b cur et k) (hz : szOf P t = some v.cells.size) (hle : o + v.cells.size <= cur.size) (h1 : ∀ u ∈ v.cells.toList, u.oneCell' = true) :
  (Instr.storeAt t (.pointer (some ⟨b, o, none⟩)) v).run P w = .ok () (w.setRow b (cur.toList.take o ++ v.cells.toList ++ cur.toList.drop (o + v.cells.size)).toArray) := by
 have hst := run_storeCells_atC (P := P) b o et v.cells.toList 0 cur w hg (by simpa using hle) h1
 simp only [Instr.storeAt, Instr.sureAddr, storeVar, Sem.run_bind, Sem.run_pure, Result.andThen_ok, run_sizeOf hz, ne_eq, not_true_eq_false, if_false, hst]
 simp
def repack : AV -> List AV -> Option AV
 | .agg _, cs => some (.agg cs)
 | _, [.agg _] => none
 | _, [.tup _] => none
 | _, [.iarr ..] => none
 | _, [x] => some x
 | _, _ => none
theorem rep_repack {us : List Value} {x y : AV} {cs : List AV} (h : Rep E us (.agg cs)) (hr : repack x cs = some y) : Rep E us y := by
 unfold repack at hr
 split at hr
 ·injection hr with hr; subst hr; exact h
 ·cases hr
 ·cases hr
 ·cases hr
 ·rename_i x1 n1 n2 n3 n4
  injection hr with hr
  subst hr
  have hc1 : cw x1 = 1 := by cases x1 <;> first | rfl | exact (n4 _ _ _ rfl).elim | exact (n3 _ _ _ rfl).elim | exact (n2 _ _ _ rfl).elim
  obtain ⟨u, rfl, hu⟩ := rep_single_inv h hc1
  exact hu
 ·cases hr
def mix1 (c : Prop) [Decidable c] (x y : AV) : AV := match x, y with
 | .pl (.string a), .pl (.string b) => .pl (.string (if c then b else a))
 | .pl (.bool a), .pl (.bool b) => .pl (.bool (if c then b else a))
 | .pl (.int k a), .pl (.int k' b) => match decide (k = k') with
  | true => .pl (.int k (if c then b else a))
  | false => if c then y else x
 | .iarr k n f, .iarr k' n' g => match decide (k = k') && Nat.beq n n' with
  | true => .iarr k n (λ j => if c then g j else f j)
  | false => if c then y else x
 | _, _ => if c then y else x
theorem mix1_eq (c : Prop) [Decidable c] (x y : AV) : mix1 c x y = if c then y else x := by
 unfold mix1
 split
 ·split <;> rfl
 ·split <;> rfl
 ·split
  ·rename_i h
   obtain rfl := of_decide_eq_true h
   split <;> rfl
  ·rfl
 ·split
  ·rename_i h
   rw [Bool.and_eq_true] at h
   obtain rfl := of_decide_eq_true h.1
   obtain rfl := Nat.eq_of_beq_eq_true h.2
   split <;> rfl
  ·rfl
 ·rfl
def mixA (c : Prop) [Decidable c] (x y : AV) : AV := match x, y with
 | .agg as, .agg bs => match Nat.beq as.length bs.length with
  | true => .agg (List.zipWith (λ a b => mix1 c a b) as bs)
  | false => if c then y else x
 | _, _ => if c then y else x
theorem mixA_eq (c : Prop) [Decidable c] (x y : AV) : mixA c x y = if c then y else x := by
 unfold mixA
 have e1 : (λ a b => mix1 c a b) = λ a b : AV => if c then b else a := by funext a b; exact mix1_eq c a b
 rw [e1]
 split
 ·rename_i as bs
  split
  ·rename_i h
   replace h := Nat.eq_of_beq_eq_true h
   by_cases hc : c
   ·simp only [hc, if_true]
    congr 1
    clear hc
    induction as generalizing bs with
    | nil => cases bs with
     | nil => rfl
     | cons b bs => cases h
    | cons a as ih => cases bs with
     | nil => cases h
     | cons b bs => rw [List.zipWith_cons_cons, ih bs (by simpa using h)]
   ·simp only [hc, if_false]
    congr 1
    clear hc
    induction as generalizing bs with
    | nil => cases bs with
     | nil => rfl
     | cons b bs => cases h
    | cons a as ih => cases bs with
     | nil => cases h
     | cons b bs => rw [List.zipWith_cons_cons, ih bs (by simpa using h)]
  ·rfl
 ·rfl
def aStore (P : Program) (H : List LObj) (t : TypeId) (ad x : AV) : Option (Prop × List LObj) := match ad with
 | .ptr l i j d => match H[l]? with
  | some (.box bt cs) => match i, storeC P t cs j d x with
   | 0, some (p, cs') => some (p, H.set l (.box bt cs'))
   | _, _ => none
  | some (.row k bt n f) => match partsOf (f i) with
   | some cs => match storeC P t cs j d x with
    | some (p, cs') => match repack (f i) cs' with
     | some y => if immB x then some (i < n /\ p, H.set l (.row k bt n (λ q => mixA (q = i) (f q) y))) else none
     | none => none
    | none => none
   | none => none
  | _ => none
 | _ => none
def stTouch : AV -> List Nat
 | .ptr l _ _ _ => [l]
 | _ => []
theorem run_aStore {E0 : Env} {H H' : List LObj} (g : Gam E0 E H) {t : TypeId} {ad x : AV} {va vx : Value} {p : Prop} (ha : RepV E va ad) (hx : RepV E vx x) (h : aStore P H t ad x = some (p, H')) (hp : p) :
  ∃ E', (Instr.storeAt t va vx).run P E.w = .ok () E'.w /\ Ext E E' /\ Gam E0 E' H' /\ Keep (stTouch ad) E E' := by
 unfold aStore at h
 split at h
 ·rename_i l i j d
  have ha' : Rep E [va] (.ptr l i j d) := ha
  obtain ⟨L, hL, rfl⟩ := ha'.ptr_inv
  split at h
  ·rename_i bt cs hl
   split at h
   ·rename_i p' cs' hs
    simp only [Option.some.injEq, Prod.mk.injEq] at h
    obtain ⟨rfl, rfl⟩ := h
    obtain ⟨L', us, hL', ht, hc, hg, hr⟩ := g.objs _ _ hl
    rw [hL] at hL'
    injection hL' with hL'
    subst hL'
    obtain ⟨h1, h2, h3, h4⟩ := rep_storeC hr hx hs hp
    have hrun := run_storeAt (P := P) (o := j + d) (CellsAt.of (k := 0) hg) h2 (by simpa using h3) h4
    have hpos : 0 < L.cap := by omega
    refine ⟨E.set L.b _, by rw [show 0 * L.k + j + d = j + d by omega]; exact hrun, ext_set g hL hpos _, gam_set g hL hpos _ ?_, keep_set E hL hpos _⟩
    refine ⟨L, us.take (j + d) ++ (vx.cells.toList ++ us.drop (j + d + vx.cells.size)), hL, ht, hc, ?_, h1.mono (ext_set g hL hpos _)⟩
    have := setRow_heap E.w L.b us.toArray (us.take (j + d) ++ (vx.cells.toList ++ us.drop (j + d + vx.cells.size))).toArray bt (0, 0) hg
    simpa [Env.set, List.append_assoc] using this
   ·cases h
  ·rename_i k bt n f hl
   split at h
   ·rename_i cs hcs
    split at h
    ·rename_i p' cs' hs
     split at h
     ·rename_i y hy
      split at h
      ·rename_i him
       simp only [Option.some.injEq, Prod.mk.injEq] at h
       obtain ⟨rfl, rfl⟩ := h
       obtain ⟨L', hL', ht, hk, hn, hm, hrow⟩ := g.objs _ _ hl
       rw [hL] at hL'
       injection hL' with hL'
       subst hL'
       have hin : i < n := hp.1
       have hpos : 0 < L.cap := by omega
       obtain ⟨arr, hg, hsz, hel⟩ := hrow hpos
       obtain ⟨us, hul, hur, hue⟩ := hel i hin
       have hximm : RepV E.imm vx x := by
        cases x <;> first
         | exact rep_imm (show Rep E [vx] _ from hx) him
         |(obtain ⟨us', e1, e2⟩ := hx; exact ⟨us', e1, rep_imm e2 him⟩)
         | exact hx.elim
         |(simp [immB] at him; done)
         | exact trivial
       obtain ⟨h1, h2, h3, h4⟩ := rep_storeC (parts_rep hur hcs) hximm hs hp.2
       have hik : i * k + k <= arr.size := by
        rw [hsz]
        calc i * k + k = (i + 1) * k := by rw [Nat.add_mul]; omega
         _ <= L.cap * k := Nat.mul_le_mul_right k (by omega)
       have hrun := run_storeAt (P := P) (o := i * k + (j + d)) hg h2 (by omega) h4
       refine ⟨E.set L.b _, by rw [show i * L.k + j + d = i * k + (j + d) by rw [hk]; omega]; exact hrun, ext_set g hL hpos _, gam_set g hL hpos _ ?_, keep_set E hL hpos _⟩
       refine ⟨L, hL, ht, hk, hn, hm, λ _ => ⟨_, hg.setRow _ (by simp; omega), ?_, λ q hq => ?_⟩⟩
       ·simp
        omega
       ·have hzlen : vx.cells.toList.length = vx.cells.size := by simp
        by_cases hqi : q = i
        ·subst hqi
         refine ⟨us.take (j + d) ++ (vx.cells.toList ++ us.drop (j + d + vx.cells.size)), ?_, ?_, ?_⟩
         ·simp
          omega
         ·dsimp only
          rw [mixA_eq, if_pos rfl]
          exact (ext_set g hL hpos _).repImm (rep_repack h1 hy)
         ·intro r u hu
          have hrlt : r < k := by
           have := (List.getElem?_eq_some_iff.1 hu).1
           simp at this
           omega
          simp only [List.getElem?_toArray]
          rw [List.append_assoc]
          rw [List.getElem?_append] at hu ⊢
          simp only [List.length_take, Array.length_toList] at hu ⊢
          rw [Nat.min_eq_left (by omega)] at hu ⊢
          by_cases hr1 : r < j + d
          ·rw [if_pos hr1, List.getElem?_take, if_pos hr1] at hu
           rw [if_pos (by omega), List.getElem?_take, if_pos (by omega)]
           simpa using hue r u hu
          ·rw [if_neg hr1] at hu
           rw [if_neg (by omega), show q * k + r - (q * k + (j + d)) = r - (j + d) by omega]
           rw [List.getElem?_append] at hu ⊢
           rw [hzlen] at hu ⊢
           split
           ·rename_i hlt
            rw [if_pos hlt] at hu
            exact hu
           ·rename_i hge
            rw [if_neg hge, List.getElem?_drop] at hu
            rw [List.getElem?_drop]
            have := hue _ u hu
            rw [show q * k + (j + d) + vx.cells.size + (r - (j + d) - vx.cells.size) = q * k + (j + d + vx.cells.size + (r - (j + d) - vx.cells.size)) by omega]
            simpa using this
        ·obtain ⟨us', hul', hur', hue'⟩ := hel q hq
         refine ⟨us', hul', ?_, ?_⟩
         ·dsimp only
          rw [mixA_eq, if_neg hqi]
          exact (ext_set g hL hpos _).repImm hur'
         ·intro r u hu
          have hrlt : r < k := by
           have := (List.getElem?_eq_some_iff.1 hu).1
           omega
          have hold := hue' r u hu
          simp only [List.getElem?_toArray]
          rw [List.append_assoc, List.getElem?_append]
          simp only [List.length_take, Array.length_toList]
          rw [Nat.min_eq_left (by omega)]
          rcases Nat.lt_or_gt_of_ne hqi with hlt | hgt
          ·have : q * k + k <= i * k := by
            calc q * k + k = (q + 1) * k := by rw [Nat.add_mul]; omega
             _ <= i * k := Nat.mul_le_mul_right k (by omega)
           rw [if_pos (by omega), List.getElem?_take, if_pos (by omega)]
           simpa using hold
          ·have : i * k + k <= q * k := by
            calc i * k + k = (i + 1) * k := by rw [Nat.add_mul]; omega
             _ <= q * k := Nat.mul_le_mul_right k (by omega)
           rw [if_neg (by omega), List.getElem?_append, if_neg (by rw [hzlen]; omega), List.getElem?_drop, hzlen]
           rw [show i * k + (j + d) + vx.cells.size + (q * k + r - (i * k + (j + d)) - vx.cells.size) = q * k + r by omega]
           simpa using hold
      ·cases h
     ·cases h
    ·cases h
   ·cases h
  ·cases h
 ·cases h
end
end Go.Am

namespace Go.Am
open Go.RowKit
def flatE (us : Nat -> List Value) : Nat -> List Value
 | 0 => []
 | n + 1 => flatE us n ++ us n
theorem flatE_length {us : Nat -> List Value} {k : Nat} : ∀ {n : Nat}, (∀ i, i < n -> (us i).length = k) -> (flatE us n).length = n * k := by
 intro n
 induction n with
 | zero => intro _; simp [flatE]
 | succ n ih =>
  intro h
  simp only [flatE, List.length_append, ih (λ i hi => h i (by omega)), h n (by omega), Nat.add_mul]
  omega
theorem flatE_get {us : Nat -> List Value} {k : Nat} : ∀ {n : Nat}, (∀ i, i < n -> (us i).length = k) -> ∀ {i j : Nat}, i < n -> j < k -> (flatE us n)[i * k + j]? = (us i)[j]? := by
 intro n
 induction n with
 | zero => intro _ i j hi; omega
 | succ n ih =>
  intro h i j hi hj
  have hl := flatE_length (λ i hi => h i (by omega) : ∀ i, i < n -> (us i).length = k)
  simp only [flatE]
  rw [List.getElem?_append]
  by_cases hin : i < n
  ·have : i * k + k <= n * k := by
    calc i * k + k = (i + 1) * k := by rw [Nat.add_mul]; omega
     _ <= n * k := Nat.mul_le_mul_right k (by omega)
   rw [if_pos (by omega)]
   exact ih (λ i hi => h i (by omega)) hin hj
  ·obtain rfl : i = n := by omega
   rw [if_neg (by omega), hl, show i * k + j - i * k = j by omega]
theorem flatE_split {us : Nat -> List Value} {k n : Nat} (h : ∀ i, i < n -> (us i).length = k) {q : Nat} {u : Value} (hu : (flatE us n)[q]? = some u) : ∃ i j, i < n /\ j < k /\ q = i * k + j /\ (us i)[j]? = some u := by
 have hlt : q < n * k := by
  have := (List.getElem?_eq_some_iff.1 hu).1
  rwa [flatE_length h] at this
 have hk : 0 < k := by
  rcases Nat.eq_zero_or_pos k with h0 | h0
  ·subst h0; omega
  ·exact h0
 have h1 : q / k < n := Nat.div_lt_of_lt_mul (by rwa [Nat.mul_comm] at hlt)
 have h2 : q % k < k := Nat.mod_lt _ hk
 have h3 : q = q / k * k + q % k := by rw [Nat.mul_comm]; exact (Nat.div_add_mod q k).symm
 refine ⟨q / k, q % k, h1, h2, h3, ?_⟩
 rw [<- flatE_get h h1 h2, <- h3]
 exact hu
section
variable {P : Program}
def OwnsM (w : World) (e : TypeId) (size : Nat) (v : Value) (n : Nat) (xs : List Value) : Prop :=
 xs.length = n * size /\ ∃ g cap cur, v = .slice (some ⟨g, 0, none⟩) n cap /\ CellsAt w g cur e size /\ n <= cap /\ cap <= maxLen /\ cur.size = cap * size /\ cur.toList.take (n * size) = xs
theorem run_append_nothing0 (w : World) (t tx ty e : TypeId) (i : TypeInfo) (ht : P.underlying t = some (.slice e)) (hi : P.info? e = some i) (base : Option Addr) (x : Value) (hs : Src P i.size tx x 0 [] w) :
  (Builtin.append_ #[t, tx] ty #[.slice base 0 0, x]).run P w = .ok (.slice base 0 0) w := by
 rcases hs.kind with ⟨e', hk⟩ | hk <;> cases base <;> simp [Builtin.append_, run_underlying ht, run_underlying hk, sizeOf, typeInfo, hi, hs.len, hs.cells, storeCells]
theorem append_M (w : World) (t tx ty e : TypeId) (i : TypeInfo) (z : Value) (size bytes : Nat) (ht : P.underlying t = some (.slice e)) (hi : P.info? e = some i) (hz : i.zero = some z)
  (hsize : i.size = size) (hby : i.bytes = bytes) (hzs : z.cells.size = size)
  (v : Value) (n : Nat) (xs : List Value) (row : Option Nat) (hv : (∃ A, v = .slice A 0 0 /\ n = 0 /\ xs = [] /\ row = none) ∨ (OwnsM w e size v n xs /\ row = v.ownBlock))
  (x : Value) (m : Nat) (news : List Value) (hs : Src P size tx x m news w) (h63 : n + m <= maxLen) (hbytes : (n + m) * bytes <= 140737488355328) :
  ∃ v' w', (Builtin.append_ #[t, tx] ty #[v, x]).run P w = .ok v' w' /\ w.grownBy w' row /\
   ((∃ A', v' = .slice A' 0 0 /\ n + m = 0) ∨ (OwnsM w' e size v' (n + m) (xs ++ news) /\ (∃ g, v'.ownBlock = some g /\ (g = w.heap.size ∨ row = some g)))) := by
 subst hsize hby
 have hnl := hs.newsLen
 have hsmall : n + m <= 9223372036854775807 := by simp only [maxLen] at h63; omega
 have grow : ∀ (base : Option Addr) (sc : Nat) (row' : Option Nat), v = .slice base n sc -> sc < n + m -> xs.length = n * i.size -> (Builtin.firstCells i.size n (.slice base n sc)).run P w.drew = .ok xs.toArray w.drew ->
   ∃ v' w', (Builtin.append_ #[t, tx] ty #[v, x]).run P w = .ok v' w' /\ w.grownBy w' row' /\
   ((∃ A', v' = .slice A' 0 0 /\ n + m = 0) ∨ (OwnsM w' e i.size v' (n + m) (xs ++ news) /\ (∃ g, v'.ownBlock = some g /\ (g = w.heap.size ∨ row' = some g)))) := by
  rintro base sc row' rfl hg hxl hold
  have hrun := run_append_grow_src (P := P) w t tx ty e i z ht hi hz base n sc xs hold x m news hs hg (by omega) (growslice_fits hg hbytes)
  have hge := grownCap_ge w (n + m) sc e
  have hcm := grownCap_le_maxLen w (n + m) sc e h63
  have hL : (xs ++ news).length = (n + m) * i.size := by rw [List.length_append, hxl, hnl, Nat.add_mul]
  refine ⟨_, _, hrun, ⟨rfl, rfl, rfl, by simp, λ k hk _ => Below.heap_alloc w.drew _ k hk⟩, .inr ⟨⟨hL, w.heap.size, _, _, rfl, CellsAt.of (heap_alloc_new w.drew _), hge, hcm, ?_, ?_⟩, _, rfl, .inl rfl⟩⟩
  ·simp only [Array.size_append, List.size_toArray, size_zeroCells, hL, hzs, <- Nat.add_mul]
   congr 1
   omega
  ·simp only [Array.toList_append]
   rw [<- hL]
   exact List.take_left
 rcases hv with ⟨A, rfl, rfl, rfl, rfl⟩ | ⟨⟨hxl, g, cap, cur, rfl, hC, hnc, hcm, hcs, htk⟩, rfl⟩
 ·rcases Nat.eq_zero_or_pos m with rfl | hm
  ·have hn0 : news = [] := List.eq_nil_of_length_eq_zero (by simpa using hnl)
   subst hn0
   exact ⟨.slice A 0 0, w, run_append_nothing0 w t tx ty e i ht hi A x hs, ⟨rfl, rfl, rfl, Nat.le_refl _, λ _ _ _ => rfl⟩, .inl ⟨A, rfl, rfl⟩⟩
  ·refine grow A 0 none rfl (by omega) (by simp) ?_
   cases A with
   | none => simp [Builtin.firstCells]
   | some a => simp [Builtin.firstCells, loadCells, loadCellsFrom]
 ·by_cases hroom : n + m <= cap
  ·have hle : n * i.size + news.length <= cur.size := by
    rw [hnl, hcs, <- Nat.add_mul]
    exact Nat.mul_le_mul_right _ hroom
   have hst := run_storeCells_atC (P := P) g (n * i.size) e news 0 cur w hC (by omega) hs.one
   simp only [Nat.add_zero] at hst
   refine ⟨.slice (some ⟨g, 0, none⟩) (n + m) cap, w.setRow g (cur.toList.take (n * i.size) ++ news ++ cur.toList.drop (n * i.size + news.length)).toArray, ?_, ⟨rfl, rfl, rfl, by simp, λ k hk hne => setRow_other w g k _ (λ e => hne (by simp [Value.ownBlock, e]))⟩, .inr ⟨⟨by rw [List.length_append, hxl, hnl, Nat.add_mul], g, cap, _, rfl, hC.setRow _ (by simp; omega), hroom, hcm, ?_, ?_⟩, g, rfl, .inr rfl⟩⟩
   ·rcases hs.kind with ⟨e', hk⟩ | hk <;> simp [Builtin.append_, run_underlying ht, run_underlying hk, sizeOf, typeInfo, hi, hs.len, hroom, hs.cells, Addr.add_lit, hst]
   ·simp
    omega
   ·rw [htk]
    have : (xs ++ news).length = (n + m) * i.size := by rw [List.length_append, hxl, hnl, Nat.add_mul]
    rw [<- this]
    exact List.take_left
  ·refine grow (some ⟨g, 0, none⟩) cap _ rfl (by omega) hxl (run_firstCells_some w.drew i.size n ⟨g, 0, none⟩ n cap xs hxl (λ j u hu => ?_))
   have hj : j < xs.length := (List.getElem?_eq_some_iff.1 hu).1
   rw [<- htk, List.getElem?_take] at hu
   split at hu
   ·show w.drew.cell? _ = _
    have e1 : (⟨g, 0, none⟩ : Addr).add j = ⟨g, j, none⟩ := by unfold Addr.add; split <;> simp_all
    rw [e1]
    have := hC.cell j
    simp only [World.cell?] at this ⊢
    rw [show w.drew.heap = w.heap from rfl, this]
    simpa using hu
   ·cases hu
end
end Go.Am

namespace Go.Am
open Go.RowKit
mutual
def killB (l : Nat) : AV -> AV
 | .any => .any
 | .pl v => .pl v
 | .iarr k n f => .iarr k n f
 | .agg cs => .agg (killL l cs)
 | .tup vs => .tup (killL l vs)
 | .rows k n f => .rows k n f
 | .own l' a b => if l' = l then .any else .own l' a b
 | .ptr l' i j d => if l' = l then .any else .ptr l' i j d
 | .ipt x j d => .ipt x j d
 | .clo fn cs => .clo fn (killL l cs)
 | .ifc t x => .ifc t (killB l x)
 | .mp l' => if l' = l then .any else .mp l'
 | .emp => .emp
def killL (l : Nat) : List AV -> List AV
 | [] => []
 | c :: cs => killB l c :: killL l cs
end
theorem killL_get (l : Nat) : ∀ (cs : List AV) (i : Nat), (killL l cs)[i]? = (cs[i]?).map (killB l) := by
 intro cs
 induction cs with
 | nil => intro i; simp [killL]
 | cons c cs ih => intro i; cases i with
  | zero => simp [killL]
  | succ i => simpa [killL] using ih i
theorem killL_length (l : Nat) (cs : List AV) : (killL l cs).length = cs.length := by
 induction cs with
 | nil => simp [killL]
 | cons c cs ih => simp [killL, ih]
theorem cw_kill (l : Nat) (c : AV) : cw (killB l c) = cw c := by
 cases c <;> simp only [killB] <;> first | rfl | (split <;> rfl)
structure ExtBut (l : Nat) (E E' : Env) : Prop where
 F : ∀ b, E.F b -> E'.F b
 cell : ∀ a : Addr, E.F a.block -> E'.w.cell? a = E.w.cell? a
 loc : ∀ q L, q ≠ l -> E.loc q = some L -> E'.loc q = some L
theorem ExtBut.imm {l : Nat} {E E' : Env} (h : ExtBut l E E') : Ext E.imm E'.imm := ⟨h.F, h.cell, λ _ _ h => by simp at h⟩
theorem rep_kill {l : Nat} {E : Env} {us : List Value} {x : AV} (h : Rep E us x) : ∀ {E' : Env}, ExtBut l E E' -> Rep E' us (killB l x) := by
 induction h with
 | any v h => intro E' _; exact .any v h
 | pl v h => intro E' _; exact .pl v h
 | iarr hl h => intro E' _; exact .iarr hl h
 | nil => intro E' _; exact .nil
 | cons hl _ _ ih1 ih2 =>
  intro E' e
  have h2 := ih2 e
  simp only [killB] at h2
  simp only [killB, killL]
  exact .cons (by rw [cw_kill]; exact hl) (ih1 e) h2
 | rows hc hm ha hl hcell h _ =>
  intro E' e
  simp only [killB]
  refine .rows hc hm (λ h => ⟨(ha h).1, e.F _ (ha h).2⟩) hl (λ i hi j u hu => ?_) (λ i hi => (h i hi).mono e.imm)
  rw [e.cell _ (by rw [block_add]; exact (ha (by omega)).2)]
  exact hcell i hi j u hu
 | own hL hb ha =>
  intro E' e
  simp only [killB]
  split
  ·exact .any _ rfl
  ·rename_i hne
   exact .own (e.loc _ _ hne hL) hb ha
 | ptr hL =>
  intro E' e
  simp only [killB]
  split
  ·exact .any _ rfl
  ·rename_i hne
   exact .ptr (e.loc _ _ hne hL)
 | ipt hF hcell h _ =>
  intro E' e
  simp only [killB]
  refine .ipt (e.F _ hF) (λ i u hu => ?_) (h.mono e.imm)
  rw [e.cell _ (by rw [block_add]; exact hF)]
  exact hcell i u hu
 | clo hl h ih =>
  intro E' e
  simp only [killB]
  refine .clo (by rw [killL_length]; exact hl) (λ i v c hv hc => ?_)
  rw [killL_get, Option.map_eq_some_iff] at hc
  obtain ⟨c', hc', rfl⟩ := hc
  exact ih i v c' hv hc' e
 | ifc hv _ ih => intro E' e; simp only [killB]; exact .ifc hv (ih e)
 | ifca _ ih =>
  intro E' e
  have h2 := ih e
  simp only [killB] at h2 ⊢
  exact .ifca h2
 | mp hL =>
  intro E' e
  simp only [killB]
  split
  ·exact .any _ rfl
  ·rename_i hne
   exact .mp (e.loc _ _ hne hL)
 | emp A => intro E' _; exact .emp A
theorem repV1_kill {l : Nat} {E E' : Env} {v : Value} {x : AV} (h : RepV1 E v x) (e : ExtBut l E E') : RepV1 E' v (killB l x) := by
 cases x with
 | agg cs =>
  obtain ⟨us, hv, hr⟩ := h
  have := rep_kill hr e
  simp only [killB] at this ⊢
  exact ⟨us, hv, this⟩
 | any => exact trivial
 | iarr k n f => exact h.elim
 | tup vs => exact h.elim
 | own l' a b =>
  have := rep_kill (show Rep E [v] (.own l' a b) from h) e
  simp only [killB] at this ⊢
  split
  ·exact trivial
  ·rename_i hne; rw [if_neg hne] at this; exact this
 | ptr l' i j d =>
  have := rep_kill (show Rep E [v] (.ptr l' i j d) from h) e
  simp only [killB] at this ⊢
  split
  ·exact trivial
  ·rename_i hne; rw [if_neg hne] at this; exact this
 | mp l' =>
  have := rep_kill (show Rep E [v] (.mp l') from h) e
  simp only [killB] at this ⊢
  split
  ·exact trivial
  ·rename_i hne; rw [if_neg hne] at this; exact this
 | pl u => exact rep_kill (show Rep E [v] (.pl u) from h) e
 | rows k n f => exact rep_kill (show Rep E [v] (.rows k n f) from h) e
 | ipt y j d => exact rep_kill (show Rep E [v] (.ipt y j d) from h) e
 | clo fn cs => exact rep_kill (show Rep E [v] (.clo fn cs) from h) e
 | ifc t y => exact rep_kill (show Rep E [v] (.ifc t y) from h) e
 | emp => exact rep_kill (show Rep E [v] .emp from h) e
theorem repV_eq {E : Env} {v : Value} (x : AV) (h : ∀ xs, x ≠ .tup xs) : RepV E v x = RepV1 E v x := by
 cases x <;> first | rfl | exact absurd rfl (h _)
theorem repV_kill {l : Nat} {E E' : Env} {v : Value} {x : AV} (h : RepV E v x) (e : ExtBut l E E') : RepV E' v (killB l x) := by
 cases x with
 | tup xs =>
  obtain ⟨vs, hv, hl, hr⟩ := h
  refine ⟨vs, hv, by rw [killL_length]; exact hl, λ i u y hu hy => ?_⟩
  rw [killL_get, Option.map_eq_some_iff] at hy
  obtain ⟨y', hy', rfl⟩ := hy
  exact repV1_kill (hr i u y' hu hy') e
 | _ =>
  rw [repV_eq _ (by intro xs hh; cases hh)] at h
  rw [repV_eq _ (by intro xs hh; simp only [killB] at hh; first | cases hh | (split at hh <;> cases hh))]
  exact repV1_kill h e
def killO (l : Nat) : LObj -> LObj
 | .box t cs => .box t (killL l cs)
 | .prow t cs => .prow t (killL l cs)
 | .capo q c => if q = l then .dead else .capo q c
 | o => o
theorem ObjOk.kill {l q : Nat} {E E' : Env} {o : LObj} (h : ObjOk E q o) (e : ExtBut l E E') (hq : q ≠ l) (hb : ∀ L, E.loc q = some L -> 0 < L.cap -> E'.w.heap[L.b]? = E.w.heap[L.b]?) : ObjOk E' q (killO l o) := by
 cases o with
 | dead => trivial
 | box t cs =>
  obtain ⟨L, us, hL, ht, hc, hg, hr⟩ := h
  have := rep_kill hr e
  simp only [killB] at this
  exact ⟨L, us, e.loc _ _ hq hL, ht, hc, by rw [hb L hL (by omega)]; exact hg, this⟩
 | row k t n f =>
  obtain ⟨L, hL, ht, hk, hn, hm, hrow⟩ := h
  refine ⟨L, e.loc _ _ hq hL, ht, hk, hn, hm, λ hpos => ?_⟩
  obtain ⟨arr, hg, hsz, hel⟩ := hrow hpos
  refine ⟨arr, hg.congr (hb L hL hpos), hsz, λ i hi => ?_⟩
  obtain ⟨us, h1, h2, h3⟩ := hel i hi
  exact ⟨us, h1, h2.mono e.imm, h3⟩
 | prow t cs =>
  obtain ⟨L, us, hL, ht, hk, hc, hn, h0, hg, hr⟩ := h
  have := rep_kill hr e
  simp only [killB] at this
  exact ⟨L, us, e.loc _ _ hq hL, ht, hk, hc, by rw [killL_length]; exact hn, h0, by rw [hb L hL (by omega)]; exact hg, this⟩
 | raw ob =>
  obtain ⟨L, hL, hc, hg⟩ := h
  exact ⟨L, e.loc _ _ hq hL, hc, by rw [hb L hL (by omega)]; exact hg⟩
 | capo q2 c =>
  obtain ⟨L, hL, hc⟩ := h
  simp only [killO]
  split
  ·exact trivial
  ·rename_i hne; exact ⟨L, e.loc _ _ hne hL, hc⟩
 | mapo kt W has val =>
  obtain ⟨L, es, clock, hL, hc, hg, h1, h2, h3, h4⟩ := h
  exact ⟨L, es, clock, e.loc _ _ hq hL, hc, by rw [hb L hL (by omega)]; exact hg, h1, h2, h3, λ x hx => (h4 x hx).mono e.imm⟩
theorem GloE.kill [Inhabited GlT] {l : Nat} {E E' : Env} (h : GloE E) (e : ExtBut l E E') : GloE E' := h.next e.F e.cell e.imm
theorem SlotsOk.kill [Inhabited GlT] {l : Nat} {E E' : Env} {tmps : Array Value} {slots : List AV} (h : SlotsOk E tmps slots) (e : ExtBut l E E') : SlotsOk E' tmps (killL l slots) := by
 refine ⟨⟨by rw [killL_length]; exact h.1.1, h.1.2.kill e⟩, λ i v x hv hx => ?_⟩
 rw [killL_get, Option.map_eq_some_iff] at hx
 obtain ⟨y, hy, rfl⟩ := hx
 exact repV_kill (h.2 i v y hv hy) e
section grow
variable {E0 E : Env} {H : List LObj}
def Env.grow (E : Env) (w' : World) (l : Nat) (L : Loc) : Env := { w := w', F := E.F, loc := λ q => if q = l then some L else E.loc q, m := E.m }
theorem gam_push (g : Gam E0 E H) {w' : World} (hg : E.w.grownBy w' none) (L : Loc) (hL : 0 < L.cap -> L.b = E.w.heap.size /\ L.b < w'.heap.size) {o : LObj} (ho : ObjOk (E.grow w' H.length L) H.length o) :
  Ext E (E.grow w' H.length L) /\ Gam E0 (E.grow w' H.length L) (H ++ [o]) := by
 have hblk : ∀ b, b < E.w.heap.size -> w'.heap[b]? = E.w.heap[b]? := λ b hb => hg.block b hb (by simp)
 have e : Ext E (E.grow w' H.length L) := ⟨λ _ h => h, λ a ha => World.cell?_of_block (w := E.w) (hblk _ (g.lt _ ha)), λ l L' hL' => by
  have := g.dom l L' hL'
  simp only [Env.grow]
  rw [if_neg (by omega)]
  exact hL'⟩
 refine ⟨e, ?_⟩
 constructor
 ·intro l o' hl
  rw [List.getElem?_append] at hl
  split at hl
  ·exact (g.objs l o' hl).mono e (λ L' hL' hc => hblk _ (g.own l L' hL' hc).2.1)
  ·rename_i hge
   have : l - H.length = 0 := by
    rcases Nat.eq_zero_or_pos (l - H.length) with h | h
    ·exact h
    ·rw [List.getElem?_eq_none (by simp; omega)] at hl; cases hl
   rw [this] at hl
   simp at hl
   subst hl
   rw [show l = H.length by omega]
   exact ho
 ·intro l L' hL'
  simp only [Env.grow] at hL'
  split at hL'
  ·simp; omega
  ·have := g.dom l L' hL'; simp; omega
 ·intro l L' hL' hc
  simp only [Env.grow] at hL'
  split at hL'
  ·injection hL' with hL'
   subst hL'
   have := hL hc
   refine ⟨λ ho => by have := Env.old_lt g.below ho; omega, this.2, λ hF => ?_⟩
   have := g.lt _ hF
   omega
  ·have := g.own l L' hL' hc
   exact ⟨this.1, Nat.lt_of_lt_of_le this.2.1 hg.size, this.2.2⟩
 ·intro l l' L1 L2 h1 h2 hc hc' hb
  simp only [Env.grow] at h1 h2
  split at h1 <;> split at h2
  ·omega
  ·injection h1 with h1
   subst h1
   have := (g.own l' L2 h2 hc').2.1
   have := (hL hc).1
   omega
  ·injection h2 with h2
   subst h2
   have := (g.own l L1 h1 hc).2.1
   have := (hL hc').1
   omega
  ·exact g.inj l l' L1 L2 h1 h2 hc hc' hb
 ·intro b hb
  exact Nat.lt_of_lt_of_le (g.lt b hb) hg.size
 ·exact g.up
 ·exact g.down
 ·exact g.below.grown hg (λ k hk => by cases hk)
 ·intro l hl
  have := g.hm
  simp only [Env.grow]
  rw [if_neg (by omega)]
  exact g.stay l hl
 ·have := g.hm
  simp
  omega
def Env.move (E : Env) (w' : World) (l l2 : Nat) (L : Loc) : Env := { w := w', F := E.F, loc := λ q => if q = l2 then some L else if q = l then none else E.loc q, m := E.m }
theorem gam_move (g : Gam E0 E H) {w' : World} {row : Option Nat} (hg : E.w.grownBy w' row) {l : Nat} {L : Loc} (hL : E.loc l = some L) (hrow : ∀ b, row = some b -> 0 < L.cap /\ L.b = b) (L' : Loc)
  (hL' : 0 < L'.cap -> L'.b < w'.heap.size /\ (L'.b = E.w.heap.size ∨ (0 < L.cap /\ L'.b = L.b))) {o : LObj} (ho : ObjOk (E.move w' l H.length L') H.length o) :
  ExtBut l E (E.move w' l H.length L') /\ Gam E0 (E.move w' l H.length L') (((H.map (killO l)).set l .dead) ++ [o]) := by
 have hblk : ∀ b, b < E.w.heap.size -> (0 < L.cap -> b ≠ L.b) -> w'.heap[b]? = E.w.heap[b]? := λ b hb hne => hg.block b hb (λ e => by
  have := hrow b e.symm
  exact hne this.1 this.2.symm)
 have hlt := g.dom l L hL
 have e : ExtBut l E (E.move w' l H.length L') := ⟨λ _ h => h, λ a ha => World.cell?_of_block (w := E.w) (hblk _ (g.lt _ ha) (λ hc e => (g.own l L hL hc).2.2 (e ▸ ha))), λ q L1 hq hL1 => by
  have := g.dom q L1 hL1
  simp only [Env.move]
  rw [if_neg (by omega), if_neg hq]
  exact hL1⟩
 have hlen : ((H.map (killO l)).set l .dead).length = H.length := by simp
 have old : ∀ q L1, (E.move w' l H.length L').loc q = some L1 -> (q = H.length /\ L1 = L') ∨ (q ≠ H.length /\ q ≠ l /\ E.loc q = some L1) := by
  intro q L1 hL1
  simp only [Env.move] at hL1
  split at hL1
  ·rename_i he; injection hL1 with hL1; exact .inl ⟨he, hL1.symm⟩
  ·split at hL1
   ·cases hL1
   ·rename_i h1 h2; exact .inr ⟨h1, h2, hL1⟩
 have hnew : ∀ q L1, q ≠ l -> E.loc q = some L1 -> 0 < L1.cap -> 0 < L'.cap -> L1.b ≠ L'.b := by
  intro q L1 hq hL1 hc hc' he
  have h3 := (g.own q L1 hL1 hc).2.1
  rcases (hL' hc').2 with h | ⟨h4, h5⟩
  ·omega
  ·exact hq (g.inj q l L1 L hL1 hL hc h4 (by omega))
 refine ⟨e, ?_⟩
 constructor
 ·intro q o' hq
  rw [List.getElem?_append] at hq
  split at hq
  ·rename_i hql
   rw [List.getElem?_set] at hq
   split at hq
   ·split at hq
    ·injection hq with hq
     subst hq
     exact trivial
    ·cases hq
   ·rename_i hne
    rw [List.getElem?_map, Option.map_eq_some_iff] at hq
    obtain ⟨o1, ho1, rfl⟩ := hq
    exact (g.objs q o1 ho1).kill e (λ e => hne e.symm) (λ L1 hL1 hc => hblk _ (g.own q L1 hL1 hc).2.1 (λ hc' e => hne (g.inj l q L L1 hL hL1 hc' hc e.symm)))
  ·rename_i hge
   rw [hlen] at hge hq
   have : q - H.length = 0 := by
    rcases Nat.eq_zero_or_pos (q - H.length) with h | h
    ·exact h
    ·rw [List.getElem?_eq_none (by simp; omega)] at hq; cases hq
   rw [this] at hq
   simp at hq
   subst hq
   rw [show q = H.length by omega]
   exact ho
 ·intro q L1 hL1
  rcases old q L1 hL1 with ⟨rfl, _⟩ | ⟨_, _, h⟩
  ·simp
  ·have := g.dom q L1 h; simp; omega
 ·intro q L1 hL1 hc
  rcases old q L1 hL1 with ⟨rfl, rfl⟩ | ⟨_, _, h⟩
  ·have := hL' hc
   rcases this.2 with h | ⟨h1, h2⟩
   ·refine ⟨λ ho => by have := Env.old_lt g.below ho; omega, this.1, λ hF => ?_⟩
    have := g.lt _ hF
    omega
   ·have h3 := g.own l L hL h1
    exact ⟨by rw [h2]; exact h3.1, this.1, by rw [h2]; exact h3.2.2⟩
  ·have := g.own q L1 h hc
   exact ⟨this.1, Nat.lt_of_lt_of_le this.2.1 hg.size, this.2.2⟩
 ·intro q q' L1 L2 h1 h2 hc hc' hb
  rcases old q L1 h1 with ⟨rfl, rfl⟩ | ⟨ha, hb1, hc1⟩ <;> rcases old q' L2 h2 with ⟨rfl, rfl⟩ | ⟨ha', hb1', hc1'⟩
  ·rfl
  ·exact absurd hb.symm (hnew q' L2 hb1' hc1' hc' hc)
  ·exact absurd hb (hnew q L1 hb1 hc1 hc hc')
  ·exact g.inj q q' L1 L2 hc1 hc1' hc hc' hb
 ·intro b hb
  exact Nat.lt_of_lt_of_le (g.lt b hb) hg.size
 ·exact g.up
 ·exact g.down
 ·exact g.below.grown hg (λ k hk ho => by
   have := hrow k hk
   exact (g.own l L hL this.1).1 (by rw [this.2]; exact ho))
 ·intro q hq
  have := g.hm
  simp only [Env.move]
  rw [if_neg (by omega)]
  split
  ·exact .inr rfl
  ·exact g.stay q hq
 ·have := g.hm
  simp
  omega
theorem keep_grow {w' : World} (hg : E.w.grownBy w' none) (l : Nat) (L : Loc) (hL : 0 < L.cap -> L.b = E.w.heap.size /\ L.b < w'.heap.size) (tl : List Nat) : Keep tl E (E.grow w' l L) :=
 ⟨hg.os, hg.tape, hg.output, hg.size, λ b hb _ => hg.block b hb (by simp), λ q L' hL' hc => by
  simp only [Env.grow] at hL'
  split at hL'
  ·injection hL' with hL'
   subst hL'
   exact .inl (by rw [(hL hc).1]; exact Nat.le_refl _)
  ·exact .inr ⟨q, L', .inl rfl, hL', hc, rfl⟩⟩
theorem keep_move {w' : World} {row : Option Nat} (hg : E.w.grownBy w' row) {l l2 : Nat} {L : Loc} (hL : E.loc l = some L) (hrow : ∀ b, row = some b -> 0 < L.cap /\ L.b = b) (L' : Loc)
  (hL' : 0 < L'.cap -> L'.b < w'.heap.size /\ (L'.b = E.w.heap.size ∨ (0 < L.cap /\ L'.b = L.b))) : Keep [l] E (E.move w' l l2 L') :=
 ⟨hg.os, hg.tape, hg.output, hg.size, λ b hb hne => hg.block b hb (λ e => by
  have := hrow b e.symm
  exact hne l L List.mem_cons_self hL this.1 this.2.symm), λ q L1 hL1 hc => by
  simp only [Env.move] at hL1
  split at hL1
  ·injection hL1 with hL1
   subst hL1
   rcases (hL' hc).2 with h | ⟨h1, h2⟩
   ·exact .inl (by omega)
   ·exact .inr ⟨l, L, .inr List.mem_cons_self, hL, h1, h2.symm⟩
  ·split at hL1
   ·cases hL1
   ·exact .inr ⟨q, L1, .inl rfl, hL1, hc, rfl⟩⟩
end grow
end Go.Am

namespace Go.Am
open Go.RowKit
variable [Inhabited GlT]
def srcOf (H : List LObj) : AV -> Option (Prop × Nat × Nat × (Nat -> AV))
 | .rows k m f => some (True, k, m, f)
 | .own l off m => match H[l]? with
  | some (.row k _ n f) => some (off + m <= n, k, m, λ i => f (off + i))
  | _ => none
 | _ => none
def srcAt (H : List LObj) (k : Nat) (y : AV) : Option (Prop × Nat × (Nat -> AV)) := match y with
 | .emp => some (True, 0, λ _ => .any)
 | .pl (.slice none 0 0) => some (True, 0, λ _ => .any)
 | y => match srcOf H y with
  | some (p, k', m, f) => if k' = k then some (p, m, f) else none
  | none => none
section
variable {P : Program} {E0 E : Env} {H : List LObj}
theorem src_spec (g : Gam E0 E H) {v : Value} {y : AV} {p : Prop} {k m : Nat} {f : Nat -> AV} (hy : RepV E v y) (h : srcAt H k y = some (p, m, f)) (hp : p) :
  ∃ (A : Option Addr) (c : Nat) (us : Nat -> List Value) (a : Addr), v = .slice A m c /\ (0 < m -> A = some a) /\ (∀ i, i < m -> (us i).length = k) /\ (∀ i, i < m -> Rep E.imm (us i) (f i)) /\
   ∀ i, i < m -> ∀ (j : Nat) (u : Value), (us i)[j]? = some u -> E.w.cell? (a.add (i * k + j)) = some u := by
 unfold srcAt at h
 split at h
 ·simp only [Option.some.injEq, Prod.mk.injEq] at h
  obtain ⟨_, rfl, rfl⟩ := h
  obtain ⟨A, rfl⟩ := Rep.emp_inv (show Rep E [v] .emp from hy)
  exact ⟨A, 0, λ _ => [], default, rfl, by omega, by omega, by omega, by omega⟩
 ·simp only [Option.some.injEq, Prod.mk.injEq] at h
  obtain ⟨_, rfl, rfl⟩ := h
  obtain rfl := repV_pl hy
  exact ⟨none, 0, λ _ => [], default, rfl, by omega, by omega, by omega, by omega⟩
 ·split at h
  ·rename_i p' k' m' f' hs
   split at h
   ·rename_i hk
    subst hk
    simp only [Option.some.injEq, Prod.mk.injEq] at h
    obtain ⟨rfl, rfl, rfl⟩ := h
    unfold srcOf at hs
    split at hs
    ·simp only [Option.some.injEq, Prod.mk.injEq] at hs
     obtain ⟨_, rfl, rfl, rfl⟩ := hs
     obtain ⟨A, cap, us, a, hc, hm, ha, hl, hcell, hr, rfl⟩ := Rep.rows_inv (show Rep E [v] (.rows _ _ _) from hy)
     exact ⟨A, cap, us, a, rfl, λ h => (ha h).1, hl, hr, hcell⟩
    ·rename_i l off m2 _ _
     split at hs
     ·rename_i k2 t2 n2 f2 hl
      simp only [Option.some.injEq, Prod.mk.injEq] at hs
      obtain ⟨rfl, rfl, rfl, rfl⟩ := hs
      obtain ⟨L, A, hL, hb, ha, rfl⟩ := Rep.own_inv (show Rep E [v] (.own l off m2) from hy)
      obtain ⟨L', hL', ht, hk, hn, hmx, hrow⟩ := g.objs _ _ hl
      rw [hL] at hL'
      injection hL' with hL'
      subst hL'
      by_cases hpos : 0 < L.cap
      ·obtain ⟨arr, hg, hsz, hel⟩ := hrow hpos
       have hel' : ∀ i, ∃ us : List Value, i < n2 -> us.length = k2 /\ Rep E.imm us (f2 i) /\ ∀ (j : Nat) (u : Value), us[j]? = some u -> arr[i * k2 + j]? = some u := by
        intro i
        by_cases hi : i < n2
        ·obtain ⟨us, hus⟩ := hel i hi
         exact ⟨us, λ _ => hus⟩
        ·exact ⟨[], λ h => absurd h hi⟩
       refine ⟨A, L.cap - off, λ i => Classical.choose (hel' (off + i)), ⟨L.b, off * k2, none⟩, rfl, λ hm0 => by rw [ha (by omega), hk], λ i hi => ?_, λ i hi => ?_, λ i hi j u hu => ?_⟩
       ·exact (Classical.choose_spec (hel' (off + i)) (by omega)).1
       ·exact (Classical.choose_spec (hel' (off + i)) (by omega)).2.1
       ·have := (Classical.choose_spec (hel' (off + i)) (by omega)).2.2 j u hu
        rw [addr_add, hg.cell, show off * k2 + (i * k2 + j) = (off + i) * k2 + j by rw [Nat.add_mul]; omega]
        exact this
      ·exact ⟨A, L.cap - off, λ _ => [], default, rfl, by omega, by omega, by omega, by omega⟩
     ·cases hs
    ·cases hs
   ·cases h
  ·cases h
def apInfo (P : Program) (t : TypeId) : Option (TypeId × Nat × Nat) := match P.underlying t with
 | some (.slice e) => match P.info? e with
  | some i => match i.zero with
   | some z => if z.cells.size = i.size /\ 0 < i.size then some (e, i.size, i.bytes) else none
   | none => none
  | none => none
 | _ => none
def appTo (s : St) (e : TypeId) (k bytes : Nat) (p : Prop) (m : Nat) (f : Nat -> AV) (x : AV) : Option (Prop × St × AV) := match x with
 | .emp => some (p /\ m <= maxLen /\ m * bytes <= 140737488355328, { s with heap := s.heap ++ [.row k e m f] }, .own s.heap.length 0 m)
 | .pl (.slice none 0 0) => some (p /\ m <= maxLen /\ m * bytes <= 140737488355328, { s with heap := s.heap ++ [.row k e m f] }, .own s.heap.length 0 m)
 | .own l 0 len => match s.heap[l]? with
  | some (.row k2 e2 n g) => if k2 = k /\ e2 = e then
    some (p /\ len = n /\ n + m <= maxLen /\ (n + m) * bytes <= 140737488355328,
     { slots := killL l s.slots, heap := ((s.heap.map (killO l)).set l .dead) ++ [.row k e (n + m) (λ i => if i < n then g i else f (i - n))] }, .own s.heap.length 0 (n + m)) else none
  | _ => none
 | _ => none
def aAppend (P : Program) (s : St) (t : TypeId) (x y : AV) : Option (Prop × St × AV) := match apInfo P t with
 | some (e, k, bytes) => match srcAt s.heap k y with
  | some (p, m, f) => appTo s e k bytes p m f x
  | none => none
 | none => none
def byteT (P : Program) (e : TypeId) : Bool := match P.info? e with
 | some i => match i.zero with
  | some (.int .u8 0) => Nat.beq i.bytes 1
  | _ => false
 | none => false
def aAppendS (P : Program) (s : St) (t t2 : TypeId) (x y : AV) : Option (Prop × St × AV) := match apInfo P t, P.underlying t2, y with
 | some (e, k, bytes), some .string, .pl (.string b) => match byteT P e, Nat.beq k 1 with
  | true, true => appTo s e k bytes True b.size (λ i => .pl (.int .u8 (b.data.toList.getD i 0).toNat)) x
  | _, _ => none
 | _, _, _ => none
theorem apInfo_spec {t e : TypeId} {k b : Nat} (h : apInfo P t = some (e, k, b)) : P.underlying t = some (.slice e) /\ ∃ (i : TypeInfo) (z : Value), P.info? e = some i /\ i.zero = some z /\ i.size = k /\ i.bytes = b /\ z.cells.size = k /\ 0 < k := by
 unfold apInfo at h
 split at h
 ·rename_i e' hu
  split at h
  ·rename_i i hi
   split at h
   ·rename_i z hz
    split at h
    ·rename_i hc
     simp only [Option.some.injEq, Prod.mk.injEq] at h
     obtain ⟨rfl, rfl, rfl⟩ := h
     exact ⟨hu, i, z, hi, hz, rfl, rfl, hc.1, hc.2⟩
    ·cases h
   ·cases h
  ·cases h
 ·cases h
theorem obj_of_own {E' : Env} {base e k N : Nat} {v' : Value} {zs : List Value} {us : Nat -> List Value} {f : Nat -> AV} {l : Nat} {L : Loc} (hL : E'.loc l = some L)
  (hv : (∃ A', v' = .slice A' 0 0 /\ N = 0 /\ L = ⟨0, k, 0, e⟩) ∨ (∃ g cap cur, v' = .slice (some ⟨g, 0, none⟩) N cap /\ CellsAt E'.w g cur e k /\ N <= cap /\ cap <= maxLen /\ cur.size = cap * k /\ cur.toList.take (N * k) = zs /\ L = ⟨g, k, cap, e⟩))
  (hzs : ∀ i j, i < N -> j < k -> zs[i * k + j]? = (us i)[j]?) (hus : ∀ i, i < N -> (us i).length = k) (hr : ∀ i, i < N -> Rep E'.imm (us i) (f i)) (_ : base = base) :
  ObjOk E' l (.row k e N f) /\ Rep E' [v'] (.own l 0 N) := by
 rcases hv with ⟨A', rfl, rfl, rfl⟩ | ⟨g, cap, cur, rfl, hg, hn, hm, hsz, htk, rfl⟩
 ·refine ⟨⟨_, hL, rfl, rfl, Nat.le_refl _, by simp, λ h => by simp at h⟩, ?_⟩
  have := Rep.own (E := E') (l := l) (off := 0) (len := 0) (A := A') hL (by simp) (by simp)
  simpa using this
 ·refine ⟨⟨_, hL, rfl, rfl, hn, hm, λ _ => ⟨cur, hg, hsz, λ i hi => ⟨us i, hus i hi, hr i hi, λ j u hu => ?_⟩⟩⟩, ?_⟩
  ·have hj : j < k := by rw [<- hus i hi]; exact (List.getElem?_eq_some_iff.1 hu).1
   rw [<- hzs i j hi hj, <- htk, List.getElem?_take] at hu
   split at hu
   ·simpa using hu
   ·cases hu
  ·have := Rep.own (E := E') (l := l) (off := 0) (len := N) (A := some ⟨g, 0, none⟩) hL (by simpa using hn) (λ _ => by simp)
   simpa using this
def apTouch : AV -> List Nat
 | .own l _ _ => [l]
 | _ => []
def AppSrc (P : Program) (E : Env) (t t2 ty e : TypeId) (k bytes m : Nat) (f : Nat -> AV) (vy : Value) : Prop :=
 ∃ us : Nat -> List Value, (∀ i, i < m -> (us i).length = k) /\ (∀ i, i < m -> Rep E.imm (us i) (f i)) /\
  ∀ (v : Value) (n : Nat) (xs : List Value) (row : Option Nat), ((∃ A, v = .slice A 0 0 /\ n = 0 /\ xs = [] /\ row = none) ∨ (OwnsM E.w e k v n xs /\ row = v.ownBlock)) -> n + m <= maxLen -> (n + m) * bytes <= 140737488355328 ->
   ∃ v' w', (Builtin.append_ #[t, t2] ty #[v, vy]).run P E.w = .ok v' w' /\ E.w.grownBy w' row /\
    ((∃ A', v' = .slice A' 0 0 /\ n + m = 0) ∨ (OwnsM w' e k v' (n + m) (xs ++ flatE us m) /\ (∃ g, v'.ownBlock = some g /\ (g = E.w.heap.size ∨ row = some g))))
theorem run_appTo {s s' : St} {tmps : Array Value} (g : Gam E0 E s.heap) (hs : SlotsOk E tmps s.slots) {t t2 ty e : TypeId} {k bytes m : Nat} {f : Nat -> AV} {q : Prop} {x z : AV} {vx vy : Value} {p : Prop} (hx : RepV E vx x) (hk0 : 0 < k) (hsrc : q -> AppSrc P E t t2 ty e k bytes m f vy) (h : appTo s e k bytes q m f x = some (p, s', z)) (hp : p) :
  ∃ v' E', (Builtin.append_ #[t, t2] ty #[vx, vy]).run P E.w = .ok v' E'.w /\ Gam E0 E' s'.heap /\ SlotsOk E' tmps s'.slots /\ RepV E' v' z /\ Keep (apTouch x) E E' := by
   unfold appTo at h
   have fresh : ∀ A0, vx = .slice A0 0 0 -> (some (q /\ m <= maxLen /\ m * bytes <= 140737488355328, ({ s with heap := s.heap ++ [.row k e m f] } : St), AV.own s.heap.length 0 m) = some (p, s', z)) ->
     ∃ v' E', (Builtin.append_ #[t, t2] ty #[vx, vy]).run P E.w = .ok v' E'.w /\ Gam E0 E' s'.heap /\ SlotsOk E' tmps s'.slots /\ RepV E' v' z /\ Keep (apTouch x) E E' := by
    rintro A0 rfl h
    simp only [Option.some.injEq, Prod.mk.injEq] at h
    obtain ⟨rfl, rfl, rfl⟩ := h
    obtain ⟨hq, hm1, hm2⟩ := hp
    obtain ⟨us, hl, hr, hrunG⟩ := hsrc hq
    obtain ⟨v', w', hrun, hgrow, hv'⟩ := hrunG (.slice A0 0 0) 0 [] none (.inl ⟨A0, rfl, rfl, rfl, rfl⟩) (by simpa using hm1) (by simpa using hm2)
    have hL : ∃ L : Loc, (0 < L.cap -> L.b = E.w.heap.size /\ L.b < w'.heap.size) /\ ((∃ A', v' = .slice A' 0 0 /\ m = 0 /\ L = ⟨0, k, 0, e⟩) ∨
      (∃ g cap cur, v' = .slice (some ⟨g, 0, none⟩) m cap /\ CellsAt w' g cur e k /\ m <= cap /\ cap <= maxLen /\ cur.size = cap * k /\ cur.toList.take (m * k) = flatE us m /\ L = ⟨g, k, cap, e⟩)) := by
     rcases hv' with ⟨A', hv1, hm0⟩ | ⟨hown, g', hg', hg2⟩
     ·exact ⟨⟨0, k, 0, e⟩, λ h => by simp at h, .inl ⟨A', hv1, by omega, rfl⟩⟩
     ·obtain ⟨_, g1, cap, cur, hv1, h2, h3, h4, h5, h6⟩ := hown
      ·have : g' = g1 := by rw [hv1] at hg'; simpa [Value.ownBlock] using hg'.symm
       subst this
       refine ⟨⟨g', k, cap, e⟩, λ _ => ⟨?_, ?_⟩, .inr ⟨g', cap, cur, by simpa using hv1, h2, by simpa using h3, h4, h5, by simpa using h6, rfl⟩⟩
       ·rcases hg2 with h | h
        ·exact h
        ·cases h
       ·exact h2.lt
    obtain ⟨L, hLb, hLv⟩ := hL
    have hgl : (E.grow w' s.heap.length L).loc s.heap.length = some L := by simp [Env.grow]
    have hE : ∀ us' x', Rep E.imm us' x' -> Rep (E.grow w' s.heap.length L).imm us' x' := λ us' x' h => h.mono ⟨λ _ h => h, λ a' ha' => World.cell?_of_block (w := E.w) (hgrow.block _ (g.lt _ ha') (by simp)), λ _ _ h => by simp at h⟩
    obtain ⟨hobj, hrep⟩ := obj_of_own (E' := E.grow w' s.heap.length L) (us := us) (f := f) (zs := flatE us m) hgl hLv (λ i' j' hi' hj' => flatE_get hl hi' hj') hl (λ i' hi' => hE _ _ (hr i' hi')) (rfl : (0 : Nat) = 0)
    obtain ⟨e1, g1⟩ := gam_push g hgrow L hLb hobj
    exact ⟨v', _, hrun, g1, hs.mono e1, hrep, keep_grow hgrow _ L hLb _⟩
   split at h
   ·obtain ⟨A0, hv⟩ := Rep.emp_inv (show Rep E [vx] .emp from hx)
    exact fresh A0 hv h
   ·exact fresh none (repV_pl hx) h
   ·rename_i l len
    split at h
    ·rename_i k2 e2 n gf hl
     split at h
     ·rename_i hke
      obtain ⟨rfl, rfl⟩ := hke
      simp only [Option.some.injEq, Prod.mk.injEq] at h
      obtain ⟨rfl, rfl, rfl⟩ := h
      obtain ⟨hq, rfl, hm1, hm2⟩ := hp
      obtain ⟨us, hul, hr, hrunG⟩ := hsrc hq
      obtain ⟨L, A0, hL, hb, ha, rfl⟩ := Rep.own_inv (show Rep E [vx] (.own l 0 len) from hx)
      obtain ⟨L', hL', hLt, hLk, hLn, hLm, hrow⟩ := g.objs _ _ hl
      rw [hL] at hL'
      injection hL' with hL'
      subst hL'
      have hold : ∃ (ws : Nat -> List Value) (xs : List Value) (row : Option Nat), (∀ i, i < len -> (ws i).length = k2) /\ (∀ i, i < len -> Rep E.imm (ws i) (gf i)) /\ xs = flatE ws len /\ (∀ b, row = some b -> 0 < L.cap /\ L.b = b) /\
        ((∃ A, Value.slice A0 len (L.cap - 0) = .slice A 0 0 /\ len = 0 /\ xs = [] /\ row = none) ∨ (OwnsM E.w e2 k2 (.slice A0 len (L.cap - 0)) len xs /\ row = Value.ownBlock (.slice A0 len (L.cap - 0)))) := by
       by_cases hpos : 0 < L.cap
       ·obtain ⟨arr, hg, hsz, hel⟩ := hrow hpos
        have hel' : ∀ i, ∃ us : List Value, i < len -> us.length = k2 /\ Rep E.imm us (gf i) /\ ∀ (j : Nat) (u : Value), us[j]? = some u -> arr[i * k2 + j]? = some u := by
         intro i
         by_cases hi : i < len
         ·obtain ⟨us, hus⟩ := hel i hi
          exact ⟨us, λ _ => hus⟩
         ·exact ⟨[], λ h => absurd h hi⟩
        have hwl : ∀ i, i < len -> (Classical.choose (hel' i)).length = k2 := λ i hi => (Classical.choose_spec (hel' i) hi).1
        have hxs : arr.toList.take (len * k2) = flatE (λ i => Classical.choose (hel' i)) len := by
         have hle : len * k2 <= arr.size := by rw [hsz]; exact Nat.mul_le_mul_right k2 hLn
         apply List.ext_getElem?
         intro q
         by_cases hq' : q < len * k2
         ·have hk0 : 0 < k2 := by
           rcases Nat.eq_zero_or_pos k2 with h0 | h0
           ·subst h0; omega
           ·exact h0
          have h1 : q / k2 < len := Nat.div_lt_of_lt_mul (by rwa [Nat.mul_comm] at hq')
          have h2 : q % k2 < k2 := Nat.mod_lt _ hk0
          have h3 : q = q / k2 * k2 + q % k2 := by rw [Nat.mul_comm]; exact (Nat.div_add_mod q k2).symm
          have h4 := flatE_get (us := λ i => Classical.choose (hel' i)) hwl h1 h2
          have h5 := (Classical.choose_spec (hel' (q / k2)) h1)
          have h6 : q % k2 < (Classical.choose (hel' (q / k2))).length := by rw [h5.1]; exact h2
          have h7 := h5.2.2 (q % k2) _ (List.getElem?_eq_getElem h6)
          rw [h3, h4, List.getElem?_eq_getElem h6, List.getElem?_take, if_pos (by omega)]
          simpa using h7
         ·rw [List.getElem?_eq_none (by simp; omega), List.getElem?_eq_none (by rw [flatE_length hwl]; omega)]
        obtain rfl := ha hpos
        refine ⟨_, _, some L.b, hwl, λ i hi => (Classical.choose_spec (hel' i) hi).2.1, rfl, λ b hb => ⟨hpos, by injection hb⟩, .inr ⟨⟨flatE_length hwl, L.b, L.cap, arr, by simp, hg, hLn, hLm, hsz, hxs⟩, rfl⟩⟩
       ·have h0 : L.cap = 0 := by omega
        have hlen0 : len = 0 := by omega
        subst hlen0
        exact ⟨λ _ => [], [], none, by omega, by omega, rfl, by simp, .inl ⟨A0, by rw [h0], rfl, rfl, rfl⟩⟩
      obtain ⟨ws, xs, row, hwl, hwr, rfl, hrow', hcase⟩ := hold
      obtain ⟨v', w', hrun, hgrow, hv'⟩ := hrunG (.slice A0 len (L.cap - 0)) len (flatE ws len) row hcase hm1 hm2
      have hL1 : ∃ L1 : Loc, (0 < L1.cap -> L1.b < w'.heap.size /\ (L1.b = E.w.heap.size ∨ (0 < L.cap /\ L1.b = L.b))) /\ ((∃ A', v' = .slice A' 0 0 /\ len + m = 0 /\ L1 = ⟨0, k2, 0, e2⟩) ∨
        (∃ g cap cur, v' = .slice (some ⟨g, 0, none⟩) (len + m) cap /\ CellsAt w' g cur e2 k2 /\ len + m <= cap /\ cap <= maxLen /\ cur.size = cap * k2 /\ cur.toList.take ((len + m) * k2) = flatE ws len ++ flatE us m /\ L1 = ⟨g, k2, cap, e2⟩)) := by
       rcases hv' with ⟨A', hv1, hm0⟩ | ⟨hown, g', hg', hg2⟩
       ·exact ⟨⟨0, k2, 0, e2⟩, λ h => by simp at h, .inl ⟨A', hv1, by omega, rfl⟩⟩
       ·obtain ⟨_, g1, cap, cur, hv1, h2, h3, h4, h5, h6⟩ := hown
        ·have : g' = g1 := by rw [hv1] at hg'; simpa [Value.ownBlock] using hg'.symm
         subst this
         refine ⟨⟨g', k2, cap, e2⟩, λ _ => ⟨h2.lt, ?_⟩, .inr ⟨g', cap, cur, hv1, h2, h3, h4, h5, h6, rfl⟩⟩
         rcases hg2 with h | h
         ·exact .inl h
         ·have := hrow' _ h
          exact .inr ⟨this.1, this.2.symm⟩
      obtain ⟨L1, hL1b, hL1v⟩ := hL1
      have hgl : (E.move w' l s.heap.length L1).loc s.heap.length = some L1 := by simp [Env.move]
      have hcells : ∀ b, E.F b -> w'.heap[b]? = E.w.heap[b]? := λ b hb => hgrow.block b (g.lt _ hb) (λ e => by
       have h9 := hrow' b e.symm
       exact (g.own l L hL h9.1).2.2 (h9.2 ▸ hb))
      have hE : ∀ us' x', Rep E.imm us' x' -> Rep (E.move w' l s.heap.length L1).imm us' x' := λ us' x' h => h.mono ⟨λ _ h => h, λ a' ha' => World.cell?_of_block (w := E.w) (hcells _ ha'), λ _ _ h => by simp at h⟩
      have hlen' : ∀ i, i < len + m -> (if i < len then ws i else us (i - len)).length = k2 := by
       intro i' hi'
       split
       ·exact hwl i' (by assumption)
       ·exact hul _ (by omega)
      obtain ⟨hobj, hrep⟩ := obj_of_own (E' := E.move w' l s.heap.length L1) (us := λ i => if i < len then ws i else us (i - len)) (f := λ i => if i < len then gf i else f (i - len)) (zs := flatE ws len ++ flatE us m) hgl hL1v (λ i' j' hi' hj' => by
        rw [List.getElem?_append, flatE_length hwl]
        by_cases hlt : i' < len
        ·have : i' * k2 + k2 <= len * k2 := by
          calc i' * k2 + k2 = (i' + 1) * k2 := by rw [Nat.add_mul]; omega
           _ <= len * k2 := Nat.mul_le_mul_right k2 (by omega)
         rw [if_pos (by omega), if_pos hlt]
         exact flatE_get hwl hlt hj'
        ·have : len * k2 <= i' * k2 := Nat.mul_le_mul_right k2 (by omega)
         rw [if_neg (by omega), if_neg hlt, show i' * k2 + j' - len * k2 = (i' - len) * k2 + j' by rw [Nat.sub_mul]; omega]
         exact flatE_get hul (by omega) hj') hlen' (λ i' hi' => by
        split
        ·exact hE _ _ (hwr i' (by assumption))
        ·exact hE _ _ (hr _ (by omega))) (rfl : (0 : Nat) = 0)
      obtain ⟨e1, g1⟩ := gam_move g hgrow hL hrow' L1 hL1b hobj
      exact ⟨v', _, hrun, g1, hs.kill e1, hrep, keep_move hgrow hL hrow' L1 hL1b⟩
     ·cases h
    ·cases h
   ·cases h
theorem run_aAppend {s s' : St} {tmps : Array Value} (g : Gam E0 E s.heap) (hs : SlotsOk E tmps s.slots) {t ty : TypeId} {x y z : AV} {vx vy : Value} {p : Prop} (hx : RepV E vx x) (hy : RepV E vy y) (h : aAppend P s t x y = some (p, s', z)) (hp : p) :
  ∃ v' E', (Builtin.append_ #[t, t] ty #[vx, vy]).run P E.w = .ok v' E'.w /\ Gam E0 E' s'.heap /\ SlotsOk E' tmps s'.slots /\ RepV E' v' z /\ Keep (apTouch x) E E' := by
 unfold aAppend at h
 split at h
 ·rename_i e k bytes hap
  obtain ⟨hu, i, zv, hi, hz, hisz, hby, hzs, hk0⟩ := apInfo_spec hap
  split at h
  ·rename_i q m f hsrc
   refine run_appTo (ty := ty) g hs hx hk0 (λ hq => ?_) h hp
   obtain ⟨A, c, us, a, rfl, hA, hl, hr, hcell⟩ := src_spec g hy hsrc hq
   have hsrc' : Src P k t (.slice A m c) m (flatE us m) E.w := by
    have h1 : ∀ u ∈ flatE us m, u.oneCell' = true := λ u hu => by
     obtain ⟨j, hj⟩ := List.mem_iff_getElem?.1 hu
     obtain ⟨i', j', hi', hj', rfl, hu'⟩ := flatE_split hl hj
     exact (hr i' hi').one u (List.mem_of_getElem? hu')
    cases A with
    | none =>
     have hm0 : m = 0 := by
      rcases Nat.eq_zero_or_pos m with h0 | h0
      ·exact h0
      ·cases hA h0
     subst hm0
     exact Src.ofNil E.w hu c
    | some a0 =>
     refine Src.ofSlice E.w hu a0 m c (flatE us m) (flatE_length hl) (λ j u hu => ?_) h1
     obtain ⟨i', j', hi', hj', rfl, hu'⟩ := flatE_split hl hu
     have : some a0 = some a := hA (by omega)
     injection this with this
     subst this
     exact hcell i' hi' j' u hu'
   exact ⟨us, hl, hr, λ v n xs row hv hm1 hm2 => append_M (P := P) E.w t t ty e i zv k bytes hu hi hz hisz hby hzs v n xs row hv _ m _ hsrc' hm1 hm2⟩
  ·cases h
 ·cases h
end
end Go.Am

namespace Go.Am
open Go.RowKit
variable [Inhabited GlT]
section
variable {P : Program} {E0 E : Env} {H : List LObj}
theorem fill_seq {k : Nat} : ∀ (l : List (Nat × Value)) (q : Nat) (us : List Value), l.map (·.1) = List.range' q l.length -> (∀ p ∈ l, p.2.cells.size = k) -> us.length = (q + l.length) * k ->
  Instr.fill (λ i => some (i * k, k)) us.toArray l = some (us.take (q * k) ++ l.flatMap (λ p => p.2.cells.toList)).toArray := by
 intro l
 induction l with
 | nil =>
  intro q us _ _ hu
  have : us.take (q * k) = us := List.take_of_length_le (by simp at hu; omega)
  simp [Instr.fill, this]
 | cons p l ih =>
  intro q us hf hc hu
  obtain ⟨i, v⟩ := p
  simp only [List.map_cons, List.length_cons, List.range'_succ, List.cons.injEq] at hf
  obtain ⟨rfl, hf⟩ := hf
  have hv : v.cells.size = k := hc (i, v) (by simp)
  have hik : i * k + k <= us.length := by
   rw [hu, List.length_cons]
   calc i * k + k = (i + 1) * k := by rw [Nat.add_mul]; omega
    _ <= (i + (l.length + 1)) * k := Nat.mul_le_mul_right k (by omega)
  simp only [Instr.fill]
  rw [if_neg (by simp [hv]; omega)]
  have hsp := foldl_splice v.cells.toList us (i * k) 0 (by simp [hv]; omega)
  simp only [Nat.add_zero, Array.toArray_toList, Array.length_toList, hv] at hsp
  have ih' := ih (i + 1) (us.take (i * k) ++ (v.cells.toList ++ us.drop (i * k + k))) hf (λ p hp => hc p (by simp [hp])) (by
   simp only [List.length_append, List.length_take, Array.length_toList, List.length_drop, hv]
   rw [hu, List.length_cons] at *
   have : (i + (l.length + 1)) = (i + 1 + l.length) := by omega
   rw [this] at hik ⊢
   omega)
  have e1 : (Array.foldl (λ cs (x : Value × Nat) => cs.setIfInBounds (i * k + x.2) x.1) us.toArray v.cells.zipIdx) = (us.take (i * k) ++ (v.cells.toList ++ us.drop (i * k + k))).toArray := hsp
  rw [e1, ih']
  have : (us.take (i * k) ++ (v.cells.toList ++ us.drop (i * k + k))).take ((i + 1) * k) = us.take (i * k) ++ v.cells.toList := by
   rw [<- List.append_assoc, List.take_left']
   simp [hv, Nat.add_mul]
   omega
  rw [this, List.flatMap_cons, List.append_assoc]
def rowOf (ps : List (Nat × AV)) (i : Nat) : AV := (ps.getD i (0, .any)).2
def aBuildSlice (P : Program) (H : List LObj) (t : TypeId) (len : Nat) (ps : List (Nat × AV)) : Option (List LObj × AV) := match P.underlying t with
 | some (.slice e) => match szOf P e, zeroAV P e with
  | some k, some _ => match len with
   | 0 => match ps with
    | [] => some (H, .emp)
    | _ :: _ => none
   | _ + 1 => if ps.map (·.1) = List.range' 0 len /\ ps.length = len /\ ps.all (λ p => match partsOf p.2 with
      | some cs => cwL cs == k && immL cs
      | none => false) /\ len * k <= 16777216 /\ 0 < k then
     some (H ++ [.row k e len (rowOf ps)], .own H.length 0 len) else none
  | _, _ => none
 | _ => none
theorem repV_cells {v : Value} {x : AV} {cs : List AV} (h : RepV E v x) (hp : partsOf x = some cs) : Rep E v.cells.toList x := by
 cases x with
 | agg cs' => obtain ⟨us, rfl, hr⟩ := h; simpa [Value.cells] using hr
 | tup _ => simp [partsOf] at hp
 | any => simp [partsOf] at hp
 | iarr => simp [partsOf] at hp
 | _ =>
  have h' : Rep E [v] _ := h
  have h1 := h'.one v (by simp)
  have : v.cells.toList = [v] := by cases v <;> simp [Value.oneCell', Value.cells] at h1 ⊢
  rw [this]
  exact h'
theorem immB_of_parts {x : AV} {cs : List AV} (hp : partsOf x = some cs) (h : immL cs = true) : immB x = true := by
 cases x <;> simp only [partsOf, Option.some.injEq, reduceCtorEq] at hp <;> subst hp <;> first
  |(simp only [immL, Bool.and_true] at h; exact h)
  |(simp only [immB]; exact h)
theorem run_aBuildSlice {H' : List LObj} (g : Gam E0 E H) {t : TypeId} {len : Nat} {ps : List (Nat × AV)} {vs : Array (Nat × Value)} {x : AV}
  (hv : vs.toList.length = ps.length /\ ∀ (i : Nat) (p : Nat × AV) (v : Nat × Value), ps[i]? = some p -> vs.toList[i]? = some v -> v.1 = p.1 /\ RepV E v.2 p.2) (h : aBuildSlice P H t len ps = some (H', x)) :
  ∃ v' E', (Instr.buildSlice t len vs).run P E.w = .ok v' E'.w /\ Ext E E' /\ Gam E0 E' H' /\ RepV E' v' x /\ Keep [] E E' := by
 unfold aBuildSlice at h
 split at h
 ·rename_i e hu
  split at h
  ·rename_i k zc hk hz
   obtain ⟨zv, hzr, hzrep⟩ := run_zeroAV (E := E) hz E.w
   split at h
   ·split at h
    ·simp only [Option.some.injEq, Prod.mk.injEq] at h
     obtain ⟨rfl, rfl⟩ := h
     have hvs : vs.toList = [] := List.eq_nil_of_length_eq_zero hv.1
     have hg : E.w.grownBy (E.w.alloc (.cells #[] e)) none := ⟨rfl, rfl, rfl, by simp, λ k hk _ => Below.heap_alloc _ _ _ hk⟩
     refine ⟨.slice (some ⟨E.w.heap.size, 0, none⟩) 0 0, { E with w := E.w.alloc (.cells #[] e) }, ?_, ?_, ?_, Rep.emp _, ⟨rfl, rfl, rfl, by simp, λ b hb _ => Below.heap_alloc E.w _ b hb, λ q L' hL' hc => .inr ⟨q, L', .inl rfl, hL', hc, rfl⟩⟩⟩
     ·simp [Instr.buildSlice, run_underlying hu, run_sizeOf hk, hvs, Instr.fill, newRow]
      exact congrArg (λ c => E.w.alloc (.cells c e)) (by apply Array.ext'; simp)
     ·exact ⟨λ _ h => h, λ a ha => World.cell?_of_block (w := E.w) (Below.heap_alloc _ _ _ (g.lt _ ha)), λ _ _ h => h⟩
     ·have e1 : Ext E { E with w := E.w.alloc (.cells #[] e) } := ⟨λ _ h => h, λ a ha => World.cell?_of_block (w := E.w) (Below.heap_alloc _ _ _ (g.lt _ ha)), λ _ _ h => h⟩
      exact {
       objs := λ l o hl => (g.objs l o hl).mono e1 (λ L hL hc => Below.heap_alloc _ _ _ (g.own l L hL hc).2.1)
       dom := g.dom
       own := λ l L hL hc => by have := g.own l L hL hc; exact ⟨this.1, by simp; omega, this.2.2⟩
       inj := g.inj
       lt := λ b hb => by have := g.lt b hb; simp; omega
       up := g.up
       down := g.down
       below := g.below.alloc _
       stay := g.stay
       hm := g.hm }
    ·cases h
   ·rename_i len1
    split at h
    ·rename_i hc
     obtain ⟨hfst, hlen, hall, h24, hk0⟩ := hc
     simp only [Option.some.injEq, Prod.mk.injEq] at h
     obtain ⟨rfl, rfl⟩ := h
     have h24' : (len1 + 1) * k <= 16777216 := h24
     have hpair : ∀ i, i < len1 + 1 -> ∃ (p : Nat × AV) (v : Nat × Value) (cs : List AV), ps[i]? = some p /\ vs.toList[i]? = some v /\ v.1 = p.1 /\ RepV E v.2 p.2 /\ partsOf p.2 = some cs /\ cwL cs = k /\ immL cs = true := by
      intro i hi
      have h1 : i < ps.length := by omega
      have h2 : i < vs.toList.length := by rw [hv.1]; exact h1
      have h3 := hv.2 i ps[i] vs.toList[i] (List.getElem?_eq_getElem h1) (List.getElem?_eq_getElem h2)
      have h4 := List.all_eq_true.1 hall ps[i] (List.getElem_mem h1)
      cases hp : partsOf ps[i].2 with
      | none => simp [hp] at h4
      | some cs =>
       simp only [hp, Bool.and_eq_true, beq_iff_eq] at h4
       exact ⟨ps[i], vs.toList[i], cs, List.getElem?_eq_getElem h1, List.getElem?_eq_getElem h2, h3.1, h3.2, hp, h4.1, h4.2⟩
     have hsz : ∀ p ∈ vs.toList, p.2.cells.size = k := by
      intro p hp
      obtain ⟨i, hi⟩ := List.mem_iff_getElem?.1 hp
      have hlt : i < len1 + 1 := by have := (List.getElem?_eq_some_iff.1 hi).1; rw [hv.1] at this; omega
      obtain ⟨p', v', cs, _, h2, _, h4, h5, h6, _⟩ := hpair i hlt
      rw [hi] at h2
      injection h2 with h2
      subst h2
      have := (repV_parts h4 h5).length
      simp only [aw, h6, Array.length_toList] at this
      exact this
     have hfst' : vs.toList.map (·.1) = List.range' 0 vs.toList.length := by
      rw [hv.1, hlen, <- hfst]
      apply List.ext_getElem?
      intro i
      simp only [List.getElem?_map]
      by_cases hi : i < len1 + 1
      ·obtain ⟨p', v', cs, h1, h2, h3, _⟩ := hpair i hi
       rw [h1, h2]
       simp [h3]
      ·rw [List.getElem?_eq_none (by rw [hv.1]; omega), List.getElem?_eq_none (by omega)]
       rfl
     have hzl : zv.cells.size = cwL zc := by have := hzrep.length; simpa [aw] using this
     have hfill := fill_seq (k := k) vs.toList 0 ((Array.range ((len1 + 1) * k)).map (zv.cells[· % zv.cells.size]!)).toList hfst' hsz (by simp [hv.1, hlen])
     simp only [Array.toArray_toList, Nat.zero_mul, List.take_zero, List.nil_append] at hfill
     let arr := (vs.toList.flatMap λ p => p.2.cells.toList).toArray
     let us : Nat -> List Value := λ i => (vs.toList.getD i (0, .nilFunc)).2.cells.toList
     have hul : ∀ i, i < len1 + 1 -> (us i).length = k := by
      intro i hi
      have hlt : i < vs.toList.length := by rw [hv.1]; omega
      have := hsz vs.toList[i] (List.getElem_mem hlt)
      simp only [us, List.getD_eq_getElem?_getD, List.getElem?_eq_getElem hlt, Option.getD_some, Array.length_toList]
      exact this
     have hflat : (vs.toList.flatMap λ p => p.2.cells.toList) = flatE us (len1 + 1) := by
      have key : ∀ (l : List (Nat × Value)), l.flatMap (λ p => p.2.cells.toList) = flatE (λ i => (l.getD i (0, .nilFunc)).2.cells.toList) l.length := by
       intro l
       have : ∀ (l : List (Nat × Value)) (m : Nat), m <= l.length -> (l.take m).flatMap (λ p => p.2.cells.toList) = flatE (λ i => (l.getD i (0, .nilFunc)).2.cells.toList) m := by
        intro l m
        induction m with
        | zero => intro _; simp [flatE]
        | succ m ih =>
         intro hm
         rw [List.take_succ_eq_append_getElem (by omega), List.flatMap_append, ih (by omega)]
         simp only [flatE, List.flatMap_cons, List.flatMap_nil, List.append_nil, List.getD_eq_getElem?_getD, List.getElem?_eq_getElem (show m < l.length by omega), Option.getD_some]
       have h := this l l.length (Nat.le_refl _)
       rwa [List.take_length] at h
      have := key vs.toList
      rw [show vs.toList.length = len1 + 1 by rw [hv.1]; exact hlen] at this
      exact this
     refine ⟨.slice (some ⟨E.w.heap.size, 0, none⟩) (len1 + 1) (len1 + 1), E.new H.length (.cells arr e) k (len1 + 1) e, ?_, ext_new g _ _ _ _, gam_new g _ _ _ _ ?_, ?_, keep_new E _ _ _ _ _⟩
     ·have hne : ¬ (len1 + 1) * k > 2 ^ 24 := by omega
      have hne0 : ¬ (len1 + 1) * k = 0 := by
       intro h0
       rcases Nat.mul_eq_zero.1 h0 with h | h <;> omega
      simp only [Instr.buildSlice, Sem.run_bind, run_underlying hu, Result.andThen_ok, run_sizeOf hk, hne, if_false, hne0, hzr, Sem.run_pure, hfill, newRow, run_newObj]
      rfl
     ·refine ⟨⟨E.w.heap.size, k, len1 + 1, e⟩, by simp [Env.new], rfl, rfl, Nat.le_refl _, ?_, λ _ => ⟨arr, ?_, ?_, λ i hi => ⟨us i, hul i hi, ?_, λ j u hu => ?_⟩⟩⟩
      ·show len1 + 1 <= maxLen
       have : (len1 + 1) * 1 <= (len1 + 1) * k := Nat.mul_le_mul_left _ hk0
       unfold maxLen
       omega
      ·exact CellsAt.of (heap_alloc_new E.w _)
      ·have := congrArg List.length hflat
       rw [flatE_length hul] at this
       simpa [arr] using this
      ·obtain ⟨p', v', cs, h1, h2, h3, h4, h5, h6, h7⟩ := hpair i hi
       have hr := rep_imm (repV_cells h4 h5) (immB_of_parts h5 h7)
       have e1 : us i = v'.2.cells.toList := by simp only [us, List.getD_eq_getElem?_getD, h2, Option.getD_some]
       have e2 : (ps.getD i (0, .any)).2 = p'.2 := by simp only [List.getD_eq_getElem?_getD, h1, Option.getD_some]
       rw [e1]
       dsimp only [rowOf]
       rw [e2]
       exact (ext_new g _ _ _ _).repImm hr
      ·have hj : j < k := by rw [<- hul i hi]; exact (List.getElem?_eq_some_iff.1 hu).1
       have := flatE_get hul hi hj
       rw [<- hflat] at this
       simp only [arr, List.getElem?_toArray]
       rw [this]
       exact hu
     ·have := Rep.own (E := E.new H.length (.cells arr e) k (len1 + 1) e) (l := H.length) (off := 0) (len := len1 + 1) (L := ⟨E.w.heap.size, k, len1 + 1, e⟩) (A := some ⟨E.w.heap.size, 0, none⟩) (by simp [Env.new]) (by simp) (λ _ => by simp)
      simpa [RepV, RepV1] using this
    ·cases h
  ·cases h
 ·cases h
def heapOp (P : Program) (s : St) (o : Oper) : Option (Prop × St × AV) := match o.op with
 | .alloc t => match zeroAV P t with
  | some cs => some (True, { s with heap := s.heap ++ [.box t cs] }, .ptr s.heap.length 0 0 0)
  | none => none
 | .box t x => match partsOf (s.ev x) with
  | some cs => some (True, { s with heap := s.heap ++ [.box t cs] }, .ptr s.heap.length 0 0 0)
  | none => none
 | .buildSlice t len ps => match aBuildSlice P s.heap t len (ps.toList.map λ p => (p.1, s.ev p.2)) with
  | some (H', x) => some (True, { s with heap := H' }, x)
  | none => none
 | .store t a x => match aStore P s.heap t (s.ev a) (s.ev x) with
  | some (p, H') => some (p, { s with heap := H' }, .any)
  | none => none
 | .call { callee := .builtin .append, args, argTypes } => match args.toList, argTypes.toList with
  | [x, y], [t, t'] => if t = t' then aAppend P s t (s.ev x) (s.ev y) else none
  | _, _ => none
 | _ => none
def touched (s : St) (o : Oper) : List Nat := match o.op with
 | .store _ a _ => stTouch (s.ev a)
 | .call { callee := .builtin .append, args, .. } => match args.toList with
  | [x, _] => apTouch (s.ev x)
  | _ => []
 | _ => []
theorem box_new (g : Gam E0 E H) (t : TypeId) (us : List Value) {cs : List AV} (hr : Rep E us (.agg cs)) :
  Ext E (E.new H.length (.cells us.toArray t) us.length 1 t) /\ Gam E0 (E.new H.length (.cells us.toArray t) us.length 1 t) (H ++ [.box t cs]) /\
   RepV (E.new H.length (.cells us.toArray t) us.length 1 t) (.pointer (some ⟨E.w.heap.size, 0, none⟩)) (.ptr H.length 0 0 0) := by
 have e := ext_new g (.cells us.toArray t) us.length 1 t
 refine ⟨e, gam_new g _ _ _ _ ⟨⟨E.w.heap.size, us.length, 1, t⟩, us, by simp [Env.new], rfl, rfl, heap_alloc_new E.w _, hr.mono e⟩, ?_⟩
 have := Rep.ptr (E := E.new H.length (.cells us.toArray t) us.length 1 t) (l := H.length) (i := 0) (j := 0) (d := 0) (L := ⟨E.w.heap.size, us.length, 1, t⟩) (by simp [Env.new])
 simpa [RepV, RepV1] using this
theorem run_heap {s s' : St} {a : Act} {o : Oper} {p : Prop} {x : AV} (g : GamS E0 E s a) (h : heapOp P s o = some (p, s', x)) (hp : p) :
  ∃ next E', (execOp a.eval o).run P E.w = .ok next E'.w /\ GamS E0 E' s' a /\ ((∃ v, next = .value v /\ RepV E' v x) ∨ (next = .skip /\ x = .any)) /\ Keep (touched s o) E E' := by
 unfold heapOp at h
 unfold execOp
 split at h
 ·rename_i t ho
  split at h
  ·rename_i cs hz
   simp only [Option.some.injEq, Prod.mk.injEq] at h
   obtain ⟨_, rfl, rfl⟩ := h
   obtain ⟨z, hrun, hr⟩ := run_zeroAV (E := E) hz E.w
   obtain ⟨e, g1, hv⟩ := box_new g.toGam t z.cells.toList hr
   simp only [ho]
   refine ⟨.value (.pointer (some ⟨E.w.heap.size, 0, none⟩)), _, ?_, ⟨g1, g.slots.mono e⟩, .inl ⟨_, rfl, hv⟩, by simp only [touched, ho]; exact keep_new E _ _ _ _ _⟩
   simp only [Instr.alloc, newVar, newRow, Sem.run_bind, hrun, Result.andThen_ok, run_newObj, Sem.run_pure]
   rfl
  ·cases h
 ·rename_i t y ho
  split at h
  ·rename_i cs hz
   simp only [Option.some.injEq, Prod.mk.injEq] at h
   obtain ⟨_, rfl, rfl⟩ := h
   have hr := repV_parts (g.slots.ev y) hz
   obtain ⟨e, g1, hv⟩ := box_new g.toGam t _ hr
   simp only [ho]
   refine ⟨.value (.pointer (some ⟨E.w.heap.size, 0, none⟩)), _, ?_, ⟨g1, g.slots.mono e⟩, .inl ⟨_, rfl, hv⟩, by simp only [touched, ho]; exact keep_new E _ _ _ _ _⟩
   simp only [Instr.box, newVar, newRow, Sem.run_bind, Result.andThen_ok, run_newObj, Sem.run_pure]
   rfl
  ·cases h
 ·rename_i t len ps ho
  split at h
  ·rename_i H' y hb
   simp only [Option.some.injEq, Prod.mk.injEq] at h
   obtain ⟨_, rfl, rfl⟩ := h
   obtain ⟨v', E', hrun, e, g1, hv, hkp⟩ := run_aBuildSlice (vs := ps.map λ p => (p.1, a.eval p.2)) g.toGam ⟨by simp, λ i q v hq hv => by
    simp only [Array.toList_map, List.getElem?_map, Option.map_eq_some_iff] at hq hv
    obtain ⟨q1, hq1, rfl⟩ := hq
    obtain ⟨v1, hv1, rfl⟩ := hv
    rw [hq1] at hv1
    injection hv1 with hv1
    subst hv1
    exact ⟨rfl, g.slots.ev _⟩⟩ hb
   simp only [ho]
   refine ⟨.value v', E', ?_, ⟨g1, g.slots.mono e⟩, .inl ⟨v', rfl, hv⟩, by simp only [touched, ho]; exact hkp⟩
   rw [Sem.run_bind, hrun]
   rfl
  ·cases h
 ·rename_i t ad y ho
  split at h
  ·rename_i q H' hst
   simp only [Option.some.injEq, Prod.mk.injEq] at h
   obtain ⟨rfl, rfl, rfl⟩ := h
   obtain ⟨E', hrun, e, g1, hkp⟩ := run_aStore g.toGam (g.slots.ev ad) (g.slots.ev y) hst hp
   simp only [ho]
   refine ⟨.skip, E', ?_, ⟨g1, g.slots.mono e⟩, .inr ⟨rfl, trivial⟩, by simp only [touched, ho]; exact hkp⟩
   rw [Sem.run_bind, hrun]
   rfl
  ·cases h
 ·rename_i args argTypes ho
  split at h
  ·rename_i y z t t' hargs htys
   split at h
   ·rename_i htt
    subst htt
    obtain ⟨v', E', hrun, g1, hs1, hv, hkp⟩ := run_aAppend (P := P) (ty := o.type) g.toGam g.slots (g.slots.ev y) (g.slots.ev z) h hp
    refine ⟨.value v', E', ?_, ⟨g1, hs1⟩, .inl ⟨v', rfl, hv⟩, by simp only [touched, ho, hargs]; exact hkp⟩
    have e1 : args = #[y, z] := by rw [<- hargs]
    have e2 : argTypes = #[t, t] := by rw [<- htys]
    subst e1 e2
    simp only [ho, resolve, invoke, builtin, Sem.run_bind, Sem.run_pure, Result.andThen_ok, List.map_toArray, List.map_cons, List.map_nil, hrun]
   ·cases h
  ·cases h
 ·cases h
end
end Go.Am
