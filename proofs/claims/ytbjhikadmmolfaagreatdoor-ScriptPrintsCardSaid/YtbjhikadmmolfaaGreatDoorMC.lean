/- Regions and code. -/
import Derived.Test.YtbjhikadmmolfaaGreatDoorMB
import Derived.OrdersIn
import Derived.RangeFuncLeaves
import Derived.RangeFuncRecord
import Derived.RangeFuncIn
import Derived.Scope
import Derived.ProofKit
import Derived.OpenShut
import Derived.Sort.Grow
import Derived.Lib.ConvBytes
import Derived.Lib.LaidTab
import Derived.Lib.Itoa
import Derived.Lib.AtoiAll
import Derived.Lib.ItoaNum
import Derived.Lib.ItoaLen
set_option linter.unusedSectionVars false
set_option linter.unusedVariables false
set_option linter.unusedSimpArgs false
namespace Go.Am
open Go.RowKit
variable [Inhabited GlT]
abbrev Opt := List (Nat × (Nat × Bool) × Bool × AV)
def look : Opt -> Nat -> Option ((Nat × Bool) × Bool × AV)
 | [], _ => none
 |(t, q, b, x) :: r, u => if u = t then some (q, b, x) else look r u
def delT : Opt -> Nat -> Opt
 | [], _ => []
 |(t, q, b, x) :: r, u => if u = t ∨ u = q.1 then delT r u else (t, q, b, x) :: delT r u
def delO (opt : Opt) : Option Nat -> Opt
 | none => opt
 | some t => delT opt t
def flatOpt : Opt -> Opt
 | [] => []
 |(t, q, b, x) :: r => match flatB x with
  | true => (t, q, b, x) :: flatOpt r
  | false => flatOpt r
def addO (opt : Opt) (d : Option Nat) (q : Nat × Bool) (b : Bool) (x : AV) : Opt := match d with
 | none => opt
 | some t => if t = q.1 then opt else (t, q, b, x) :: opt
def says (tmps : Array Value) (q : Nat × Bool) : Prop := tmps[q.1]? = some (.bool q.2)
def OptOk (E : Env) (tmps : Array Value) (opt : Opt) : Prop :=
 ∀ t q b x, (t, q, b, x) ∈ opt -> (b = true -> RepV E (tmps.getD t undef) x) /\ (b = false -> tmps.getD t undef = undef) /\ t < tmps.size /\ (b = true ↔ says tmps q)
def allP : List Prop -> Prop -> Prop
 | [], r => r
 | p :: ps, r => p /\ allP ps r
def holdP : List Prop -> Prop
 | [] => True
 | p :: ps => p /\ holdP ps
theorem allP_iff : ∀ (ps : List Prop) (r : Prop), allP ps r ↔ holdP ps /\ r := by
 intro ps
 induction ps with
 | nil => intro r; simp [allP, holdP]
 | cons p ps ih => intro r; simp only [allP, holdP, ih, and_assoc]
def underP (g : Bool) : List Prop -> Prop -> Prop
 | [], r => r
 | p :: ps, r => (g = true -> holdP (p :: ps)) /\ r
theorem underP_iff (g : Bool) (ps : List Prop) (r : Prop) : underP g ps r ↔ (g = true -> holdP ps) /\ r := by
 cases ps with
 | nil => simp [underP, holdP]
 | cons p ps => rfl
def condOf (k : Option (Nat × Bool)) (q : Nat × Bool) (b : Bool) : List Prop := match k with
 | some k => if k.1 = q.1 /\ k.2 = q.2 then [] else [b = true]
 | none => [b = true]
def stripS (k : Option (Nat × Bool)) (opt : Opt) : List Operand -> St -> List Prop × St
 | [], s => ([], s)
 | .tmp t :: os, s => match look opt t with
  | some (q, b, x) => match stripS k opt os (s.put (some t) x) with
   |(ps, s') => (condOf k q b ++ ps, s')
  | none => stripS k opt os s
 | _ :: os, s => stripS k opt os s
def keysO (t : Nat) (want : Bool) : Opt -> List Operand
 | [] => []
 |(t', q, _, _) :: r => match Nat.beq q.1 t && gEqB q.2 want with
  | true => .tmp t' :: keysO t want r
  | false => keysO t want r
where gEqB : Bool -> Bool -> Bool
 | true, b => b
 | false, b => !b
def restO (t : Nat) (want : Bool) : Opt -> Opt
 | [] => []
 |(t', q, b, x) :: r => match Nat.beq q.1 t && keysO.gEqB q.2 want with
  | true => restO t want r
  | false => (t', q, b, x) :: restO t want r
theorem mem_restO {t : Nat} {want : Bool} {e : Nat × (Nat × Bool) × Bool × AV} : ∀ {opt : Opt}, e ∈ restO t want opt -> e ∈ opt := by
 intro opt
 induction opt with
 | nil => intro h; cases h
 | cons f r ih =>
  intro h
  obtain ⟨t', q, b, x⟩ := f
  simp only [restO] at h
  split at h
  ·exact List.mem_cons_of_mem _ (ih h)
  ·rcases List.mem_cons.1 h with h | h
   ·exact h ▸ List.mem_cons_self
   ·exact List.mem_cons_of_mem _ (ih h)
theorem OptOk.rest {E : Env} {tmps : Array Value} {opt : Opt} (h : OptOk E tmps opt) (t : Nat) (want : Bool) : OptOk E tmps (restO t want opt) := λ t' q b x hm => h t' q b x (mem_restO hm)
def optEv (s : St) (opt : Opt) : Operand -> Option (Nat × Bool) × Bool × AV
 | .tmp t => match look opt t with
  | some (q, b, x) => (some q, b, x)
  | none => (none, true, s.get t)
 | x => (none, true, s.ev x)
def wayP (c : Operand) (want : Bool) (cb : Bool) (q : Option (Nat × Bool)) (b : Bool) : List Prop := match q with
 | none => []
 | some q => match c with
  | .tmp t => if q.1 = t /\ q.2 = want then [] else [cb = want -> b = true]
  | _ => [cb = want -> b = true]
def hereP (k : Option (Nat × Bool)) (q : Option (Nat × Bool)) (b : Bool) : List Prop := match q with
 | none => []
 | some q => condOf k q b
def pickAV (k : Option (Nat × Bool)) (c : Operand) (cb : Bool) (qa qb : Option (Nat × Bool)) (ba bb : Bool) (x y : AV) : Option (List Prop × AV) := match x, y with
 | .pl (.bool p), .pl (.bool q) => some (wayP c true cb qa ba ++ wayP c false cb qb bb, .pl (.bool (bif cb then p else q)))
 | x, y => match cb with
  | true => some (hereP k qa ba, x)
  | false => some (hereP k qb bb, y)
def easy (P : Program) (s : St) (o : Oper) : Bool := match o.op with
 | .move _ => true
 | .assign _ => true
 | .build _ _ => true
 | .fieldAddr _ _ _ => true
 | .binOp op t x y _ => match aBin P op t (s.ev x) (s.ev y) with
  | some _ => true
  | none => false
 | .nilCheck _ => true
 | .unOp _ _ _ => true
 | .convert _ _ _ => true
 | .extract _ _ => true
 | .makeFunc _ _ _ => true
 | .call _ => true
 | .load t a => match s.ev a with
  | .ptr l _ j _ => match s.heap[l]? with
   | some (.box _ cs) => match aggB P t, dropC cs j with
    | some true, _ => true
    | _, some (.iarr _ _ _ :: _) => false
    | _, _ => true
   | _ => false
  | .ipt x j _ => match partsOf x with
   | some cs => match aggB P t, dropC cs j with
    | some true, _ => true
    | _, some (.iarr _ _ _ :: _) => false
    | _, _ => true
   | none => false
  | _ => false
 | _ => false
def pureOpt (P : Program) (k : Option (Nat × Bool)) (s : St) (opt : Opt) (o : Oper) : Option (List Prop × AV) := match o.op with
 | .pick c a b => match optEv s opt c with
  |(qc, bc, .pl (.bool cb)) => match optEv s opt a, optEv s opt b with
   |(qa, ba, xa), (qb, bb, xb) => match pickAV k c cb qa qb ba bb xa xb with
    | some (p, x) => some (hereP k qc bc ++ p, x)
    | none => none
  | _ => none
 | _ => match stripS k opt o.op.operands.toList s with
  |(ps, s1) => match pureOp P s1 o with
   | some (p, x) => match easy P s1 o with
    | true => some (ps, x)
    | false => some (ps ++ [p], x)
   | none => none
def gEq (b want : Bool) : Bool := match want with
 | true => b
 | false => !b
theorem gEq_eq (b want : Bool) : gEq b want = (b == want) := by cases b <;> cases want <;> rfl
def guardOf (s : St) (opt : Opt) (t : Nat) (want : Bool) : Option Bool := match look opt t with
 | some (_, b, .pl (.bool g)) => some (b && gEq g want)
 | some (_, _, .tup []) => some false
 | some _ => none
 | none => match s.get t with
  | .pl (.bool b) => some (gEq b want)
  | .tup [] => some false
  | _ => none
def saidNo (s : St) (opt : Opt) (t : Nat) (want : Bool) : St := match look opt t with
 | some _ => s
 | none => match s.get t with
  | .pl (.bool _) => s.put (some t) (.pl (.bool !want))
  | _ => s
def noO : Opt -> Nat -> Bool -> Opt
 | [], _, _ => []
 |(t, q, b, x) :: r, u, want => if u = t then (match x with
   | .pl (.bool _) => (t, q, b, .pl (.bool !want)) :: r
   | _ => (t, q, b, x) :: r) else (t, q, b, x) :: noO r u want
theorem noO_mem {want : Bool} {u : Nat} : ∀ {opt : Opt} {t : Nat} {q : Nat × Bool} {b : Bool} {x : AV}, (t, q, b, x) ∈ noO opt u want -> (t, q, b, x) ∈ opt ∨ ∃ g, look opt u = some (q, b, .pl (.bool g)) /\ t = u /\ x = .pl (.bool !want) := by
 intro opt
 induction opt with
 | nil => intro t q b x h; cases h
 | cons e r ih =>
  obtain ⟨t', q', b', x'⟩ := e
  intro t q b x h
  simp only [noO] at h
  split at h
  ·rename_i hu
   subst hu
   split at h
   ·rename_i g
    rcases List.mem_cons.1 h with h | h
    ·simp only [Prod.mk.injEq] at h
     obtain ⟨rfl, rfl, rfl, rfl⟩ := h
     exact .inr ⟨g, by simp [look], rfl, rfl⟩
    ·exact .inl (List.mem_cons_of_mem _ h)
   ·exact .inl h
  ·rename_i hu
   rcases List.mem_cons.1 h with h | h
   ·exact .inl (by rw [h]; exact List.mem_cons_self)
   ·rcases ih h with h | ⟨g, h1, h2⟩
    ·exact .inl (List.mem_cons_of_mem _ h)
    ·exact .inr ⟨g, by simp [look, hu, h1], h2⟩
theorem look_mem0 : ∀ {opt : Opt} {u : Nat} {q : Nat × Bool} {b : Bool} {x : AV}, look opt u = some (q, b, x) -> (u, q, b, x) ∈ opt := by
 intro opt
 induction opt with
 | nil => intro u q b x h; cases h
 | cons e r ih =>
  obtain ⟨t', q', b', x'⟩ := e
  intro u q b x h
  simp only [look] at h
  split at h
  ·rename_i hu
   simp only [Option.some.injEq, Prod.mk.injEq] at h
   obtain ⟨rfl, rfl, rfl⟩ := h
   subst hu
   exact List.mem_cons_self
  ·exact List.mem_cons_of_mem _ (ih h)
theorem OptOk.no {E : Env} {tmps : Array Value} {opt : Opt} (h : OptOk E tmps opt) {u : Nat} {want : Bool} (hn : ∀ q b g, look opt u = some (q, b, .pl (.bool g)) -> (b && gEq g want) = false) : OptOk E tmps (noO opt u want) := by
 intro t q b x hm
 rcases noO_mem hm with hm | ⟨g, hl, rfl, rfl⟩
 ·exact h t q b x hm
 ·obtain ⟨h1, h2, h3, h4⟩ := h t q b _ (look_mem0 hl)
  refine ⟨λ hb => ?_, h2, h3, h4⟩
  have := hn q b g hl
  rw [hb, gEq_eq, Bool.true_and] at this
  have hg : g = !want := by cases g <;> cases want <;> simp_all
  rw [<- hg]
  exact h1 hb
def inSlots (s : St) : Option Nat -> Bool
 | none => true
 | some d => Nat.blt d s.slots.length
def forceN (n : Nat) (k : Nat -> Prop) : Prop := match n with
 | 0 => k 0
 | m + 1 => k (m + 1)
theorem forceN_eq (n : Nat) (k : Nat -> Prop) : forceN n k = k n := by cases n <;> rfl
def forceV (v : Value) (k : Value -> Prop) : Prop := match v with
 | .int a n => k (.int a n)
 | .bool b => k (.bool b)
 | .string x => k (.string x)
 | .slice a n c => k (.slice a n c)
 | .func f a b => k (.func f a b)
 | v => k v
theorem forceV_eq (v : Value) (k : Value -> Prop) : forceV v k = k v := by cases v <;> rfl
mutual
def forceA : AV -> (AV -> Prop) -> Prop
 | .any, k => k .any
 | .pl v, k => forceV v λ v => k (.pl v)
 | .iarr a n f, k => k (.iarr a n f)
 | .agg cs, k => forceL cs λ cs => k (.agg cs)
 | .tup cs, k => forceL cs λ cs => k (.tup cs)
 | .rows a n f, k => k (.rows a n f)
 | .own l a b, k => forceN l λ l => k (.own l a b)
 | .ptr l i j d, k => forceN l λ l => forceN j λ j => k (.ptr l i j d)
 | .ipt x j d, k => forceA x λ x => forceN j λ j => k (.ipt x j d)
 | .clo fn cs, k => forceL cs λ cs => k (.clo fn cs)
 | .ifc t x, k => forceA x λ x => k (.ifc t x)
 | .mp l, k => forceN l λ l => k (.mp l)
 | .emp, k => k .emp
def forceL : List AV -> (List AV -> Prop) -> Prop
 | [], k => k []
 | c :: cs, k => forceA c λ c => forceL cs λ cs => k (c :: cs)
end
mutual
theorem forceA_eq : ∀ (x : AV) (k : AV -> Prop), forceA x k = k x
 | .any, _ => rfl
 | .pl _, _ => by simp only [forceA, forceV_eq]
 | .iarr _ _ _, _ => rfl
 | .agg cs, k => by simp only [forceA]; rw [forceL_eq cs]
 | .tup cs, k => by simp only [forceA]; rw [forceL_eq cs]
 | .rows _ _ _, _ => rfl
 | .own _ _ _, _ => by simp only [forceA, forceN_eq]
 | .ptr _ _ _ _, _ => by simp only [forceA, forceN_eq]
 | .ipt x _ _, _ => by simp only [forceA]; rw [forceA_eq x]; simp only [forceN_eq]
 | .clo _ cs, k => by simp only [forceA]; rw [forceL_eq cs]
 | .ifc _ x, k => by simp only [forceA]; rw [forceA_eq x]
 | .mp _, _ => by simp only [forceA, forceN_eq]
 | .emp, _ => rfl
theorem forceL_eq : ∀ (cs : List AV) (k : List AV -> Prop), forceL cs k = k cs
 | [], _ => rfl
 | c :: cs, k => by simp only [forceL]; rw [forceA_eq c, forceL_eq cs]
end
def forceO (o : LObj) (k : LObj -> Prop) : Prop := match o with
 | .dead => k .dead
 | .box t cs => forceL cs λ cs => k (.box t cs)
 | .prow t cs => forceL cs λ cs => k (.prow t cs)
 | .row a t n f => k (.row a t n f)
 | .raw ob => k (.raw ob)
 | .capo l c => forceN l λ l => k (.capo l c)
 | .mapo kt W has val => k (.mapo kt W has val)
theorem forceO_eq (o : LObj) (k : LObj -> Prop) : forceO o k = k o := by cases o <;> simp only [forceO, forceL_eq, forceN_eq]
def forceH : List LObj -> (List LObj -> Prop) -> Prop
 | [], k => k []
 | c :: cs, k => forceO c λ c => forceH cs λ cs => k (c :: cs)
theorem forceH_eq : ∀ (cs : List LObj) (k : List LObj -> Prop), forceH cs k = k cs := by
 intro cs
 induction cs with
 | nil => intro k; rfl
 | cons c cs ih => intro k; simp only [forceH, forceO_eq, ih]
def forceS (s : St) (k : St -> Prop) : Prop := forceL s.slots λ a => forceH s.heap λ b => k ⟨a, b⟩
theorem forceS_eq (s : St) (k : St -> Prop) : forceS s k = k s := by simp only [forceS, forceL_eq, forceH_eq]
def forceOpt : Opt -> (Opt -> Prop) -> Prop
 | [], k => k []
 |(t, q, b, x) :: r, k => forceA x λ x => forceOpt r λ r => k ((t, q, b, x) :: r)
theorem forceOpt_eq : ∀ (r : Opt) (k : Opt -> Prop), forceOpt r k = k r := by
 intro r
 induction r with
 | nil => intro k; rfl
 | cons e r ih => obtain ⟨t, q, b, x⟩ := e; intro k; simp only [forceOpt, forceA_eq, ih]
def capped (s : St) (o : Oper) : Bool := match o.op with
 | .slice _ x none (some _) none => match s.ev x with
  | .own l 0 _ => match findCap l s.heap with
   | some _ => true
   | none => false
  | _ => false
 | _ => false
def tryPure (P : Program) (s : St) (opt : Opt) (o : Oper) : Option (List Prop × AV) := match capped s o with
 | true => none
 | false => pureOpt P none s opt o
theorem tryPure_some {P : Program} {s : St} {opt : Opt} {o : Oper} {r : List Prop × AV} (h : tryPure P s opt o = some r) : pureOpt P none s opt o = some r := by
 unfold tryPure at h
 split at h
 ·cases h
 ·exact h
def litOf (opt : Opt) (t : Nat) (want : Bool) : Option Bool := match look opt t with
 | some (q, b, _) => match Nat.beq q.1 t with
  | true => match b with
   | true => some (keysO.gEqB q.2 want)
   | false => none
  | false => none
 | none => none
def sayO (t : Nat) (w : Bool) (opt : Opt) : Opt := (t, (t, w), true, .pl (.bool w)) :: opt
def knewNo (s : St) (opt : Opt) (t : Nat) (want : Bool) : Opt := match look opt t with
 | some _ => noO opt t want
 | none => match s.get t with
  | .pl (.bool _) => sayO t (!want) opt
  | _ => opt
def vcFree (P : Program) (C : Table) (s : St) (opt : Opt) (o : Oper) (K : St -> Opt -> List Nat -> Prop) : Prop := match tryPure P s opt o with
 | some (p, x) => allP p (K (s.put o.dst x) (delO opt o.dst) [])
 | none => match stripS none opt o.op.operands.toList s with
  |(ps, s1) => allP ps (vcOp P C s1 o λ s' tl => K s' (delO (flatOpt opt) o.dst) tl)
def vcOne (P : Program) (C : Table) (ops : Array Oper) (i : Nat) (s : St) (opt : Opt) (K : St -> Opt -> List Nat -> Prop) : Prop :=
 forceS s λ s => forceOpt opt λ opt => match ops[i]? with
  | none => K s opt []
  | some o => match o.guard with
   | none => vcFree P C s opt o K
   | some (j, want) => match (ops[j]?).bind (·.dst) with
    | none => False
    | some t => match litOf opt t want with
     | some true => vcFree P C s opt o K
     | some false => K (s.put o.dst (.tup [])) (delO opt o.dst) []
     | none => match guardOf s opt t want with
      | none => False
      | some g => match pureOpt P (some (t, want)) s opt o with
       | some (p, x) => match inSlots s o.dst with
        | true => underP g p (K (s.put o.dst .any) (addO (delO opt o.dst) o.dst (t, want) g x) [])
        | false => False
       | none => match stripS (some (t, want)) opt (keysO t want opt ++ o.op.operands.toList) s with
        |(ps, s1) => (g = true -> allP ps (vcOp P C (s1.put (some t) (.pl (.bool want))) o λ s' tl => K s' (delO (flatOpt (sayO t want (restO t want (delT opt t)))) o.dst) tl)) /\
         (g = false -> K ((saidNo s opt t want).put o.dst (.tup [])) (delO (knewNo s opt t want) o.dst) [])
def vcOps (P : Program) (C : Table) (ops : Array Oper) : List Nat -> St -> Opt -> (St -> Opt -> Prop) -> Prop
 | [], s, opt, K => K s opt
 | i :: is, s, opt, K => vcOne P C ops i s opt λ s opt _ => vcOps P C ops is s opt K
section
variable {P : Program} {E0 : Env}
theorem put_defers (a : Act) (d : Option Tmp) (v : Value) : (a.put d v).defers = a.defers := by cases d <;> rfl
theorem get_lt {s : St} {t : Nat} {x : AV} (h : s.get t = x) (hx : x ≠ .any) : s.slots[t]? = some x := by
 unfold St.get at h
 rw [List.getD_eq_getElem?_getD] at h
 cases ht : s.slots[t]? with
 | none => rw [ht] at h; exact absurd h.symm hx
 | some y => rw [ht] at h; simp at h; rw [h]
theorem GamS.val {E : Env} {s : St} {a : Act} (g : GamS E0 E s a) {t : Nat} {v : Value} (h : s.get t = .pl v) : a.tmps[t]? = some v := by
 have h1 := get_lt h (by simp)
 have hlt : t < a.tmps.size := by rw [g.slots.1.1]; exact (List.getElem?_eq_some_iff.1 h1).1
 have h2 := g.slots.2 t a.tmps[t] _ (Array.getElem?_eq_getElem hlt) h1
 rw [Array.getElem?_eq_getElem hlt, repV_pl h2]
theorem GamS.said {E : Env} {s : St} {a : Act} (g : GamS E0 E s a) (t : Nat) {x : AV} (h : RepV E (a.tmps.getD t undef) x) : GamS E0 E (s.put (some t) x) a := by
 refine ⟨g.toGam, by simpa [St.put] using g.slots.1, λ i v y hv hy => ?_⟩
 simp only [St.put] at hy
 rw [List.getElem?_set] at hy
 split at hy
 ·rename_i he
  subst he
  split at hy
  ·injection hy with hy
   subst hy
   rw [Array.getD_eq_getD_getElem?, hv] at h
   exact h
  ·cases hy
 ·exact g.slots.2 i v y hv hy
theorem getD_of {tmps : Array Value} {t : Nat} {v : Value} (h : tmps[t]? = some v) : tmps.getD t undef = v := by rw [Array.getD_eq_getD_getElem?, h]; rfl
theorem GamS.refine_ {E : Env} {s : St} {a : Act} (g : GamS E0 E s a) {t : Nat} {b : Bool} (h : s.get t = .pl (.bool b)) : GamS E0 E (s.put (some t) (.pl (.bool b))) a :=
 g.said t (by rw [getD_of (g.val h)]; exact Rep.pl _ rfl)
theorem look_mem : ∀ {opt : Opt} {t : Nat} {q : Nat × Bool} {b : Bool} {x : AV}, look opt t = some (q, b, x) -> (t, q, b, x) ∈ opt := by
 intro opt
 induction opt with
 | nil => intro t q b x h; simp [look] at h
 | cons e r ih =>
  intro t q b x h
  obtain ⟨t', q', b', x'⟩ := e
  simp only [look] at h
  split at h
  ·rename_i he
   subst he
   simp only [Option.some.injEq, Prod.mk.injEq] at h
   obtain ⟨rfl, rfl, rfl⟩ := h
   exact List.mem_cons_self
  ·exact List.mem_cons_of_mem _ (ih h)
def Known (tmps : Array Value) (k : Option (Nat × Bool)) : Prop := ∀ q, k = some q -> says tmps q
theorem condOf_sound {tmps : Array Value} {k : Option (Nat × Bool)} (hk : Known tmps k) {q : Nat × Bool} {b : Bool} (hq : b = true ↔ says tmps q) (h : holdP (condOf k q b)) : b = true := by
 unfold condOf at h
 split at h
 ·rename_i k'
  split at h
  ·rename_i he
   have : k' = q := Prod.ext he.1 he.2
   subst this
   exact hq.2 (hk k' rfl)
  ·exact h.1
 ·exact h.1
theorem holdP_append : ∀ {a b : List Prop}, holdP (a ++ b) -> holdP a /\ holdP b := by
 intro a
 induction a with
 | nil => intro b h; exact ⟨trivial, h⟩
 | cons p a ih => intro b h; exact ⟨⟨h.1, (ih h.2).1⟩, (ih h.2).2⟩
theorem strip_sound {E : Env} {a : Act} {opt : Opt} (ho : OptOk E a.tmps opt) {k : Option (Nat × Bool)} (hk : Known a.tmps k) : ∀ (os : List Operand) (s : St), GamS E0 E s a -> holdP (stripS k opt os s).1 -> GamS E0 E (stripS k opt os s).2 a := by
 intro os
 induction os with
 | nil => intro s g _; exact g
 | cons x os ih =>
  intro s g h
  cases x with
  | tmp t =>
   simp only [stripS] at h ⊢
   split
   ·rename_i q b y hl
    rw [hl] at h
    simp only at h
    obtain ⟨h1, h2⟩ := holdP_append h
    obtain ⟨o1, _, _, o4⟩ := ho t q b y (look_mem hl)
    exact ih _ (g.said t (o1 (condOf_sound hk o4 h1))) h2
   ·rename_i hl
    rw [hl] at h
    exact ih s g h
  | _ => simp only [stripS] at h ⊢; exact ih s g h
theorem optEv_sound {E : Env} {a : Act} {s : St} {opt : Opt} (g : GamS E0 E s a) (ho : OptOk E a.tmps opt) {x : Operand} {q : Option (Nat × Bool)} {b : Bool} {y : AV} (he : optEv s opt x = (q, b, y)) :
  (b = true -> RepV E (a.eval x) y) /\ (q = none -> b = true) /\ ∀ q', q = some q' -> (b = true ↔ says a.tmps q') := by
 cases x with
 | tmp t =>
  simp only [optEv] at he
  split at he
  ·rename_i q1 b1 y1 hl
   simp only [Prod.mk.injEq] at he
   obtain ⟨rfl, rfl, rfl⟩ := he
   obtain ⟨o1, _, _, o4⟩ := ho t q1 b1 y1 (look_mem hl)
   exact ⟨o1, λ h => by simp at h, λ q' hq => by injection hq with hq; subst hq; exact o4⟩
  ·simp only [Prod.mk.injEq] at he
   obtain ⟨rfl, rfl, rfl⟩ := he
   exact ⟨λ _ => g.slots.get t, λ _ => rfl, λ q' hq => by simp at hq⟩
 | const v =>
  simp only [optEv, Prod.mk.injEq] at he
  obtain ⟨rfl, rfl, rfl⟩ := he
  exact ⟨λ _ => g.slots.ev (.const v), λ _ => rfl, λ q' hq => by simp at hq⟩
 | global v =>
  simp only [optEv, Prod.mk.injEq] at he
  obtain ⟨rfl, rfl, rfl⟩ := he
  exact ⟨λ _ => g.slots.ev (.global v), λ _ => rfl, λ q' hq => by simp at hq⟩
 | func v =>
  simp only [optEv, Prod.mk.injEq] at he
  obtain ⟨rfl, rfl, rfl⟩ := he
  exact ⟨λ _ => g.slots.ev (.func v), λ _ => rfl, λ q' hq => by simp at hq⟩
theorem easy_load {t : TypeId} {cs : List AV} {j d : Nat} {p : Prop} {x : AV} (hl : loadAV P t cs j d = some (p, x)) (he : (match aggB P t, dropC cs j with | some true, _ => true | _, some (.iarr _ _ _ :: _) => false | _, _ => true) = true) : p := by
 unfold loadAV at hl
 split at hl
 ·split at hl
  ·split at hl
   ·simp only [Option.some.injEq, Prod.mk.injEq] at hl
    rw [<- hl.1]
    trivial
   ·cases hl
  ·cases hl
 ·rename_i hagg
  rw [hagg] at he
  split at hl
  ·rename_i k n f rest hd
   rw [hd] at he
   simp at he
  ·cases hl
  ·cases hl
  ·split at hl
   ·simp only [Option.some.injEq, Prod.mk.injEq] at hl
    rw [<- hl.1]
    trivial
   ·cases hl
  ·cases hl
 ·cases hl
theorem true_of {p : Prop} {x y : AV} (h : some (True, x) = some (p, y)) : p := by
 simp only [Option.some.injEq, Prod.mk.injEq] at h
 rw [<- h.1]
 trivial
theorem easy_spec {s : St} {o : Oper} {p : Prop} {x : AV} (h : pureOp P s o = some (p, x)) (he : easy P s o = true) : p := by
 unfold pureOp at h
 unfold easy at he
 split at h
 ·exact true_of h
 ·exact true_of h
 ·split at h
  ·exact true_of h
  ·cases h
 ·split at h
  ·exact true_of h
  ·cases h
 ·rename_i t ad ho
  rw [ho] at he
  simp only at he
  split at h
  ·rename_i l i j d hev
   rw [hev] at he
   simp only at he
   split at h
   ·rename_i bt cs hl
    rw [hl] at he
    simp only at he
    split at h
    ·exact easy_load h he
    ·cases h
   ·rename_i k t' n f hl
    rw [hl] at he
    cases he
   ·rename_i t' cs hl
    rw [hl] at he
    cases he
   ·cases h
  ·rename_i y j d hev
   rw [hev] at he
   simp only at he
   split at h
   ·rename_i cs hcs
    rw [hcs] at he
    simp only at he
    exact easy_load h he
   ·cases h
  ·cases h
 ·split at h
  ·exact true_of h
  ·cases h
 ·rename_i t y f ho; rw [ho] at he; cases he
 ·rename_i t y i ho; rw [ho] at he; cases he
 ·rename_i t y i ho; rw [ho] at he; cases he
 ·rename_i t y lo hi mx ho; rw [ho] at he; cases he
 ·rename_i op t y z yt ho
  rw [ho] at he
  simp only at he
  split at h
  ·exact true_of h
  ·rename_i hn
   rw [hn] at he
   cases he
 ·split at h
  ·exact true_of h
  ·cases h
 ·split at h
  ·exact true_of h
  ·exact true_of h
  ·cases h
 ·split at h
  ·exact true_of h
  ·cases h
 ·split at h
  ·exact true_of h
  ·cases h
 ·split at h
  ·split at h
   ·exact true_of h
   ·cases h
  ·cases h
 ·split at h
  ·exact true_of h
  ·cases h
 ·split at h
  ·exact true_of h
  ·cases h
 ·cases h
theorem hereP_sound {tmps : Array Value} {k q : Option (Nat × Bool)} {b : Bool} (hk : Known tmps k) (h1 : q = none -> b = true) (h2 : ∀ q', q = some q' -> (b = true ↔ says tmps q')) (h : holdP (hereP k q b)) : b = true := by
 cases q with
 | none => exact h1 rfl
 | some q => exact condOf_sound hk (h2 q rfl) h
theorem wayP_sound {a : Act} {c : Operand} {want cb : Bool} {q : Option (Nat × Bool)} {b : Bool} (hc : a.eval c = .bool cb) (hcl : ∀ t, c = .tmp t -> a.tmps[t]? = some (a.eval c)) (h1 : q = none -> b = true) (h2 : ∀ q', q = some q' -> (b = true ↔ says a.tmps q'))
  (h : holdP (wayP c want cb q b)) (hw : cb = want) : b = true := by
 cases q with
 | none => exact h1 rfl
 | some q =>
  simp only [wayP] at h
  split at h
  ·rename_i t
   split at h
   ·rename_i he
    refine (h2 q rfl).2 ?_
    unfold says
    rw [he.1, he.2, hcl t rfl, hc, hw]
   ·exact h.1 hw
  ·exact h.1 hw
theorem run_pureOptS {T : World -> Prop} {E : Env} {s : St} {a : Act} {o : Oper} {opt : Opt} {k : Option (Nat × Bool)} {p : List Prop} {x : AV} (hT : isLoad o.op = true -> ∀ w, T w -> Same E w) (g : GamS E0 E s a) (ho : OptOk E a.tmps opt) (hk : Known a.tmps k) (h : pureOpt P k s opt o = some (p, x)) (hp : holdP p) :
  (∃ v, (∀ w, T w -> (execOp a.eval o).run P w = .ok (.value v) w) /\ RepV E v x) /\ ∀ c, o.op ≠ .defer c := by
 unfold pureOpt at h
 split at h
 ·rename_i c ea eb hop
  split at h
  ·rename_i qc bc cb hev
   split at h
   rename_i qa ba xa qb bb xb hea heb
   split at h
   ·rename_i q y hpk
    simp only [Option.some.injEq, Prod.mk.injEq] at h
    obtain ⟨rfl, rfl⟩ := h
    obtain ⟨hp1, hp2⟩ := holdP_append hp
    obtain ⟨c1, c2, c3⟩ := optEv_sound g ho hev
    obtain ⟨a1, a2, a3⟩ := optEv_sound g ho hea
    obtain ⟨b1, b2, b3⟩ := optEv_sound g ho heb
    have hcv := repV_pl (c1 (hereP_sound hk c2 c3 hp1))
    refine ⟨?_, λ c' hh => by rw [hh] at hop; cases hop⟩
    have hcl : ∀ t, c = .tmp t -> a.tmps[t]? = some (a.eval c) := by
     rintro t rfl
     have h9 : a.tmps.getD t undef = .bool cb := hcv
     rw [Array.getD_eq_getD_getElem?] at h9
     show a.tmps[t]? = some (a.tmps.getD t undef)
     rw [Array.getD_eq_getD_getElem?]
     cases ht : a.tmps[t]? with
     | none => rw [ht] at h9; cases h9
     | some v => rfl
    have hrun : ∀ v, (if cb then a.eval ea else a.eval eb) = v -> ∀ w, T w -> (execOp a.eval o).run P w = .ok (.value v) w := by
     intro v hv w _
     simp only [execOp, hop, hcv, asBool, Sem.run_bind, Sem.run_pure, Result.andThen_ok, hv]
    unfold pickAV at hpk
    split at hpk
    ·rename_i p1 q1
     simp only [Option.some.injEq, Prod.mk.injEq] at hpk
     obtain ⟨rfl, rfl⟩ := hpk
     obtain ⟨w1, w2⟩ := holdP_append hp2
     refine ⟨_, hrun _ rfl, ?_⟩
     cases hcb : cb with
     | true => simpa [hcb] using a1 (wayP_sound hcv hcl a2 a3 w1 hcb)
     | false => simpa [hcb] using b1 (wayP_sound hcv hcl b2 b3 w2 hcb)
    ·split at hpk
     ·simp only [Option.some.injEq, Prod.mk.injEq] at hpk
      obtain ⟨rfl, rfl⟩ := hpk
      exact ⟨_, hrun _ rfl, by simpa using a1 (hereP_sound hk a2 a3 hp2)⟩
     ·simp only [Option.some.injEq, Prod.mk.injEq] at hpk
      obtain ⟨rfl, rfl⟩ := hpk
      exact ⟨_, hrun _ rfl, by simpa using b1 (hereP_sound hk b2 b3 hp2)⟩
   ·cases h
  ·cases h
 ·split at h
  rename_i ps s1 hst
  have hs1 : s1 = (stripS k opt o.op.operands.toList s).2 := by rw [hst]
  have hps : ps = (stripS k opt o.op.operands.toList s).1 := by rw [hst]
  split at h
  ·rename_i q y hpu
   split at h
   ·rename_i hez
    simp only [Option.some.injEq, Prod.mk.injEq] at h
    obtain ⟨rfl, rfl⟩ := h
    have g1 : GamS E0 E s1 a := by rw [hs1]; exact strip_sound ho hk _ s g (by rw [<- hps]; exact hp)
    exact ⟨run_pureS hT g1.slots g1.objs hpu (easy_spec hpu hez), pure_ne_defer hpu⟩
   ·simp only [Option.some.injEq, Prod.mk.injEq] at h
    obtain ⟨rfl, rfl⟩ := h
    obtain ⟨h1, h2⟩ := holdP_append hp
    have g1 : GamS E0 E s1 a := by rw [hs1]; exact strip_sound ho hk _ s g (by rw [<- hps]; exact h1)
    exact ⟨run_pureS hT g1.slots g1.objs hpu h2.1, pure_ne_defer hpu⟩
  ·cases h
theorem run_pureOpt {E : Env} {s : St} {a : Act} {o : Oper} {opt : Opt} {k : Option (Nat × Bool)} {p : List Prop} {x : AV} (g : GamS E0 E s a) (ho : OptOk E a.tmps opt) (hk : Known a.tmps k) (h : pureOpt P k s opt o = some (p, x)) (hp : holdP p) :
  (∃ v, (execOp a.eval o).run P E.w = .ok (.value v) E.w /\ RepV E v x) /\ ∀ c, o.op ≠ .defer c := by
 obtain ⟨⟨v, h1, h2⟩, h3⟩ := run_pureOptS (T := Same E) (λ _ _ h => h) g ho hk h hp
 exact ⟨⟨v, h1 _ (Same.refl E), h2⟩, h3⟩
theorem mem_delT : ∀ {opt : Opt} {u : Nat} {t : Nat} {q : Nat × Bool} {b : Bool} {x : AV}, (t, q, b, x) ∈ delT opt u -> (t, q, b, x) ∈ opt /\ t ≠ u /\ q.1 ≠ u := by
 intro opt
 induction opt with
 | nil => intro u t q b x h; simp [delT] at h
 | cons e r ih =>
  intro u t q b x h
  obtain ⟨t', q', b', x'⟩ := e
  simp only [delT] at h
  split at h
  ·obtain ⟨h1, h2⟩ := ih h
   exact ⟨List.mem_cons_of_mem _ h1, h2⟩
  ·rename_i hne
   rcases List.mem_cons.1 h with h | h
   ·simp only [Prod.mk.injEq] at h
    obtain ⟨rfl, rfl, rfl, rfl⟩ := h
    exact ⟨List.mem_cons_self, λ e => hne (.inl e.symm), λ e => hne (.inr e.symm)⟩
   ·obtain ⟨h1, h2⟩ := ih h
    exact ⟨List.mem_cons_of_mem _ h1, h2⟩
theorem mem_flatOpt : ∀ {opt : Opt} {t : Nat} {q : Nat × Bool} {b : Bool} {x : AV}, (t, q, b, x) ∈ flatOpt opt -> (t, q, b, x) ∈ opt /\ flatB x = true := by
 intro opt
 induction opt with
 | nil => intro t q b x h; simp [flatOpt] at h
 | cons e r ih =>
  intro t q b x h
  obtain ⟨t', q', b', x'⟩ := e
  simp only [flatOpt] at h
  split at h
  ·rename_i hf
   rcases List.mem_cons.1 h with h | h
   ·simp only [Prod.mk.injEq] at h
    obtain ⟨rfl, rfl, rfl, rfl⟩ := h
    exact ⟨List.mem_cons_self, hf⟩
   ·obtain ⟨h1, h2⟩ := ih h
    exact ⟨List.mem_cons_of_mem _ h1, h2⟩
  ·obtain ⟨h1, h2⟩ := ih h
   exact ⟨List.mem_cons_of_mem _ h1, h2⟩
theorem put_get {a : Act} {d : Option Nat} {v : Value} {t : Nat} (h : ∀ u, d = some u -> t ≠ u) : (a.put d v).tmps[t]? = a.tmps[t]? := by
 cases d with
 | none => rfl
 | some u =>
  have := h u rfl
  simp only [Act.put]
  rw [Array.getElem?_setIfInBounds]
  rw [if_neg (λ e => this e.symm)]
theorem put_getD {a : Act} {d : Option Nat} {v : Value} {t : Nat} (h : ∀ u, d = some u -> t ≠ u) : (a.put d v).tmps.getD t undef = a.tmps.getD t undef := by
 rw [Array.getD_eq_getD_getElem?, Array.getD_eq_getD_getElem?, put_get h]
theorem put_size {a : Act} {d : Option Nat} {v : Value} : (a.put d v).tmps.size = a.tmps.size := by cases d <;> simp [Act.put]
theorem OptOk.del {E : Env} {a : Act} {opt : Opt} (ho : OptOk E a.tmps opt) (d : Option Nat) (v : Value) : OptOk E (a.put d v).tmps (delO opt d) := by
 intro t q b x hm
 cases d with
 | none => simpa [delO, Act.put] using ho t q b x hm
 | some u =>
  obtain ⟨h1, h2, h2'⟩ := mem_delT hm
  obtain ⟨h3, h4, h5, h6⟩ := ho t q b x h1
  rw [put_getD (λ w hw => by injection hw with hw; subst hw; exact h2), put_size]
  refine ⟨h3, h4, h5, ?_⟩
  unfold says at h6 ⊢
  rw [put_get (λ w hw => by injection hw with hw; subst hw; exact h2')]
  exact h6
theorem OptOk.flat {E E' : Env} {tmps : Array Value} {opt : Opt} (ho : OptOk E tmps opt) : OptOk E' tmps (flatOpt opt) := by
 intro t q b x hm
 obtain ⟨h1, h2⟩ := mem_flatOpt hm
 obtain ⟨h3, h4, h5, h6⟩ := ho t q b x h1
 exact ⟨λ hb => repV_flat (h3 hb) h2 _, h4, h5, h6⟩
theorem OptOk.delT_ {E : Env} {tmps : Array Value} {opt : Opt} (ho : OptOk E tmps opt) (u : Nat) : OptOk E tmps (delT opt u) :=
 λ t q b x hm => ho t q b x (mem_delT hm).1
theorem gEqB_eq (w want : Bool) : keysO.gEqB w want = (w == want) := by cases w <;> cases want <;> rfl
theorem OptOk.say {E : Env} {tmps : Array Value} {opt : Opt} (ho : OptOk E tmps opt) {t : Nat} {w : Bool} (hs : says tmps (t, w)) : OptOk E tmps (sayO t w opt) := by
 intro t' q b x hm
 rcases List.mem_cons.1 hm with hm | hm
 ·simp only [Prod.mk.injEq] at hm
  obtain ⟨rfl, rfl, rfl, rfl⟩ := hm
  have hlt : t' < tmps.size := (Array.getElem?_eq_some_iff.1 hs).1
  have hget : tmps.getD t' undef = .bool w := by
   unfold says at hs
   rw [Array.getD_eq_getD_getElem?, hs]; rfl
  exact ⟨λ _ => (by rw [hget]; exact Rep.pl _ rfl), λ hb => (by cases hb), hlt, ⟨λ _ => hs, λ _ => rfl⟩⟩
 ·exact ho t' q b x hm
theorem lit_says {E : Env} {tmps : Array Value} {opt : Opt} (ho : OptOk E tmps opt) {t : Nat} {want g : Bool} (h : litOf opt t want = some g) : ∃ w, says tmps (t, w) /\ (w == want) = g := by
 unfold litOf at h
 split at h
 ·rename_i q b _ hl
  split at h
  ·rename_i hb
   split at h
   ·injection h with h
    have hu := Nat.eq_of_beq_eq_true hb
    obtain ⟨_, _, _, h4⟩ := ho _ _ _ _ (look_mem hl)
    refine ⟨q.2, ?_, by rw [<- h, gEqB_eq]⟩
    rw [<- hu]
    exact h4.1 rfl
   ·cases h
  ·cases h
 ·cases h
theorem lit_yields {E : Env} {tmps : Array Value} {ops : Array Oper} {opt : Opt} (ho : OptOk E tmps opt) {j t : Nat} (ht : (ops[j]?).bind (·.dst) = some t) {want g : Bool} (h : litOf opt t want = some g) : (yielded ops tmps j == some want) = g := by
 obtain ⟨w, hs, hw⟩ := lit_says ho h
 unfold says at hs
 simp only [yielded, ht, Option.bind_some, hs]
 rw [<- hw]
 cases w <;> cases want <;> rfl
theorem free_sound {C : Table} (hC : TableOk P C) {r : Option Nat} {n : Nat} {Q : Exit -> Act -> World -> Prop} {K : St -> Opt -> List Nat -> Prop} {next : Act -> World -> Prop} {s : St} {opt : Opt} {E : Env} {a : Act} {o : Oper}
  (g : GamS E0 E s a) (hopt : OptOk E a.tmps opt) (h : vcFree P C s opt o K)
  (hK : ∀ s' opt' tl E' v, K s' opt' tl -> GamS E0 E' s' (a.put o.dst v) -> OptOk E' (a.put o.dst v).tmps opt' -> Keep tl E E' -> next (a.put o.dst v) E'.w) : o.wpIn (wideR r) n P a E.w next Q := by
 have hk0 : Known a.tmps none := λ q hq => by cases hq
 unfold vcFree at h
 split at h
 ·rename_i p x hpu'
  have hpu := tryPure_some hpu'
  obtain ⟨h1, h2⟩ := (allP_iff _ _).1 h
  obtain ⟨⟨v, hrun, hv⟩, hnd⟩ := run_pureOpt g hopt hk0 hpu h1
  refine ⟨λ _ _ => trivial, ?_⟩
  rw [Oper.semAt_eq _ _ o hnd, hrun, Oper.uponIn_value]
  exact hK _ _ _ E v h2 ⟨by cases o.dst <;> exact g.toGam, g.slots.put o.dst hv⟩ (hopt.del o.dst v) (Keep.refl _ _)
 ·generalize hst : stripS none opt o.op.operands.toList s = z at h
  obtain ⟨ps, s1⟩ := z
  simp only at h
  obtain ⟨h1, h2⟩ := (allP_iff _ _).1 h
  have g1 : GamS E0 E s1 a := by
   have := strip_sound hopt hk0 o.op.operands.toList s g (by rw [hst]; exact h1)
   rwa [hst] at this
  exact op_sound hC g1 h2 (λ s' E' v tl hs' g' hkp => hK s' _ _ E' v hs' g' (OptOk.del (OptOk.flat hopt) o.dst v) hkp)
theorem one_sound {C : Table} (hC : TableOk P C) {r : Option Nat} {n : Nat} {ops : Array Oper} {Q : Exit -> Act -> World -> Prop} {K : St -> Opt -> List Nat -> Prop} {next : Act -> World -> Prop} {i : Nat} {s : St} {opt : Opt} {E : Env} {a : Act}
  (g : GamS E0 E s a) (hopt : OptOk E a.tmps opt) (h : vcOne P C ops i s opt K)
  (hK : ∀ s' opt' tl E' d v, d = (ops[i]?).bind (·.dst) -> K s' opt' tl -> GamS E0 E' s' (a.put d v) -> OptOk E' (a.put d v).tmps opt' -> Keep tl E E' -> next (a.put d v) E'.w) : wpOpIn (wideR r) n P ops Q i next a E.w := by
 simp only [vcOne, forceS_eq, forceOpt_eq] at h
 unfold wpOpIn
 have hk0 : Known a.tmps none := λ q hq => by cases hq
 cases ho : ops[i]? with
 | none =>
  rw [ho] at h
  exact hK s opt [] E none undef (by rw [ho]; rfl) h g hopt (Keep.refl _ _)
 | some o =>
  rw [ho] at h
  simp only at h ⊢
  cases hg : o.guard with
  | none =>
   rw [hg] at h
   simp only at h
   rw [if_pos (by simp [Region.wanted, hg])]
   exact free_sound hC g hopt h (λ s' opt' tl E' v hs' g' ho' hkp => hK s' opt' tl E' o.dst v (by rw [ho]; rfl) hs' g' ho' hkp)
  | some jw =>
   obtain ⟨j, want⟩ := jw
   rw [hg] at h
   simp only at h
   split at h
   ·exact h.elim
   ·rename_i t ht
    have hundef : RepV E undef (.tup []) := ⟨[], rfl, rfl, λ i u x hu => by simp at hu⟩
    split at h
    ·rename_i hlit
     rw [if_pos (by simp only [Region.wanted, hg]; exact lit_yields hopt ht hlit)]
     exact free_sound hC g hopt h (λ s' opt' tl E' v hs' g' ho' hkp => hK s' opt' tl E' o.dst v (by rw [ho]; rfl) hs' g' ho' hkp)
    ·rename_i hlit
     rw [if_neg (by simp only [Region.wanted, hg]; rw [lit_yields hopt ht hlit]; simp)]
     exact ⟨λ _ _ => trivial, hK _ _ _ E o.dst undef (by rw [ho]; rfl) h ⟨by cases o.dst <;> exact g.toGam, g.slots.put o.dst hundef⟩ (hopt.del o.dst undef) (Keep.refl _ _)⟩
    split at h
    ·exact h.elim
    ·rename_i gb hgb
     have hy : (yielded ops a.tmps j == some want) = gb := by
      unfold guardOf at hgb
      split at hgb
      ·rename_i q b g0 hl
       injection hgb with hgb
       rw [gEq_eq] at hgb
       obtain ⟨h1, h2, h3, _⟩ := hopt t q b _ (look_mem hl)
       have hget : a.tmps[t]? = some (a.tmps.getD t undef) := by rw [Array.getD_eq_getD_getElem?, Array.getElem?_eq_getElem h3]; rfl
       cases b with
       | true =>
        have h4 := repV_pl (h1 rfl)
        simp only [yielded, ht, Option.bind_some, hget, h4]
        rw [<- hgb]
        cases g0 <;> cases want <;> rfl
       | false =>
        have h4 := h2 rfl
        simp only [yielded, ht, Option.bind_some, hget, h4]
        rw [<- hgb]
        rfl
      ·rename_i q b hl
       injection hgb with hgb
       obtain ⟨h1, h2, h3, _⟩ := hopt t q b _ (look_mem hl)
       have hget : a.tmps[t]? = some (a.tmps.getD t undef) := by rw [Array.getD_eq_getD_getElem?, Array.getElem?_eq_getElem h3]; rfl
       rw [<- hgb]
       cases b with
       | true =>
        obtain ⟨vs, h4, _⟩ := h1 rfl
        simp only [yielded, ht, Option.bind_some, hget, h4]
        rfl
       | false =>
        have h4 := h2 rfl
        simp only [yielded, ht, Option.bind_some, hget, h4]
        rfl
      ·cases hgb
      ·split at hgb
       ·rename_i b hb
        injection hgb with hgb
        rw [gEq_eq] at hgb
        simp only [yielded, ht, Option.bind_some, g.val hb]
        rw [<- hgb]
        cases b <;> cases want <;> rfl
       ·rename_i hb
        injection hgb with hgb
        have h1 := get_lt hb (by simp)
        have hlt : t < a.tmps.size := by rw [g.slots.1.1]; exact (List.getElem?_eq_some_iff.1 h1).1
        obtain ⟨vs, h2, _⟩ := g.slots.2 t a.tmps[t] _ (Array.getElem?_eq_getElem hlt) h1
        simp only [yielded, ht, Option.bind_some, Array.getElem?_eq_getElem hlt, h2]
        rw [<- hgb]
        rfl
       ·cases hgb
     have hsay : gb = true ↔ says a.tmps (t, want) := by
      rw [<- hy]
      unfold says
      simp only [yielded, ht, Option.bind_some, beq_iff_eq]
      constructor
      ·intro h9
       split at h9
       ·rename_i b hb
        injection h9 with h9
        rw [hb, h9]
       ·cases h9
      ·intro h9
       rw [h9]
     have hkn : gb = true -> Known a.tmps (some (t, want)) := λ hgt q hq => by injection hq with hq; subst hq; exact hsay.1 hgt
     have hundef : RepV E undef (.tup []) := ⟨[], rfl, rfl, λ i u x hu => by simp at hu⟩
     split at h
     ·rename_i p x hpu
      have hin9 : inSlots s o.dst = true := by
       cases hi9 : inSlots s o.dst with
       | true => rfl
       | false => rw [hi9] at h; exact h.elim
      rw [hin9] at h
      simp only at h
      obtain ⟨hu1, hu2⟩ := (underP_iff _ _ _).1 h
      have step : ∀ v, ((gb = true -> RepV E v x) /\ (gb = false -> v = undef)) -> next (a.put o.dst v) E.w := by
       intro v hv
       refine hK _ _ _ E o.dst v (by rw [ho]; rfl) hu2 ⟨by cases o.dst <;> exact g.toGam, g.slots.put o.dst (show RepV E v .any from trivial)⟩ ?_ (Keep.refl _ _)
       intro t' q' b' x' hm
       cases hdst : o.dst with
       | none =>
        rw [hdst] at hm
        simp only [addO, delO] at hm
        simpa [Act.put] using hopt t' q' b' x' hm
       | some d =>
        rw [hdst] at hm
        simp only [addO, delO] at hm
        split at hm
        ·exact (OptOk.del hopt (some d) v) t' q' b' x' hm
        ·rename_i hdt
         rcases List.mem_cons.1 hm with hm | hm
         ·simp only [Prod.mk.injEq] at hm
          obtain ⟨rfl, rfl, rfl, rfl⟩ := hm
          have hin : t' < a.tmps.size := by
           have h9 := hin9
           rw [hdst] at h9
           simp only [inSlots, Nat.blt_eq] at h9
           rw [g.slots.1.1]
           exact h9
          have : (a.put (some t') v).tmps.getD t' undef = v := by
           rw [Array.getD_eq_getD_getElem?]
           simp [Act.put, hin]
          rw [this, put_size]
          refine ⟨hv.1, hv.2, hin, ?_⟩
          unfold says at hsay ⊢
          rw [put_get (λ w hw => by injection hw with hw; subst hw; exact λ e => hdt e.symm)]
          exact hsay
         ·exact (OptOk.del hopt (some d) v) t' q' b' x' hm
      cases hgb' : gb with
      | true =>
       rw [if_pos (by simp only [Region.wanted, hg]; rw [hy]; exact hgb')]
       obtain ⟨⟨v, hrun, hv⟩, hnd⟩ := run_pureOpt g hopt (hkn hgb') hpu (hu1 hgb')
       refine ⟨λ _ _ => trivial, ?_⟩
       rw [Oper.semAt_eq _ _ o hnd, hrun, Oper.uponIn_value]
       exact step v ⟨λ _ => hv, λ hh => by rw [hgb'] at hh; cases hh⟩
      | false =>
       rw [if_neg (by simp only [Region.wanted, hg]; rw [hy, hgb']; simp)]
       exact ⟨λ _ _ => trivial, step undef ⟨λ hh => by (rw [hgb'] at hh; cases hh), λ _ => rfl⟩⟩
     ·generalize hst : stripS (some (t, want)) opt (keysO t want opt ++ o.op.operands.toList) s = z at h
      obtain ⟨ps, s1⟩ := z
      simp only at h
      cases hgb' : gb with
      | true =>
       rw [if_pos (by simp only [Region.wanted, hg]; rw [hy]; exact hgb')]
       obtain ⟨h1, h2⟩ := (allP_iff _ _).1 (h.1 hgb')
       have g1 : GamS E0 E s1 a := by
        have := strip_sound hopt (hkn hgb') (keysO t want opt ++ o.op.operands.toList) s g (by rw [hst]; exact h1)
        rwa [hst] at this
       have g2 : GamS E0 E (s1.put (some t) (.pl (.bool want))) a := by
        refine g1.said t ?_
        have h9 := hsay.1 hgb'
        unfold says at h9
        rw [getD_of h9]
        exact Rep.pl _ rfl
       exact op_sound hC g2 h2 (λ s' E' v tl hs' g' hkp => hK s' _ _ E' o.dst v (by rw [ho]; rfl) hs' g' (OptOk.del (OptOk.flat (((hopt.delT_ t).rest t want).say (hsay.1 hgb'))) o.dst v) hkp)
      | false =>
       rw [if_neg (by simp only [Region.wanted, hg]; rw [hy, hgb']; simp)]
       refine ⟨λ _ _ => trivial, ?_⟩
       have g1 : GamS E0 E (saidNo s opt t want) a := by
        unfold saidNo
        split
        ·exact g
        ·rename_i hl
         split
         ·rename_i b hb
          have : b = !want := by
           unfold guardOf at hgb
           rw [hl] at hgb
           simp only [hb] at hgb
           injection hgb with hgb
           rw [gEq_eq, hgb'] at hgb
           cases b <;> cases want <;> simp_all
          rw [<- this]
          exact g.refine_ hb
         ·exact g
       refine hK _ _ _ E o.dst undef (by rw [ho]; rfl) (h.2 hgb') ⟨?_, g1.slots.put o.dst hundef⟩ (OptOk.del ?_ o.dst undef) (Keep.refl _ _)
       case refine_2 =>
        unfold knewNo
        split
        ·refine hopt.no ?_
         intro q b g0 hl
         unfold guardOf at hgb
         rw [hl] at hgb
         simp only at hgb
         injection hgb with hgb
         rw [hgb, hgb']
        ·rename_i hl
         split
         ·rename_i b hb
          refine hopt.say ?_
          have : b = !want := by
           unfold guardOf at hgb
           rw [hl] at hgb
           simp only [hb] at hgb
           injection hgb with hgb
           rw [gEq_eq, hgb'] at hgb
           cases b <;> cases want <;> simp_all
          rw [<- this]
          unfold says
          exact g.val hb
         ·exact hopt
       cases o.dst <;> exact g1.toGam
theorem ops_sound {C : Table} (hC : TableOk P C) {DP : Env -> List Deferred -> Prop} (hDP : ∀ {E E' : Env} {tl : List Nat} {ds : List Deferred}, DP E ds -> Keep tl E E' -> DP E' ds) {r : Option Nat} {n : Nat} {ops : Array Oper} {Q : Exit -> Act -> World -> Prop} {K : St -> Opt -> Prop} : ∀ (is : List Nat) (s : St) (opt : Opt) (E : Env) (a : Act), GamS E0 E s a -> OptOk E a.tmps opt -> DP E a.defers -> vcOps P C ops is s opt K ->
  (∀ s' opt' E' a', K s' opt' -> GamS E0 E' s' a' -> OptOk E' a'.tmps opt' -> DP E' a'.defers -> Q .normal a' E'.w) -> wpOpsIn (wideR r) n P ops Q is a E.w := by
 intro is
 induction is with
 | nil => intro s opt E a g ho hd h hK; exact hK s opt E a h g ho hd
 | cons i is ih =>
  intro s opt E a g hopt hd h hK
  simp only [vcOps] at h
  rw [wpOpsIn_cons]
  exact one_sound hC g hopt h λ s' opt' _ E' d v _ hs g' ho' hkp => ih s' opt' E' _ g' ho' (by rw [put_defers]; exact hDP hd hkp) hs hK
def AWp (nb : Nat) (r : Option Nat) (P : Program) (c : Code) (Q : Exit -> St -> Prop) (s : St) : Prop :=
 ∀ (E0 E : Env) (a : Act) (n : Nat) (R : List (Nat × Obj)), E0.m = nb -> GamS E0 E s a -> ProtR r E0 R E a.defers -> c.wpIn (wideR r) n P (λ e a' w' => ∃ s' E', Q e s' /\ GamS E0 E' s' a' /\ E'.w = w' /\ ProtR r E0 R E' a'.defers) a E.w
variable {nb : Nat} {r : Option Nat} {Q Q' : Exit -> St -> Prop} {s : St}
theorem AWp.mono {c : Code} (h : AWp nb r P c Q s) (hq : ∀ e s', Q e s' -> Q' e s') : AWp nb r P c Q' s :=
 λ E0 E a n R hb g hd => wpIn_mono (h E0 E a n R hb g hd) λ _ _ _ ⟨s', E', hQ, rest⟩ => ⟨s', E', hq _ _ hQ, rest⟩
def thenK (K : St -> Prop) (Q : Exit -> St -> Prop) : Exit -> St -> Prop
 | .normal, s => K s
 | e, s => Q e s
theorem awp_seq {x y : Code} (h : AWp nb r P x (thenK (AWp nb r P y Q) Q) s) : AWp nb r P (.seq x y) Q s := by
 intro E0 E a n R hb g hd
 refine wpIn_seq (wpIn_mono (h E0 E a n R hb g hd) ?_)
 rintro e a' w' ⟨s', E', hQ, g', rfl, hd'⟩
 cases e with
 | normal => exact hQ E0 E' a' n R hb g' hd'
 | _ => exact ⟨s', E', hQ, g', rfl, hd'⟩
theorem awp_skip (h : Q .normal s) : AWp nb r P .skip Q s := λ _ E _ _ _ _ g hd => wpIn_skip ⟨s, E, h, g, rfl, hd⟩
theorem awp_ret (h : Q .ret s) : AWp nb r P .ret Q s := λ _ E _ _ _ _ g hd => wpIn_ret ⟨s, E, h, g, rfl, hd⟩
theorem awp_exit {id : Nat} (h : Q (.exit id) s) : AWp nb r P (.exit id) Q s := λ _ E _ _ _ _ g hd => wpIn_exit ⟨s, E, h, g, rfl, hd⟩
def blockK (id : Nat) (Q : Exit -> St -> Prop) : Exit -> St -> Prop
 | .exit i, s => if i = id then Q .normal s else Q (.exit i) s
 | e, s => Q e s
theorem awp_block {id : Nat} {c : Code} (h : AWp nb r P c (blockK id Q) s) : AWp nb r P (.block id c) Q s := by
 intro E0 E a n R hb g hd
 refine wpIn_block (wpIn_mono (h E0 E a n R hb g hd) ?_)
 rintro e a' w' ⟨s', E', hQ, g', rfl, hd'⟩
 cases e with
 | exit i =>
  simp only [Exit.inBlock, blockK] at hQ ⊢
  split at hQ
  ·rename_i he; rw [if_pos he]; exact ⟨s', E', hQ, g', rfl, hd'⟩
  ·rename_i he; rw [if_neg he]; exact ⟨s', E', hQ, g', rfl, hd'⟩
 | _ => exact ⟨s', E', hQ, g', rfl, hd'⟩
def condSt (c : Operand) (s : St) (b : Bool) : St := match c with
 | .tmp t => s.put (some t) (.pl (.bool b))
 | _ => s
theorem awp_cond {c : Operand} {x y : Code} {b : Bool} (hc : s.ev c = .pl (.bool b)) (ht : b = true -> AWp nb r P x Q (condSt c s true)) (hf : b = false -> AWp nb r P y Q (condSt c s false)) : AWp nb r P (.cond c x y) Q s := by
 intro E0 E a n R hb g hd
 have hev := g.slots.ev c
 rw [hc] at hev
 have hv := repV_pl hev
 have hs : ∀ b', b = b' -> GamS E0 E (condSt c s b') a := by
  rintro b' rfl
  cases c with
  | tmp t => exact g.refine_ hc
  | _ => exact g
 cases b with
 | true => exact wpIn_cond_true hv (ht rfl E0 E a n R hb (hs _ rfl) hd)
 | false => exact wpIn_cond_false hv (hf rfl E0 E a n R hb (hs _ rfl) hd)
theorem awp_region {C : Table} (hC : TableOk P C) {id : Nat} {ops : Array Oper} (h : vcOps P C ops (List.range ops.size) s [] λ s _ => Q .normal s) : AWp nb r P (.region id ops false) Q s :=
 λ E0 E a _ _ _ g hd => wpIn_region (ops_sound hC (DP := ProtR r E0 _) (λ h k => h.keep k) _ s [] E a g (λ t q b x hm => by simp at hm) hd h λ s' _ E' _ hK g' _ hd' => ⟨s', E', hK, g', rfl, hd'⟩)
def LoopN (nb : Nat) (r : Option Nat) (P : Program) (c : Code) (Q : Exit -> St -> Prop) : Nat -> St -> Prop
 | 0, _ => False
 | m + 1, s => AWp nb r P c (thenK (LoopN nb r P c Q m) Q) s
theorem exists_min {p : Nat -> Prop} (h : ∃ m, p m) : ∃ m, p m /\ ∀ k, k < m -> ¬ p k := by
 obtain ⟨m, hm⟩ := h
 induction m using Nat.strongRecOn with
 | _ m ih =>
  by_cases hk : ∃ k, k < m /\ p k
  ·obtain ⟨k, hk, hp⟩ := hk
   exact ih k hk hp
  ·exact ⟨m, hm, λ k hkm hp => hk ⟨k, hkm, hp⟩⟩
theorem awp_loop {c : Code} (m : Nat) (h : LoopN nb r P c Q m s) : AWp nb r P (.loop c) Q s := by
 intro E0 E a n R hb g hd
 let U : Nat -> Act -> World -> Prop := λ m a' w' => ∃ s' E', LoopN nb r P c Q m s' /\ GamS E0 E' s' a' /\ E'.w = w' /\ ProtR r E0 R E' a'.defers
 have mu : ∃ μ : Act -> World -> Nat, ∀ a' w', (∃ m, U m a' w') -> U (μ a' w') a' w' /\ ∀ k, U k a' w' -> μ a' w' <= k := by
  have : ∀ x : Act × World, ∃ m, (∃ m, U m x.1 x.2) -> U m x.1 x.2 /\ ∀ k, U k x.1 x.2 -> m <= k := by
   intro x
   by_cases hx : ∃ m, U m x.1 x.2
   ·obtain ⟨m, hm, hmin⟩ := exists_min hx
    exact ⟨m, λ _ => ⟨hm, λ k hk => Nat.le_of_not_lt λ hlt => hmin k hlt hk⟩⟩
   ·exact ⟨0, λ h => absurd h hx⟩
  exact ⟨λ a' w' => Classical.choose (this (a', w')), λ a' w' hx => Classical.choose_spec (this (a', w')) hx⟩
 obtain ⟨μ, hμ⟩ := mu
 refine wpIn_loop (λ a' w' => ∃ m, U m a' w') μ ⟨m, s, E, h, g, rfl, hd⟩ ?_
 intro a' w' hx
 obtain ⟨h1, h2⟩ := hμ a' w' hx
 obtain ⟨s', E', hL, g', rfl, hd'⟩ := h1
 cases hm : μ a' E'.w with
 | zero => rw [hm] at hL; exact hL.elim
 | succ q =>
  rw [hm] at hL
  refine wpIn_mono (hL E0 E' a' n R hb g' hd') ?_
  rintro e a'' w'' ⟨s'', E'', hQ, g'', rfl, hd''⟩
  cases e with
  | normal =>
   have hU : U q a'' E''.w := ⟨s'', E'', hQ, g'', rfl, hd''⟩
   exact ⟨⟨q, hU⟩, by have := (hμ a'' E''.w ⟨q, hU⟩).2 q hU; omega⟩
  | _ => exact ⟨s'', E'', hQ, g'', rfl, hd''⟩
end
end Go.Am

namespace Go.Am
open Go.RowKit
variable [Inhabited GlT]
section
variable {P : Program} {E0 E : Env} {H : List LObj}
def notTup : AV -> Bool
 | .tup _ => false
 | .iarr .. => false
 | _ => true
def oneRes (P : Program) (s : St) : ResultVar -> Option (Prop × AV)
 | .tmp t => match notTup (s.get t) with
  | true => some (True, s.get t)
  | false => none
 | .cell a t => match s.get a with
  | .ptr l i j d => match s.heap[l]? with
   | some (.box _ cs) => match i with
    | 0 => loadAV P t cs j d
    | _ + 1 => none
   | _ => none
  | _ => none
def allRes (P : Program) (s : St) : List ResultVar -> Option (Prop × List AV)
 | [] => some (True, [])
 | x :: xs => match oneRes P s x, allRes P s xs with
  | some (p, y), some (q, ys) => match notTup y with
   | true => some (p /\ q, y :: ys)
   | false => none
  | _, _ => none
def oneRun (tmps : Array Value) : ResultVar -> Sem Value := fun
  | .tmp t => pure (tmps.getD t undef)
  | .cell a t => do loadVar t (← asAddr (tmps.getD a undef))
theorem run_oneRes {s : St} {a : Act} (g : GamS E0 E s a) {x : ResultVar} {p : Prop} {y : AV} (h : oneRes P s x = some (p, y)) (hp : p) : ∃ v, (oneRun a.tmps x).run P E.w = .ok v E.w /\ RepV E v y := by
 cases x with
 | tmp t =>
  simp only [oneRes] at h
  split at h
  ·simp only [Option.some.injEq, Prod.mk.injEq] at h
   obtain ⟨_, rfl⟩ := h
   exact ⟨_, rfl, g.slots.get t⟩
  ·cases h
 | cell b t =>
  simp only [oneRes] at h
  have hb := g.slots.get b
  split at h
  ·rename_i l i j d hev
   split at h
   ·rename_i bt cs hl
    split at h
    ·have hb' : RepV E (a.tmps.getD b undef) (s.get b) := hb
     rw [hev] at hb'
     obtain ⟨L, us, hL, _, _, hg, hr⟩ := g.objs _ _ hl
     obtain ⟨L', hL', hv⟩ := Rep.ptr_inv (show Rep E [_] (.ptr l 0 j d) from hb')
     rw [hL] at hL'
     injection hL' with hL'
     subst hL'
     have hm : Mem E.w ⟨L.b, 0, none⟩ us := λ i u hu => by
      rw [addr_add, cell_of_row E.w L.b _ _ _ _ hg]
      simpa using hu
     obtain ⟨v, hrun, hv2⟩ := run_loadAV (T := λ w => w = E.w) (λ w hw => by rw [hw]; exact hm) hr h hp
     have hrun := hrun E.w rfl
     refine ⟨v, ?_, hv2⟩
     rw [addr_add, show 0 + (j + d) = 0 * L.k + j + d by omega] at hrun
     simp only [oneRun, hv, asAddr, Sem.run_bind, Sem.run_pure, Result.andThen_ok]
     simpa [Instr.loadAt, Instr.sureAddr] using hrun
    ·cases h
   ·cases h
  ·cases h
theorem run_allRes {s : St} {a : Act} (g : GamS E0 E s a) : ∀ {xs : List ResultVar} {p : Prop} {ys : List AV}, allRes P s xs = some (p, ys) -> p ->
  ∃ vs : List Value, (xs.mapM (oneRun a.tmps)).run P E.w = .ok vs E.w /\ vs.length = ys.length /\ (∀ (i : Nat) (v : Value) (y : AV), vs[i]? = some v -> ys[i]? = some y -> RepV1 E v y) := by
 intro xs
 induction xs with
 | nil =>
  intro p ys h _
  simp only [allRes, Option.some.injEq, Prod.mk.injEq] at h
  obtain ⟨_, rfl⟩ := h
  exact ⟨[], by simp, rfl, λ i v y hv => by simp at hv⟩
 | cons x xs ih =>
  intro p ys h hp
  simp only [allRes] at h
  split at h
  ·rename_i p1 y q ys' h1 h2
   split at h
   ·rename_i hnt
    simp only [Option.some.injEq, Prod.mk.injEq] at h
    obtain ⟨rfl, rfl⟩ := h
    obtain ⟨v, hv1, hv2⟩ := run_oneRes g h1 hp.1
    obtain ⟨vs, hvs1, hvs2, hvs3⟩ := ih h2 hp.2
    refine ⟨v :: vs, by simp only [List.mapM_cons, Sem.run_bind, hv1, hvs1, Result.andThen_ok, Sem.run_pure], by simp [hvs2], λ i u z hu hz => ?_⟩
    cases i with
    | zero =>
     simp at hu hz
     subst hu hz
     rwa [repV_eq _ (by intro zs hh; subst hh; simp [notTup] at hnt)] at hv2
    | succ i => exact hvs3 i u z (by simpa using hu) (by simpa using hz)
   ·cases h
  ·cases h
def packRes : List AV -> AV
 | [x] => x
 | xs => .tup xs
theorem run_results {fn : Func} {s : St} {a : Act} (g : GamS E0 E s a) {p : Prop} {ys : List AV} (h : allRes P s fn.results.toList = some (p, ys)) (hp : p) : ∃ v, (results fn a.tmps).run P E.w = .ok v E.w /\ RepV E v (packRes ys) := by
 obtain ⟨vs, h1, h2, h3⟩ := run_allRes g h hp
 have e1 : (results fn a.tmps).run P E.w = .ok (if hh : vs.toArray.size = 1 then vs.toArray[0] else .tuple vs.toArray) E.w := by
  have e2 : results fn a.tmps = (do let vs ← fn.results.mapM (oneRun a.tmps); pure (if h : vs.size = 1 then vs[0] else .tuple vs)) := rfl
  rw [e2, Array.mapM_eq_mapM_toList]
  simp only [Sem.run_bind, Sem.run_map, h1, Result.andThen_ok, Sem.run_pure]
 refine ⟨_, e1, ?_⟩
 clear h h1 e1
 match vs, ys, h2, h3 with
 | [], [], _, h3 => exact ⟨[], by simp, rfl, h3⟩
 | [v], [y], _, h3 =>
  have := h3 0 v y rfl rfl
  simp only [packRes]
  cases y with
  | tup xs => exact this.elim
  | _ => exact this
 | v :: v' :: vs, y :: y' :: ys, h2, h3 => exact ⟨v :: v' :: vs, by simp, h2, h3⟩
def retOf (H : List LObj) : AV -> Option (Prop × AV × List LObj)
 | .own l off n => match H[l]? with
  | some (.row k t m f) => some (True, .own 0 off n, [.row k t m f])
  | _ => none
 | .tup (.own l off n :: ys) => match H[l]?, immVs ys with
  | some (.row k t m f), true => some (True, .tup (.own 0 off n :: ys), [.row k t m f])
  | _, _ => none
 | .tup xs => match argVs [] H xs with
  | some (p, ys) => some (p, .tup ys, [])
  | none => none
 | x => match argV [] H x with
  | some (p, y) => some (p, y, [])
  | none => none
theorem gam_lent (g : Gam E0 E H) (h0 : E0.m = 0) : Gam E0 (E.lent []) [] where
 objs := λ l o hl => by simp at hl
 dom := λ l L hL => by simp [Env.lent] at hL
 own := λ l L hL => by simp [Env.lent] at hL
 inj := λ l l' L L' hL => by simp [Env.lent] at hL
 lt := by
  rintro b (hb | ⟨l, L, hL, hc, rfl, _⟩)
  ·exact g.lt b hb
  ·exact (g.own l L hL hc).2.1
 up := λ b hb => .inl (g.up b hb)
 down := by
  rintro b (hb | ⟨l, L, hL, hc, rfl, _⟩)
  ·exact g.down b hb
  ·exact .inr (g.own l L hL hc).1
 below := g.below
 stay := λ l hl => by omega
 hm := by rw [h0]; exact Nat.zero_le _
def Env.only (E : Env) (l : Nat) : Env := { w := E.w, F := E.F, m := E.m, loc := λ q => if q = 0 then E.loc l else none }
theorem gam_only (g : Gam E0 E H) {l : Nat} {k : Nat} {t : TypeId} {m : Nat} {f : Nat -> AV} (hl : H[l]? = some (.row k t m f)) (h0 : E0.m = 0) : Gam E0 (E.only l) [.row k t m f] where
 objs := by
  intro q o hq
  cases q with
  | zero =>
   simp at hq
   subst hq
   obtain ⟨L, hL, h1, h2, h3, h4, h5⟩ := g.objs _ _ hl
   exact ⟨L, by simp [Env.only, hL], h1, h2, h3, h4, h5⟩
  | succ q => simp at hq
 dom := by
  intro q L hL
  simp only [Env.only] at hL
  split at hL
  ·simp; omega
  ·cases hL
 own := by
  intro q L hL hc
  simp only [Env.only] at hL
  split at hL
  ·exact g.own l L hL hc
  ·cases hL
 inj := by
  intro q q' L L' hL hL' _ _ _
  simp only [Env.only] at hL hL'
  split at hL <;> split at hL' <;> first | omega | cases hL | cases hL'
 lt := g.lt
 up := g.up
 down := g.down
 below := g.below
 stay := λ l hl => by omega
 hm := by rw [h0]; exact Nat.zero_le _
theorem repV1_only {v : Value} {x : AV} {l : Nat} (h : RepV1 E v x) (hi : immB x = true) : RepV1 (E.only l) v x := by
 have e : Ext E.imm (E.only l) := ⟨λ _ h => h, λ _ _ => rfl, λ _ _ h => by simp at h⟩
 cases x <;> first
  | exact trivial
  | exact h.elim
  |(simp [immB] at hi; done)
  | exact (rep_imm (show Rep E [v] _ from h) hi).mono e
  |(obtain ⟨us, hv, hr⟩ := h; exact ⟨us, hv, (rep_imm hr hi).mono e⟩)
theorem argC_notTup {ks : List Nat} {x y : AV} {p : Prop} (h : argC ks H x = some (p, y)) (zs : List AV) : y ≠ .tup zs := by
 unfold argC at h
 split at h
 ·split at h
  ·simp only [Option.some.injEq, Prod.mk.injEq] at h
   obtain ⟨_, rfl⟩ := h
   intro hh; cases hh
  ·split at h
   ·simp only [Option.some.injEq, Prod.mk.injEq] at h
    obtain ⟨_, rfl⟩ := h
    intro hh; cases hh
   ·cases h
 ·unfold argC0 at h
  split at h
  ·split at h
   ·simp only [Option.some.injEq, Prod.mk.injEq] at h
    obtain ⟨_, rfl⟩ := h
    intro hh; cases hh
   ·cases h
  ·split at h
   ·split at h
    ·split at h
     ·simp only [Option.some.injEq, Prod.mk.injEq] at h
      obtain ⟨_, rfl⟩ := h
      intro hh; cases hh
     ·cases h
    ·cases h
   ·simp only [Option.some.injEq, Prod.mk.injEq] at h
    obtain ⟨_, rfl⟩ := h
    intro hh; cases hh
   ·cases h
  ·split at h
   ·rename_i him
    simp only [Option.some.injEq, Prod.mk.injEq] at h
    obtain ⟨_, rfl⟩ := h
    intro hh
    subst hh
    simp [immB] at him
   ·cases h
theorem argV_notTup {ks : List Nat} {x y : AV} {p : Prop} (h : argV ks H x = some (p, y)) (zs : List AV) : y ≠ .tup zs := by
 unfold argV at h
 split at h
 ·split at h
  ·simp only [Option.some.injEq, Prod.mk.injEq] at h
   obtain ⟨_, rfl⟩ := h
   intro hh; cases hh
  ·cases h
 ·exact argC_notTup h zs
theorem ret_sound (g : Gam E0 E H) (h0 : E0.m = 0) {x y : AV} {v : Value} {p : Prop} {H' : List LObj} (hx : RepV E v x) (h : retOf H x = some (p, y, H')) (hp : p) : ∃ E', E'.w = E.w /\ Gam E0 E' H' /\ RepV E' v y := by
 unfold retOf at h
 split at h
 ·rename_i l off n
  split at h
  ·rename_i k t m f hl
   simp only [Option.some.injEq, Prod.mk.injEq] at h
   obtain ⟨_, rfl, rfl⟩ := h
   obtain ⟨L, A, hL, hb, hA, rfl⟩ := Rep.own_inv (show Rep E [v] (.own l off n) from hx)
   exact ⟨E.only l, rfl, gam_only g hl h0, Rep.own (E := E.only l) (l := 0) (by simp [Env.only, hL]) hb hA⟩
  ·cases h
 ·rename_i l off n ys
  split at h
  ·rename_i k t m f hl him
   simp only [Option.some.injEq, Prod.mk.injEq] at h
   obtain ⟨_, rfl, rfl⟩ := h
   obtain ⟨vs, hv, hvl, hvr⟩ := hx
   refine ⟨E.only l, rfl, gam_only g hl h0, vs, hv, by simpa using hvl, λ i u z hu hz => ?_⟩
   cases i with
   | zero =>
    simp at hz
    subst hz
    obtain ⟨L, A, hL, hb, hA, rfl⟩ := Rep.own_inv (show Rep E [u] (.own l off n) from hvr 0 u _ hu rfl)
    exact Rep.own (E := E.only l) (l := 0) (by simp [Env.only, hL]) hb hA
   | succ i =>
    have hz' : ys[i]? = some z := by simpa using hz
    exact repV1_only (hvr (i + 1) u z hu (by simpa using hz)) (immVs_get him hz')
  ·cases h
 ·rename_i xs _
  split at h
  ·rename_i q ys ha
   simp only [Option.some.injEq, Prod.mk.injEq] at h
   obtain ⟨rfl, rfl, rfl⟩ := h
   obtain ⟨vs, hv, hvl, hvr⟩ := hx
   have hne : ∀ (i : Nat) (u : Value) (z : AV), vs[i]? = some u -> xs[i]? = some z -> RepV E u z := by
    intro i u z hu hz
    have := hvr i u z hu hz
    cases z with
    | tup zs => exact this.elim
    | _ => exact this
   obtain ⟨h1, h2⟩ := argVs_rep g hvl hne ha hp
   have hnt : ∀ (H : List LObj) {xs ys : List AV} {q : Prop}, argVs [] H xs = some (q, ys) -> ∀ (i : Nat) (z : AV), ys[i]? = some z -> ∀ zs, z ≠ .tup zs := by
    intro H xs
    induction xs with
    | nil =>
     intro ys q ha i z hz
     simp only [argVs, Option.some.injEq, Prod.mk.injEq] at ha
     obtain ⟨_, rfl⟩ := ha
     simp at hz
    | cons x xs ih =>
     intro ys q ha i z hz zs hzz
     simp only [argVs] at ha
     split at ha
     ·rename_i p1 y1 q1 ys1 hy1 hys1
      simp only [Option.some.injEq, Prod.mk.injEq] at ha
      obtain ⟨_, rfl⟩ := ha
      cases i with
      | zero =>
       simp at hz
       subst hz
       exact argV_notTup hy1 zs hzz
      | succ i => exact ih hys1 i z (by simpa using hz) zs hzz
     ·cases ha
   refine ⟨E.lent [], rfl, gam_lent g h0, vs, hv, h1, λ i u z hu hz => ?_⟩
   have := h2 i u z hu hz
   rwa [repV_eq _ (hnt H ha i z hz)] at this
  ·cases h
 ·split at h
  ·rename_i q z ha
   simp only [Option.some.injEq, Prod.mk.injEq] at h
   obtain ⟨rfl, rfl, rfl⟩ := h
   exact ⟨E.lent [], rfl, gam_lent g h0, argV_rep g hx ha hp⟩
  ·cases h
def RetK (P : Program) (fn : Func) (s : St) (R : AV -> List LObj -> Prop) : Prop := match allRes P s fn.results.toList with
 | some (p, ys) => match retOf s.heap (packRes ys) with
  | some (q, y, H') => p /\ q /\ R y H'
  | none => False
 | none => False
def finalK (P : Program) (fn : Func) (R : AV -> List LObj -> Prop) : Exit -> St -> Prop
 | .normal, s => RetK P fn s R
 | .ret, s => RetK P fn s R
 | _, _ => False
def startSt (fn : Func) (args : List AV) : St := { slots := args ++ List.replicate (fn.ntmps - args.length) .any, heap := [] }
theorem leaves_marks {fn : Func} {sl : List AV} {tmps : Array Value} {n : Nat} {R : Ending -> World -> Prop} : ∀ (Ds : List Nat) {E : Env} {H : List LObj}, Ds.Nodup -> (∀ D ∈ Ds, MarkOk E0 E D) -> Gam E0 E H -> SlotsOk E tmps sl ->
  (∀ E', Gam E0 E' H -> SlotsOk E' tmps sl -> ∃ v w', (results fn tmps).run P E'.w = .ok v w' /\ w' = E'.w /\ R (.returned v) w') -> LeavesInM Fence.wide n P fn tmps R (Ds.map mark) .returning E.w := by
 intro Ds
 induction Ds with
 | nil =>
  intro E H _ _ g hs hk
  obtain ⟨v, w', h1, rfl, h2⟩ := hk E g hs
  exact ⟨v, h1, h2⟩
 | cons D Ds ih =>
  intro E H hn hok g hs hk
  have hD := hok D List.mem_cons_self
  have hlt : D < E.w.heap.size := (Array.getElem?_eq_some_iff.1 hD.at_).1
  let E1 : Env := { E with w := E.w.putObj D (.deferred none) }
  have hoth : ∀ b, b ≠ D -> E1.w.heap[b]? = E.w.heap[b]? := λ b hb => World.putObj_heap_other hb
  have hcell : ∀ a : Addr, E1.w.cell? a = E.w.cell? a := by
   intro a
   by_cases ha : a.block = D
   ·simp only [World.cell?, ha]
    rw [show E1.w.heap[D]? = some (.deferred none) from World.putObj_heap_same hlt, hD.at_]
   ·exact World.cell?_of_block (w := E.w) (hoth _ ha)
  have e : Ext E E1 := ⟨λ _ h => h, λ a _ => hcell a, λ _ _ h => h⟩
  have hsz : E1.w.heap.size = E.w.heap.size := by simp [E1, World.putObj]
  have g1 : Gam E0 E1 H := {
   objs := λ l o hl => (g.objs l o hl).mono e (λ L hL hc => hoth _ (hD.own l L hL hc))
   dom := g.dom
   own := λ l L hL hc => by have := g.own l L hL hc; exact ⟨this.1, by rw [hsz]; exact this.2.1, this.2.2⟩
   inj := g.inj
   lt := λ b hb => by rw [hsz]; exact g.lt b hb
   up := g.up
   down := g.down
   below := g.below.next rfl rfl rfl (by rw [hsz]; exact Nat.le_refl _) (λ k hk => hoth k (λ e => hD.new (e ▸ hk)))
   stay := g.stay
   hm := g.hm }
  refine ⟨by simp, .inl ⟨D, E1.w, rfl, run_takeDeferred hD.at_, ?_⟩⟩
  refine ih (List.nodup_cons.1 hn).2 (λ D' hD' => ?_) g1 (hs.mono e) hk
  have h' := hok D' (List.mem_cons_of_mem _ hD')
  refine ⟨?_, h'.own, h'.new⟩
  rw [hoth D' (λ e => (List.nodup_cons.1 hn).1 (e ▸ hD'))]
  exact h'.at_
theorem start_slots {fn : Func} {args : List AV} {vs : List Value} {H0 : List LObj} (g0 : Gam E0 E0 H0) (hG : GloE E0) (hl : vs.length = args.length) (hr : ∀ (i : Nat) (v : Value) (x : AV), vs[i]? = some v -> args[i]? = some x -> RepV E0 v x) :
  GamS E0 E0 { slots := args ++ List.replicate (fn.ntmps - args.length) .any, heap := H0 } { tmps := vs.toArray ++ Array.replicate (fn.ntmps - vs.toArray.size) undef, defers := [] } := by
 refine ⟨g0, ⟨by simp [hl], hG⟩, λ i v x hv hx => ?_⟩
 simp only at hx
 rw [List.getElem?_append] at hx
 rw [Array.getElem?_append] at hv
 simp only [List.size_toArray, hl] at hv
 split at hx
 ·rename_i hlt'
  rw [if_pos hlt'] at hv
  exact hr i v x (by simpa using hv) hx
 ·rw [List.getElem?_replicate] at hx
  split at hx
  ·injection hx with hx
   subst hx
   exact trivial
  ·cases hx
theorem spec_of_code {f : FuncId} {fn : Func} {c : Code} {args : List AV} {R : AV -> List LObj -> Prop} (hf : P.funcs[f]? = some fn) (hb : fn.body = some c) (h : AWp 0 none P c (finalK P fn R) (startSt fn args)) : Spec P f args R := by
 intro E0 vs hloc hm0 hlt hG hl hr
 have g0 : Gam E0 E0 [] := {
  objs := λ l o hl => by simp at hl
  dom := λ l L hL => by rw [hloc] at hL; cases hL
  own := λ l L hL => by rw [hloc] at hL; cases hL
  inj := λ l l' L L' hL => by rw [hloc] at hL; cases hL
  lt := hlt
  up := λ _ h => h
  down := λ _ h => .inl h
  below := BelowO.refl _
  stay := λ l hl => .inl rfl
  hm := by rw [hm0]; exact Nat.zero_le _ }
 have gs := start_slots (fn := fn) g0 hG hl hr
 refine callsIn_wide.1 (callsIn_of_wp_marks (F := Fence.wide) (n := 0) hf hb trivial ?_)
 refine wpIn_mono (h E0 E0 _ 0 [] hm0 gs (Prot.nil _ _)) ?_
 rintro e a' w' ⟨s', E', hQ, g', rfl, hd⟩
 obtain ⟨Ds, hn, hds, hok⟩ := hd.marks
 have hret : RetK P fn s' R -> LeavesInM Fence.wide 0 P fn a'.tmps (λ e w' => ∃ v x H E', e = .returned v /\ R x H /\ E'.w = w' /\ Gam E0 E' H /\ RepV E' v x) a'.defers .returning E'.w := by
  intro hk
  unfold RetK at hk
  rw [hds]
  refine leaves_marks Ds hn hok g'.toGam g'.slots (λ E2 g2 hs2 => ?_)
  split at hk
  ·rename_i p ys hall
   split at hk
   ·rename_i q y H' hro
    obtain ⟨hp, hq, hR⟩ := hk
    obtain ⟨v, h1, h2⟩ := run_results (a := a') ⟨g2, hs2⟩ hall hp
    obtain ⟨E3, hw3, g3, hv3⟩ := ret_sound g2 hm0 h2 hro hq
    exact ⟨v, E2.w, h1, rfl, v, y, H', E3, rfl, hR, hw3, g3, hv3⟩
   ·exact hk.elim
  ·exact hk.elim
 cases e with
 | normal => exact hret hQ
 | ret => exact hret hQ
 | _ => exact hQ.elim
def RetKH (P : Program) (fn : Func) (s : St) (R : AV -> List LObj -> Prop) : Prop := match allRes P s fn.results.toList with
 | some (p, ys) => p /\ R (packRes ys) s.heap
 | none => False
def finalKH (P : Program) (fn : Func) (R : AV -> List LObj -> Prop) : Exit -> St -> Prop
 | .normal, s => RetKH P fn s R
 | .ret, s => RetKH P fn s R
 | _, _ => False
def startStH (fn : Func) (H0 : List LObj) (args : List AV) : St := { slots := args ++ List.replicate (fn.ntmps - args.length) .any, heap := H0 }
theorem spec_of_codeH {f : FuncId} {fn : Func} {c : Code} {H0 : List LObj} {args : List AV} {R : AV -> List LObj -> Prop} (hf : P.funcs[f]? = some fn) (hb : fn.body = some c) (h : AWp H0.length none P c (finalKH P fn R) (startStH fn H0 args)) : SpecH P f H0 args R := by
 intro E0 vs g0 hm0 hG hl hr
 have gs := start_slots (fn := fn) g0 hG hl hr
 refine callsIn_wide.1 (callsIn_of_wp_marks (F := Fence.wide) (n := 0) hf hb trivial ?_)
 refine wpIn_mono (h E0 E0 _ 0 [] hm0 gs (Prot.nil _ _)) ?_
 rintro e a' w' ⟨s', E', hQ, g', rfl, hd⟩
 obtain ⟨Ds, hn, hds, hok⟩ := hd.marks
 have hret : RetKH P fn s' R -> LeavesInM Fence.wide 0 P fn a'.tmps (λ e w' => ∃ v x H E', e = .returned v /\ R x H /\ E'.w = w' /\ Gam E0 E' H /\ RepV E' v x) a'.defers .returning E'.w := by
  intro hk
  unfold RetKH at hk
  rw [hds]
  refine leaves_marks Ds hn hok g'.toGam g'.slots (λ E2 g2 hs2 => ?_)
  split at hk
  ·rename_i p ys hall
   obtain ⟨hp, hR⟩ := hk
   obtain ⟨v, h1, h2⟩ := run_results (a := a') ⟨g2, hs2⟩ hall hp
   exact ⟨v, E2.w, h1, rfl, v, _, _, E2, rfl, hR, rfl, g2, h2⟩
  ·exact hk.elim
 cases e with
 | normal => exact hret hQ
 | ret => exact hret hQ
 | _ => exact hQ.elim
def ltN (m l : Nat) : Option Nat := match Nat.blt l m with
 | true => some l
 | false => none
def Env.keepN (E : Env) (m : Nat) : Env := { w := E.w, F := λ b => E.F b ∨ E.lends (List.range m) b, m := E.m, loc := λ l => match Nat.blt l m with
 | true => E.loc l
 | false => none }
theorem posN_range_some {m l : Nat} (h : l < m) : posN (List.range m) l ≠ none := by
 intro hp
 have := posN_none hp (j := l)
 rw [List.getElem?_range h] at this
 exact this rfl
theorem keepN_loc {m l : Nat} {L : Loc} (h : (E.keepN m).loc l = some L) : l < m /\ E.loc l = some L := by
 simp only [Env.keepN] at h
 split at h
 ·rename_i hb
  exact ⟨by simpa [Nat.blt_eq] using hb, h⟩
 ·cases h
theorem ext_keepN (E : Env) (m : Nat) : ExtMap (ltN m) E (E.keepN m) := ⟨λ _ h => .inl h, λ _ _ => rfl, λ q q' L hq hL => by
 simp only [ltN] at hq
 split at hq
 ·rename_i hb
  injection hq with hq
  subst hq
  simp only [Env.keepN, hb]
  exact hL
 ·cases hq⟩
theorem gam_keepN (g : Gam E0 E H) {m : Nat} (hm : E0.m = m) : Gam E0 (E.keepN m) ((H.take m).map (mapO (ltN m))) where
 objs := by
  intro l o hl
  rw [List.getElem?_map, Option.map_eq_some_iff] at hl
  obtain ⟨o1, ho1, rfl⟩ := hl
  have hlt : l < m := by
   have := (List.getElem?_eq_some_iff.1 ho1).1
   simp at this
   omega
  rw [List.getElem?_take_of_lt hlt] at ho1
  exact (g.objs l o1 ho1).map (ext_keepN E m) (λ L hL => by simp only [Env.keepN]; rw [show Nat.blt l m = true by simpa [Nat.blt_eq] using hlt]; exact hL) (λ _ _ _ => rfl)
 dom := by
  intro l L hL
  obtain ⟨h1, h2⟩ := keepN_loc hL
  have := g.dom l L h2
  simp
  omega
 own := by
  intro l L hL hc
  obtain ⟨h1, h2⟩ := keepN_loc hL
  have := g.own l L h2 hc
  refine ⟨this.1, this.2.1, ?_⟩
  rintro (h | ⟨l', L', hL', hc', hb, hp⟩)
  ·exact this.2.2 h
  ·have := g.inj l' l L' L hL' h2 hc' hc hb
   subst this
   exact posN_range_some h1 hp
 inj := by
  intro l l' L L' h1 h2 hc hc' hb
  exact g.inj l l' L L' (keepN_loc h1).2 (keepN_loc h2).2 hc hc' hb
 lt := by
  rintro b (h | ⟨l, L, hL, hc, rfl, _⟩)
  ·exact g.lt b h
  ·exact (g.own l L hL hc).2.1
 up := λ b h => .inl (g.up b h)
 down := by
  rintro b (h | ⟨l, L, hL, hc, rfl, _⟩)
  ·exact g.down b h
  ·exact .inr (g.own l L hL hc).1
 below := g.below
 stay := by
  intro l hl
  have := g.stay l hl
  simp only [Env.keepN]
  rw [show Nat.blt l m = true by simp [Nat.blt_eq]; omega]
  exact this
 hm := by
  have := g.hm
  simp
  omega
theorem argVs_get {ks : List Nat} {H : List LObj} : ∀ {xs ys : List AV} {p : Prop}, argVs ks H xs = some (p, ys) -> ∀ {i : Nat} {y : AV}, ys[i]? = some y -> ∃ (x : AV) (_ : xs[i]? = some x) (q : Prop), argV ks H x = some (q, y) := by
 intro xs
 induction xs with
 | nil => intro ys p h i y hy; simp [argVs] at h; rw [h.2] at hy; simp at hy
 | cons c cs ih =>
  intro ys p h i y hy
  simp only [argVs] at h
  split at h
  ·rename_i p1 x1 q1 xs1 h1 h2
   simp only [Option.some.injEq, Prod.mk.injEq] at h
   obtain ⟨rfl, rfl⟩ := h
   cases i with
   | zero => simp at hy; subst hy; exact ⟨c, rfl, _, h1⟩
   | succ i => exact ih h2 (by simpa using hy)
  ·cases h
def shareX (m : Nat) (H : List LObj) : AV -> Option (Prop × AV)
 | .tup xs => match argVs (List.range m) H xs with
  | some (p, ys) => some (p, .tup ys)
  | none => none
 | x => argV (List.range m) H x
theorem share_sound (g : Gam E0 E H) {m : Nat} (hm : E0.m = m) {x y : AV} {v : Value} {p : Prop} (hx : RepV E v x) (h : shareX m H x = some (p, y)) (hp : p) : Gam E0 (E.keepN m) ((H.take m).map (mapO (ltN m))) /\ RepV (E.keepN m) v y := by
 refine ⟨gam_keepN g hm, ?_⟩
 have e : Ext (E.lent (List.range m)) (E.keepN m) := ⟨λ _ h => h, λ _ _ => rfl, λ l L h => by simp [Env.lent] at h⟩
 unfold shareX at h
 split at h
 ·rename_i xs
  split at h
  ·rename_i q ys ha
   simp only [Option.some.injEq, Prod.mk.injEq] at h
   obtain ⟨rfl, rfl⟩ := h
   obtain ⟨vs, hv, hl, hr⟩ := hx
   obtain ⟨h1, h2⟩ := argVs_rep g hl (λ i v x hv hx => repV_of1 (hr i v x hv hx)) ha hp
   refine ⟨vs, hv, h1, λ i u z hu hz => ?_⟩
   have h3 := h2 i u z hu hz
   have hz1 : ∀ zs, z ≠ .tup zs := by
    obtain ⟨x', hx', p', ha'⟩ := argVs_get ha hz
    exact argV_notTup ha'
   have := h3.mono e
   cases z <;> first | exact this | exact absurd rfl (hz1 _)
  ·cases h
 ·exact (argV_rep g hx h hp).mono e
def RetKS (P : Program) (fn : Func) (m : Nat) (s : St) (R : AV -> List LObj -> Prop) : Prop := match allRes P s fn.results.toList with
 | some (p, ys) => match shareX m s.heap (packRes ys) with
  | some (q, y) => p /\ q /\ R y ((s.heap.take m).map (mapO (ltN m)))
  | none => False
 | none => False
def finalKS (P : Program) (fn : Func) (m : Nat) (R : AV -> List LObj -> Prop) : Exit -> St -> Prop
 | .normal, s => RetKS P fn m s R
 | .ret, s => RetKS P fn m s R
 | _, _ => False
theorem spec_of_codeS {f : FuncId} {fn : Func} {c : Code} {H0 : List LObj} {args : List AV} {R : AV -> List LObj -> Prop} (hf : P.funcs[f]? = some fn) (hb : fn.body = some c) (h : AWp H0.length none P c (finalKS P fn H0.length R) (startStH fn H0 args)) : SpecH P f H0 args R := by
 intro E0 vs g0 hm0 hG hl hr
 have gs := start_slots (fn := fn) g0 hG hl hr
 refine callsIn_wide.1 (callsIn_of_wp_marks (F := Fence.wide) (n := 0) hf hb trivial ?_)
 refine wpIn_mono (h E0 E0 _ 0 [] hm0 gs (Prot.nil _ _)) ?_
 rintro e a' w' ⟨s', E', hQ, g', rfl, hd⟩
 obtain ⟨Ds, hn, hds, hok⟩ := hd.marks
 have hret : RetKS P fn H0.length s' R -> LeavesInM Fence.wide 0 P fn a'.tmps (λ e w' => ∃ v x H E', e = .returned v /\ R x H /\ E'.w = w' /\ Gam E0 E' H /\ RepV E' v x) a'.defers .returning E'.w := by
  intro hk
  unfold RetKS at hk
  rw [hds]
  refine leaves_marks Ds hn hok g'.toGam g'.slots (λ E2 g2 hs2 => ?_)
  split at hk
  ·rename_i p ys hall
   split at hk
   ·rename_i q y hsx
    obtain ⟨hp, hq, hR⟩ := hk
    obtain ⟨v, h1, h2⟩ := run_results (a := a') ⟨g2, hs2⟩ hall hp
    obtain ⟨k1, k2⟩ := share_sound g2 hm0 h2 hsx hq
    exact ⟨v, E2.w, h1, rfl, v, _, _, E2.keepN H0.length, rfl, hR, rfl, k1, k2⟩
   ·exact hk.elim
  ·exact hk.elim
 cases e with
 | normal => exact hret hQ
 | ret => exact hret hQ
 | _ => exact hQ.elim
end
end Go.Am

namespace Go.Am
open Go.RowKit
variable [Inhabited GlT]
section act
variable {n : Nat} {P : Program} {ops : Array Oper} {Q : Exit -> Act -> World -> Prop} {S : World -> Prop} {late : Nat -> Bool}
def YieldsS (P : Program) (ops : Array Oper) (S : World -> Prop) (o : Oper) (v : Value) (a : Act) : Prop :=
 (Region.wanted o (yielded ops a.tmps) = true /\ ∀ w, S w -> (execOp a.eval o).run P w = .ok (.value v) w) ∨ (Region.wanted o (yielded ops a.tmps) = false /\ v = undef)
def anyS (n : Nat) (P : Program) (ops : Array Oper) (Q : Exit -> Act -> World -> Prop) (S : World -> Prop) (late : Nat -> Bool) : Nat -> Bool -> Array Bool -> Act -> World -> Prop
 | 0, _, listed, a, w => Region.ready .any ops listed = [] /\ Q .normal a w
 | fuel + 1, ok, listed, a, w => (Region.ready .any ops listed = [] -> Q .normal a w) /\
  ∀ i ∈ Region.ready .any ops listed, wpOpIn (wideR none) n P ops Q i (λ a' w' => (ok = true -> late i = false -> S w -> S w') /\ anyS n P ops Q S late fuel (ok && !late i) (listed.setIfInBounds i true) a' w') a w
theorem anyS_any : ∀ (fuel : Nat) (ok : Bool) (listed : Array Bool) (a : Act) (w : World), anyS n P ops Q S late fuel ok listed a w -> wpAnyIn (wideR none) n P .any ops Q fuel listed a w
 | 0, _, _, _, _, h => h
 | fuel + 1, _, _, _, _, h => ⟨h.1, λ i hi => wpOpIn_mono (λ a' w' h' => anyS_any fuel _ _ a' w' h'.2) (h.2 i hi)⟩
theorem YieldsS.of_same {o : Oper} {v : Value} {a a' : Act} (hy : YieldsS P ops S o v a) (he : execOp a'.eval o = execOp a.eval o)
  (hw : Region.wanted o (yielded ops a'.tmps) = Region.wanted o (yielded ops a.tmps)) : YieldsS P ops S o v a' := by
 unfold YieldsS at *
 rw [he, hw]
 exact hy
theorem YieldsS.op {i : Nat} {o : Oper} {v : Value} {a : Act} (hi : ops[i]? = some o) (hy : YieldsS P ops S o v a) {K : Act -> World -> Prop} {w : World} (hS : S w) (h : K (a.put o.dst v) w) :
  wpOpIn (wideR none) n P ops Q i K a w := by
 unfold wpOpIn
 simp only [hi]
 rcases hy with ⟨hw, hv⟩ | ⟨hw, rfl⟩
 ·rw [if_pos hw]
  refine ⟨λ _ _ => trivial, ?_⟩
  have : (wideR none).round = none := rfl
  rw [this, Oper.semAt_none, hv w hS, Oper.uponIn_value]
  exact h
 ·rw [if_neg (by rw [hw]; simp)]
  exact ⟨λ _ _ => trivial, h⟩
theorem wpOpIn_putS {j : Nat} {oi oj : Oper} {v : Value} (hj : ops[j]? = some oj) (hap : oi.apart ops oj = true)
  (hsi : ∀ cs b, oi.op ≠ .select cs b) (hsj : ∀ cs b, oj.op ≠ .select cs b)
  (hQ : ∀ c a w, Q (.panic c) (a.put oi.dst v) w -> Q (.panic c) a w) {K : Act -> World -> Prop} {a : Act} {w : World}
  (hy : YieldsS P ops S oi v a) (h : wpOpIn (wideR none) n P ops Q j K (a.put oi.dst v) w) :
  wpOpIn (wideR none) n P ops Q j (λ a' w' => YieldsS P ops S oi v a' /\ K (a'.put oi.dst v) w') a w := by
 obtain ⟨h1, h2, h3⟩ := Oper.apart_spec hap
 have keep : ∀ (a : Act), YieldsS P ops S oi v a -> ∀ u, YieldsS P ops S oi v (a.put oj.dst u) := λ a hy u =>
  hy.of_same (execOp_put oi hsi a oj.dst u h3) (wanted_put oi a oj.dst u h3)
 have keepD : ∀ d, YieldsS P ops S oi v { a with defers := d :: a.defers } := λ d => hy.of_same rfl rfl
 have hro : (wideR none).round = none := rfl
 unfold wpOpIn at *
 simp only [hj] at *
 rw [wanted_put oj a oi.dst v h1] at h
 split
 ·rename_i hw
  rw [if_pos hw] at h
  unfold Oper.wpIn at *
  refine ⟨λ _ _ => trivial, ?_⟩
  have h := h.2
  rw [hro, Oper.semAt_none, execOp_put oj hsj a oi.dst v h1] at h
  rw [hro, Oper.semAt_none]
  generalize (execOp a.eval oj).run P w = r at *
  cases r with
  | ok x w' =>
   cases x <;> simp only [Oper.uponIn] at h ⊢
   case value u => exact ⟨keep a hy u, by rw [<- Act.put_comm a v u h2]; exact h⟩
   case skip => exact ⟨keep a hy _, by rw [<- Act.put_comm a v undef h2]; exact h⟩
   case defer d =>
    refine ⟨keep _ (keepD d) _, ?_⟩
    rw [<- Act.put_comm _ v undef h2, <- Act.put_defers]
    exact h
   case enter f args =>
    refine ⟨h.1, CallsIn.mono h.2 λ e w'' he => ?_⟩
    cases e with
    | returned u => exact ⟨keep a hy u, by rw [<- Act.put_comm a v u h2]; exact he⟩
    | panicked c => exact hQ _ _ _ he
    | outgrown => exact he
   case row row args => exact ⟨h.1, RowsIn.mono h.2 λ u w'' he => ⟨keep a hy u, by rw [<- Act.put_comm a v u h2]; exact he⟩⟩
   case round l f tmps assign body =>
    refine ⟨h.1, RoundIn.mono h.2 λ e w'' he => ?_⟩
    cases e with
    | returned u => exact ⟨keep a hy u, by rw [<- Act.put_comm a v u h2]; exact he⟩
    | panicked c => exact hQ _ _ _ he
    | outgrown => exact he
  | halt x w' =>
   cases x <;> simp only [Oper.uponIn] at h ⊢
   case panic u => exact hQ _ _ _ h
 ·rename_i hw
  rw [if_neg hw] at h
  exact ⟨λ _ _ => trivial, keep a hy _, by rw [<- Act.put_comm a v undef h2]; exact h.2⟩
def anc (ops : Array Oper) : Nat -> Nat -> Nat -> Bool
 | 0, _, _ => false
 | f + 1, j, i => match ops[j]? with
  | none => false
  | some o => o.after.any λ e => Region.binds .any e && (e.on == i || anc ops f e.on i)
def Closed (ops : Array Oper) (listed : Array Bool) : Prop :=
 ∀ k o, ops[k]? = some o -> listed.getD k false = true -> ∀ e ∈ o.after, Region.binds .any e = true -> listed.getD e.on false = true
theorem anc_listed {listed : Array Bool} (hc : Closed ops listed) {i : Nat} : ∀ (f j : Nat), (listed.getD j false = true ∨ j ∈ Region.ready .any ops listed) -> anc ops f j i = true -> listed.getD i false = true := by
 intro f
 induction f with
 | zero => intro j _ h; simp [anc] at h
 | succ f ih =>
  intro j hj h
  simp only [anc] at h
  split at h
  ·cases h
  ·rename_i o ho
   rw [Array.any_eq_true'] at h
   obtain ⟨e, he, hb⟩ := h
   simp only [Bool.and_eq_true, Bool.or_eq_true, beq_iff_eq] at hb
   have hl : listed.getD e.on false = true := by
    rcases hj with hj | hj
    ·exact hc j o ho hj e he hb.1
    ·obtain ⟨_, o', ho', hall⟩ := mem_ready.1 hj
     rw [ho] at ho'
     injection ho' with ho'
     subst ho'
     exact hall e he hb.1
   rcases hb.2 with h2 | h2
   ·rw [<- h2]; exact hl
   ·exact ih e.on (.inl hl) h2
theorem Closed.list {listed : Array Bool} (hc : Closed ops listed) {j : Nat} (hj : j ∈ Region.ready .any ops listed) : Closed ops (listed.setIfInBounds j true) := by
 intro k o ho hk e he hb
 obtain ⟨_, o', ho', hall⟩ := mem_ready.1 hj
 by_cases hjk : j = k
 ·subst hjk
  rw [ho] at ho'
  injection ho' with ho'
  subst ho'
  exact getD_set_true (hall e he hb)
 ·rw [getD_set_ne false hjk] at hk
  exact getD_set_true (hc k o ho hk e he hb)
theorem ready_unlisted {listed : Array Bool} {i : Nat} (h : i ∈ Region.ready .any ops listed) : listed.getD i false = false := by
 have h0 := (mem_ready.1 h).1
 rcases Nat.lt_or_ge i listed.size with h' | h'
 ·simp [h'] at h0 ⊢; exact h0
 ·simp [Array.getElem?_eq_none h']
theorem anyS_first {i : Nat} {oi : Oper} {v : Value} (hi : ops[i]? = some oi) (hsel : ∀ (j : Nat) (o : Oper) cs b, ops[j]? = some o -> o.op ≠ .select cs b)
  (hQ : ∀ c a w, Q (.panic c) (a.put oi.dst v) w -> Q (.panic c) a w) {T : World -> Prop} {f0 : Nat} (hT : (∀ w, T w) ∨ ((∀ w, S w -> T w) /\ ∀ j, late j = true -> j ≠ i -> anc ops f0 j i = true)) :
  ∀ (fuel : Nat) (ok : Bool) (listed : Array Bool) (a : Act) (w : World),
   (∀ j oj, ops[j]? = some oj -> j ≠ i -> listed.getD j true = false -> (∀ e ∈ oj.after, Region.binds .any e = true -> e.on ≠ i) -> oi.apart ops oj = true) ->
   i ∈ Region.ready .any ops listed -> Closed ops listed -> YieldsS P ops T oi v a -> ((∀ w, T w) ∨ (ok = true /\ S w)) ->
   anyS n P ops Q S late fuel ok (listed.setIfInBounds i true) (a.put oi.dst v) w -> anyS n P ops Q S late (fuel + 1) ok listed a w := by
 have weak : ∀ (fuel : Nat) (ok ok' : Bool) (listed : Array Bool) (a : Act) (w : World), (ok' = true -> ok = true) -> anyS n P ops Q S late fuel ok listed a w -> anyS n P ops Q S late fuel ok' listed a w := by
  intro fuel
  induction fuel with
  | zero => intro ok ok' listed a w _ h; exact h
  | succ fuel ih =>
   intro ok ok' listed a w hok h
   refine ⟨h.1, λ i hi => wpOpIn_mono (λ a' w' h' => ⟨λ h1 h2 h3 => h'.1 (hok h1) h2 h3, ih _ _ _ _ _ (λ h9 => ?_) h'.2⟩) (h.2 i hi)⟩
   simp only [Bool.and_eq_true] at h9 ⊢
   exact ⟨hok h9.1, h9.2⟩
 have htw : ∀ w ok, ((∀ w, T w) ∨ (ok = true /\ S w)) -> T w := λ w ok hw => by
  rcases hw with h | h
  ·exact h w
  ·rcases hT with h' | h'
   ·exact h' w
   ·exact h'.1 w h.2
 intro fuel
 induction fuel with
 | zero =>
  intro ok listed a w _ hr hc hy hS H
  refine ⟨λ h => (by rw [h] at hr; cases hr), λ j hj => ?_⟩
  by_cases hji : j = i
  ·subst hji; exact hy.op hi (htw w ok hS) ⟨λ _ _ h => h, H⟩
  ·have := ready_mono hj hji
   rw [H.1] at this
   cases this
 | succ fuel ih =>
  intro ok listed a w hfree hr hc hy hS H
  refine ⟨λ h => (by rw [h] at hr; cases hr), λ j hj => ?_⟩
  by_cases hji : j = i
  ·subst hji; exact hy.op hi (htw w ok hS) ⟨λ _ _ h => h, weak _ _ _ _ _ _ (λ h9 => by simp only [Bool.and_eq_true] at h9; exact h9.1) H⟩
  ·have h1 := H.2 j (ready_mono hj hji)
   obtain ⟨hjun, oj, hoj, hall⟩ := mem_ready.1 hj
   have hun := ready_unlisted hr
   have hnot : ∀ e ∈ oj.after, Region.binds .any e = true -> e.on ≠ i := λ e he hb heq => by
    have h1 := hall e he hb
    rw [heq, hun] at h1
    cases h1
   have hjl : (∀ w, T w) ∨ late j = false := by
    rcases hT with h' | ⟨_, hlate⟩
    ·exact .inl h'
    cases hl : late j with
    | false => exact .inr rfl
    | true =>
     have := anc_listed hc f0 j (.inr hj) (hlate j hl hji)
     rw [hun] at this
     cases this
   have h2 := wpOpIn_putS hoj (hfree j oj hoj hji hjun hnot) (λ cs b => hsel i oi cs b hi) (λ cs b => hsel j oj cs b hoj) hQ hy h1
   have hfree' : ∀ k ok, ops[k]? = some ok -> k ≠ i -> (listed.setIfInBounds j true).getD k true = false ->
     (∀ e ∈ ok.after, Region.binds .any e = true -> e.on ≠ i) -> oi.apart ops ok = true := λ k ok hk hki hun hno => by
    refine hfree k ok hk hki ?_ hno
    by_cases hjk : j = k
    ·subst hjk; exact hjun
    ·rw [getD_set_ne true hjk] at hun; exact hun
   refine wpOpIn_mono (λ a' w' h3 => ⟨h3.2.1, ih (ok && !late j) (listed.setIfInBounds j true) a' w' hfree' (ready_mono hr (Ne.symm hji)) (hc.list hj) h3.1 (by
    rcases hjl with h' | h'
    ·exact .inl h'
    ·rcases hS with hS | ⟨hok, hS⟩
     ·exact .inl hS
     ·exact .inr ⟨by rw [hok, h']; rfl, h3.2.1 hok h' hS⟩) ?_⟩) h2
   rw [Array.setIfInBounds_comm _ _ hji]
   exact h3.2.2
end act
end Go.Am

namespace Go.Am
open Go.RowKit
variable [Inhabited GlT]
section
variable {P : Program} {E0 E : Env}
theorem guard_spec {s : St} {a : Act} {opt : Opt} {ops : Array Oper} {j t : Nat} {want gb : Bool} (g : GamS E0 E s a) (hopt : OptOk E a.tmps opt) (ht : (ops[j]?).bind (·.dst) = some t) (hgb : guardOf s opt t want = some gb) :
  (yielded ops a.tmps j == some want) = gb /\ (gb = true ↔ says a.tmps (t, want)) := by
 have hy : (yielded ops a.tmps j == some want) = gb := by
  unfold guardOf at hgb
  split at hgb
  ·rename_i q b g0 hl
   injection hgb with hgb
   rw [gEq_eq] at hgb
   obtain ⟨h1, h2, h3, _⟩ := hopt t q b _ (look_mem hl)
   have hget : a.tmps[t]? = some (a.tmps.getD t undef) := by rw [Array.getD_eq_getD_getElem?, Array.getElem?_eq_getElem h3]; rfl
   cases b with
   | true =>
    have h4 := repV_pl (h1 rfl)
    simp only [yielded, ht, Option.bind_some, hget, h4]
    rw [<- hgb]
    cases g0 <;> cases want <;> rfl
   | false =>
    have h4 := h2 rfl
    simp only [yielded, ht, Option.bind_some, hget, h4]
    rw [<- hgb]
    rfl
  ·rename_i q b hl
   injection hgb with hgb
   obtain ⟨h1, h2, h3, _⟩ := hopt t q b _ (look_mem hl)
   have hget : a.tmps[t]? = some (a.tmps.getD t undef) := by rw [Array.getD_eq_getD_getElem?, Array.getElem?_eq_getElem h3]; rfl
   rw [<- hgb]
   cases b with
   | true =>
    obtain ⟨vs, h4, _⟩ := h1 rfl
    simp only [yielded, ht, Option.bind_some, hget, h4]
    rfl
   | false =>
    have h4 := h2 rfl
    simp only [yielded, ht, Option.bind_some, hget, h4]
    rfl
  ·cases hgb
  ·split at hgb
   ·rename_i b hb
    injection hgb with hgb
    rw [gEq_eq] at hgb
    simp only [yielded, ht, Option.bind_some, g.val hb]
    rw [<- hgb]
    cases b <;> cases want <;> rfl
   ·rename_i hb
    injection hgb with hgb
    have h1 := get_lt hb (by simp)
    have hlt : t < a.tmps.size := by rw [g.slots.1.1]; exact (List.getElem?_eq_some_iff.1 h1).1
    obtain ⟨vs, h2, _⟩ := g.slots.2 t a.tmps[t] _ (Array.getElem?_eq_getElem hlt) h1
    simp only [yielded, ht, Option.bind_some, Array.getElem?_eq_getElem hlt, h2]
    rw [<- hgb]
    rfl
   ·cases hgb
 refine ⟨hy, ?_⟩
 rw [<- hy]
 unfold says
 simp only [yielded, ht, Option.bind_some, beq_iff_eq]
 constructor
 ·intro h9
  split at h9
  ·rename_i b hb
   injection h9 with h9
   rw [hb, h9]
  ·cases h9
 ·intro h9
  rw [h9]
theorem OptOk.add {a : Act} {s : St} {opt : Opt} (hopt : OptOk E a.tmps opt) (hsl : SlotsOk E a.tmps s.slots) {d : Option Nat} (hin9 : inSlots s d = true) {t : Nat} {want gb : Bool} (hsay : gb = true ↔ says a.tmps (t, want)) {v : Value} {x : AV}
  (hv : (gb = true -> RepV E v x) /\ (gb = false -> v = undef)) : OptOk E (a.put d v).tmps (addO (delO opt d) d (t, want) gb x) := by
 intro t' q' b' x' hm
 cases hdst : d with
 | none =>
  rw [hdst] at hm
  simp only [addO, delO] at hm
  simpa [Act.put] using hopt t' q' b' x' hm
 | some d =>
  subst hdst
  simp only [addO, delO] at hm
  split at hm
  ·exact (OptOk.del hopt (some d) v) t' q' b' x' hm
  ·rename_i hdt
   rcases List.mem_cons.1 hm with hm | hm
   ·simp only [Prod.mk.injEq] at hm
    obtain ⟨rfl, rfl, rfl, rfl⟩ := hm
    have hin : t' < a.tmps.size := by
     have h9 := hin9
     simp only [inSlots, Nat.blt_eq] at h9
     rw [hsl.1.1]
     exact h9
    have : (a.put (some t') v).tmps.getD t' undef = v := by
     rw [Array.getD_eq_getD_getElem?]
     simp [Act.put, hin]
    rw [this, put_size]
    refine ⟨hv.1, hv.2, hin, ?_⟩
    unfold says at hsay ⊢
    rw [put_get (λ w hw => by injection hw with hw; subst hw; exact λ e => hdt e.symm)]
    exact hsay
   ·exact (OptOk.del hopt (some d) v) t' q' b' x' hm
structure Quiet where
 gd : Option Bool
 ps : List Prop
 s : St
 opt : Opt
def Quiet.under (q : Quiet) (X : Prop) : Prop := match q.gd with
 | none => allP q.ps X
 | some g => underP g q.ps X
def Quiet.holds (q : Quiet) : Prop := match q.gd with
 | none => holdP q.ps
 | some g => g = true -> holdP q.ps
theorem Quiet.under_iff (q : Quiet) (X : Prop) : q.under X ↔ q.holds /\ X := by
 unfold Quiet.under Quiet.holds
 split
 ·exact allP_iff _ _
 ·exact underP_iff _ _ _
def pureStep (P : Program) (ops : Array Oper) (s : St) (opt : Opt) (o : Oper) : Option Quiet := match o.guard with
 | none => match pureOpt P none s opt o with
  | some (p, x) => some ⟨none, p, s.put o.dst x, delO opt o.dst⟩
  | none => none
 | some (j, want) => match (ops[j]?).bind (·.dst) with
  | none => none
  | some t => match litOf opt t want with
   | some true => match pureOpt P none s opt o with
    | some (p, x) => some ⟨none, p, s.put o.dst x, delO opt o.dst⟩
    | none => none
   | some false => some ⟨none, [], s.put o.dst (.tup []), delO opt o.dst⟩
   | none => match guardOf s opt t want with
    | none => none
    | some g => match pureOpt P (some (t, want)) s opt o with
     | some (p, x) => match inSlots s o.dst with
      | true => some ⟨some g, p, s.put o.dst .any, addO (delO opt o.dst) o.dst (t, want) g x⟩
      | false => none
     | none => none
theorem pureStep_sound {T : World -> Prop} {ops : Array Oper} {s : St} {a : Act} {opt : Opt} {o : Oper} {q : Quiet} (hT : isLoad o.op = true -> ∀ w, T w -> Same E w) (g : GamS E0 E s a) (hopt : OptOk E a.tmps opt)
  (h : pureStep P ops s opt o = some q) (hq : q.holds) : ∃ v, YieldsS P ops T o v a /\ GamS E0 E q.s (a.put o.dst v) /\ OptOk E (a.put o.dst v).tmps q.opt := by
 unfold pureStep at h
 have hk0 : Known a.tmps none := λ q hq => by cases hq
 split at h
 ·rename_i hg
  split at h
  ·rename_i p x hpu
   injection h with h
   subst h
   obtain ⟨⟨v, hrun, hv⟩, _⟩ := run_pureOptS hT g hopt hk0 hpu hq
   exact ⟨v, .inl ⟨by simp [Region.wanted, hg], hrun⟩, ⟨by cases o.dst <;> exact g.toGam, g.slots.put o.dst hv⟩, hopt.del o.dst v⟩
  ·cases h
 ·rename_i j want hg
  split at h
  ·cases h
  ·rename_i t ht
   split at h
   ·rename_i hlit
    split at h
    ·rename_i p x hpu
     injection h with h
     subst h
     obtain ⟨⟨v, hrun, hv⟩, _⟩ := run_pureOptS hT g hopt hk0 hpu hq
     exact ⟨v, .inl ⟨by simp only [Region.wanted, hg]; exact lit_yields hopt ht hlit, hrun⟩, ⟨by cases o.dst <;> exact g.toGam, g.slots.put o.dst hv⟩, hopt.del o.dst v⟩
    ·cases h
   ·rename_i hlit
    injection h with h
    subst h
    exact ⟨undef, .inr ⟨by simp only [Region.wanted, hg]; exact lit_yields hopt ht hlit, rfl⟩, ⟨by cases o.dst <;> exact g.toGam, g.slots.put o.dst (show RepV E undef (.tup []) from ⟨[], rfl, rfl, λ i u x hu => by simp at hu⟩)⟩, hopt.del o.dst undef⟩
   split at h
   ·cases h
   ·rename_i gb hgb
    obtain ⟨hy, hsay⟩ := guard_spec g hopt ht hgb
    split at h
    ·rename_i p x hpu
     split at h
     ·rename_i hin
      injection h with h
      subst h
      have step : ∀ v, ((gb = true -> RepV E v x) /\ (gb = false -> v = undef)) -> GamS E0 E (s.put o.dst .any) (a.put o.dst v) /\ OptOk E (a.put o.dst v).tmps (addO (delO opt o.dst) o.dst (t, want) gb x) := λ v hv =>
       ⟨⟨by cases o.dst <;> exact g.toGam, g.slots.put o.dst (show RepV E v .any from trivial)⟩, hopt.add g.slots hin hsay hv⟩
      cases hgb' : gb with
      | true =>
       obtain ⟨⟨v, hrun, hv⟩, _⟩ := run_pureOptS hT g hopt (λ q hq => by injection hq with hq; subst hq; exact hsay.1 hgb') hpu (hq hgb')
       obtain ⟨h1, h2⟩ := step v ⟨λ _ => hv, λ hh => by rw [hgb'] at hh; cases hh⟩
       rw [hgb'] at h2
       exact ⟨v, .inl ⟨by simp only [Region.wanted, hg]; rw [hy]; exact hgb', hrun⟩, h1, h2⟩
      | false =>
       obtain ⟨h1, h2⟩ := step undef ⟨λ hh => (by rw [hgb'] at hh; cases hh), λ _ => rfl⟩
       rw [hgb'] at h2
       exact ⟨undef, .inr ⟨by simp only [Region.wanted, hg]; rw [hy]; exact hgb', rfl⟩, h1, h2⟩
     ·cases h
    ·cases h
theorem YieldsS.unique {ops : Array Oper} {T T' : World -> Prop} {o : Oper} {v v' : Value} {a : Act} {w : World} (h : YieldsS P ops T o v a) (h' : YieldsS P ops T' o v' a) (hw : T w) (hw' : T' w) : v = v' := by
 rcases h with ⟨h1, h2⟩ | ⟨h1, h2⟩ <;> rcases h' with ⟨h3, h4⟩ | ⟨h3, h4⟩
 ·have e1 := h2 w hw
  have e2 := h4 w hw'
  rw [e1] at e2
  injection e2 with e2
  injection e2
 ·rw [h1] at h3; cases h3
 ·rw [h1] at h3; cases h3
 ·rw [h2, h4]
theorem quiet_heap {ops : Array Oper} {s : St} {opt : Opt} {o : Oper} {q : Quiet} (h : pureStep P ops s opt o = some q) : q.s.heap = s.heap := by
 have hp : ∀ (d : Option Nat) (x : AV), (s.put d x).heap = s.heap := λ d x => by cases d <;> rfl
 unfold pureStep at h
 split at h
 ·split at h
  ·injection h with h; subst h; exact hp _ _
  ·cases h
 ·split at h
  ·cases h
  ·split at h
   ·split at h
    ·injection h with h; subst h; exact hp _ _
    ·cases h
   ·injection h with h; subst h; exact hp _ _
   ·split at h
    ·cases h
    ·split at h
     ·split at h
      ·injection h with h; subst h; exact hp _ _
      ·cases h
     ·cases h
def flatAV (x : AV) : AV := match flatB x with
 | true => x
 | false => .any
def putFlat (b : St) (d : Option Nat) (s' : St) : St := match d with
 | none => b
 | some t => b.put (some t) (flatAV (s'.get t))
structure Take where
 i : Nat
 d : Option Nat
 b : Option Quiet
 q : Quiet
def dimPick (s : St) (opt : Opt) (o : Oper) : Bool := match o.op with
 | .pick _ x y => match (optEv s opt x).2.2, (optEv s opt y).2.2 with
  | .pl (.bool _), .pl (.bool _) => false
  | _, _ => true
 | _ => false
def dimStep (P : Program) (ops : Array Oper) (s : St) (opt : Opt) (o : Oper) : Option Quiet := match dimPick s opt o with
 | true => none
 | false => pureStep P ops s opt o
theorem dimStep_some {ops : Array Oper} {s : St} {opt : Opt} {o : Oper} {q : Quiet} (h : dimStep P ops s opt o = some q) : pureStep P ops s opt o = some q := by
 unfold dimStep at h
 split at h
 ·cases h
 ·exact h
def takeOne (P : Program) (ops : Array Oper) (listed : Array Bool) (okS : Bool) (b : St) (ob : Opt) (s : St) (opt : Opt) : List Nat -> Option Take
 | [] => none
 | i :: is => match ops[i]? with
  | none => takeOne P ops listed okS b ob s opt is
  | some o => match Region.free .any ops listed i with
   | false => takeOne P ops listed okS b ob s opt is
   | true => match pureStep P ops s opt o with
    | none => takeOne P ops listed okS b ob s opt is
    | some q => match isLoad o.op with
     | false => some ⟨i, o.dst, dimStep P ops b ob o, q⟩
     | true => match okS with
      | false => takeOne P ops listed okS b ob s opt is
      | true => match pureStep P ops b ob o with
       | some qb => some ⟨i, o.dst, some qb, q⟩
       | none => takeOne P ops listed okS b ob s opt is
def lateB (ops : Array Oper) (j : Nat) : Bool := (List.range ops.size).all λ i => i == j || anc ops ops.size j i || match ops[i]? with
 | some o => !isLoad o.op
 | none => true
def memB : List Nat -> Nat -> Bool
 | [], _ => false
 | k :: ks, q => match Nat.beq q k with
  | true => true
  | false => memB ks q
def hdN (ts : List Nat) (l : Nat) : Option Nat := match memB ts l with
 | true => none
 | false => some l
def hideO (ts : List Nat) : Nat -> List LObj -> List LObj
 | _, [] => []
 | i, o :: os => (match memB ts i with
  | true => .dead
  | false => mapO (hdN ts) o) :: hideO ts (i + 1) os
def hideS (ts : List Nat) (s : St) : St := match ts with
 | [] => s
 | t :: ts => ⟨mapL (hdN (t :: ts)) s.slots, hideO (t :: ts) 0 s.heap⟩
def Env.hide (E : Env) (ts : List Nat) : Env := { E with loc := λ l => match memB ts l with
 | true => none
 | false => E.loc l }
theorem hideO_get (ts : List Nat) : ∀ (os : List LObj) (i l : Nat), (hideO ts i os)[l]? = (os[l]?).map λ o => match memB ts (i + l) with
  | true => .dead
  | false => mapO (hdN ts) o := by
 intro os
 induction os with
 | nil => intro i l; simp [hideO]
 | cons o os ih =>
  intro i l
  cases l with
  | zero => simp [hideO]
  | succ l =>
   simp only [hideO, List.getElem?_cons_succ]
   rw [ih (i + 1) l, show i + 1 + l = i + (l + 1) by omega]
theorem gam_hide {s : St} {a : Act} (g : GamS E0 E s a) (ts : List Nat) : GamS E0 (E.hide ts) (hideS ts s) a := by
 cases ts with
 | nil => exact g
 | cons t ts =>
  have hl : ∀ l L, (E.hide (t :: ts)).loc l = some L -> E.loc l = some L /\ memB (t :: ts) l = false := by
   intro l L h
   simp only [Env.hide] at h
   split at h
   ·cases h
   ·rename_i hm; exact ⟨h, hm⟩
  have hm : ∀ l, memB (t :: ts) l = false -> (E.hide (t :: ts)).loc l = E.loc l := λ l h => by simp only [Env.hide, h]
  have e : ExtMap (hdN (t :: ts)) E (E.hide (t :: ts)) := ⟨λ _ h => h, λ _ _ => rfl, λ q q' L hq hL => by
   unfold hdN at hq
   split at hq
   ·cases hq
   ·rename_i h9
    injection hq with hq
    subst hq
    rw [hm _ h9]
    exact hL⟩
  refine ⟨⟨?_, ?_, ?_, ?_, g.lt, g.up, g.down, g.below, ?_, ?_⟩, g.slots.map e⟩
  ·intro l o ho
   simp only [hideS, hideO_get, Nat.zero_add] at ho
   rw [Option.map_eq_some_iff] at ho
   obtain ⟨o1, ho1, rfl⟩ := ho
   cases h9 : memB (t :: ts) l with
   | true => exact trivial
   | false => exact (g.objs l o1 ho1).map e (λ L hL => by rw [hm _ h9]; exact hL) (λ L hL hc => rfl)
  ·intro l L hL
   have := g.dom l L (hl l L hL).1
   have h2 := hideO_get (t :: ts) s.heap 0 l
   rw [List.getElem?_eq_getElem this] at h2
   exact (List.getElem?_eq_some_iff.1 h2).1
  ·intro l L hL hc
   exact g.own l L (hl l L hL).1 hc
  ·intro l l' L L' hL hL' hc hc' hb
   exact g.inj l l' L L' (hl l L hL).1 (hl l' L' hL').1 hc hc' hb
  ·intro l hl
   simp only [Env.hide]
   split
   ·exact .inr rfl
   ·exact g.stay l hl
  ·have h1 := g.hm
   have : (hideS (t :: ts) s).heap.length = s.heap.length := by
    have key : ∀ (ts : List Nat) (os : List LObj) (i : Nat), (hideO ts i os).length = os.length := by
     intro ts os
     induction os with
     | nil => intro i; rfl
     | cons o os ih => intro i; simp [hideO, ih]
    exact key _ _ _
   rw [this]
   exact h1
def BelT (Es : Env) (ts : List Nat) (w : World) : Prop := ∀ b, b < Es.w.heap.size -> (∀ l L, memB ts l = true -> Es.loc l = some L -> 0 < L.cap -> L.b ≠ b) -> w.heap[b]? = Es.w.heap[b]?
theorem same_of_belT {H : List LObj} (g : Gam E0 E H) {ts : List Nat} {w : World} (h : BelT E ts w) : Same (E.hide ts) w := by
 intro b hb
 have hh : (∃ l L, (E.hide ts).loc l = some L /\ 0 < L.cap /\ L.b = b) ↔ ∃ l L, E.loc l = some L /\ memB ts l = false /\ 0 < L.cap /\ L.b = b := by
  constructor
  ·rintro ⟨l, L, hL, hc, he⟩
   simp only [Env.hide] at hL
   split at hL
   ·cases hL
   ·rename_i hm; exact ⟨l, L, hL, hm, hc, he⟩
  ·rintro ⟨l, L, hL, hm, hc, he⟩
   exact ⟨l, L, by simp only [Env.hide, hm]; exact hL, hc, he⟩
 rcases hb with hb | hb
 ·exact h b (g.lt b hb) (λ l L _ hL hc he => (g.own l L hL hc).2.2 (he ▸ hb))
 ·obtain ⟨l, L, hL, hm, hc, rfl⟩ := hh.1 hb
  exact h L.b (g.own l L hL hc).2.1 (λ l' L' hm' hL' hc' he => by
   have := g.inj l' l L' L hL' hL hc' hc he
   subst this
   rw [hm] at hm'; cases hm')
def tlOk (m : Nat) (ts : List Nat) : List Nat -> Bool
 | [] => true
 | l :: ls => (Nat.ble m l || memB ts l) && tlOk m ts ls
theorem tlOk_mem {m : Nat} {ts : List Nat} : ∀ {tl : List Nat}, tlOk m ts tl = true -> ∀ l ∈ tl, m <= l ∨ memB ts l = true := by
 intro tl
 induction tl with
 | nil => intro _ l hl; cases hl
 | cons c cs ih =>
  intro h l hl
  simp only [tlOk, Bool.and_eq_true, Bool.or_eq_true, Nat.ble_eq] at h
  rcases List.mem_cons.1 hl with rfl | hl
  ·exact h.1
  ·exact ih h.2 l hl
def dstOf (ops : Array Oper) (i : Nat) : Option Nat := (ops[i]?).bind (·.dst)
def allB : List Nat -> (Nat -> Prop) -> Prop
 | [], _ => True
 | [i], k => k i
 | i :: j :: is, k => k i /\ allB (j :: is) k
theorem allB_iff : ∀ (l : List Nat) (k : Nat -> Prop), allB l k ↔ ∀ i ∈ l, k i
 | [], k => by simp [allB]
 | [i], k => by simp [allB]
 | i :: j :: is, k => by simp only [allB, allB_iff (j :: is) k, List.forall_mem_cons]
def forceBools : List Bool -> (List Bool -> Prop) -> Prop
 | [], k => k []
 | true :: bs, k => forceBools bs λ bs => k (true :: bs)
 | false :: bs, k => forceBools bs λ bs => k (false :: bs)
theorem forceBools_eq : ∀ (l : List Bool) (k : List Bool -> Prop), forceBools l k = k l := by
 intro l
 induction l with
 | nil => intro k; rfl
 | cons b l ih => intro k; cases b <;> simp only [forceBools, ih]
def vcDraw (P : Program) (C : Table) (ops : Array Oper) (m : Nat) (ts : List Nat) : Nat -> List Bool -> Bool -> St -> Opt -> St -> Opt -> (St -> Prop) -> Prop
 | 0, listed, _, _, _, s, _, K => match Region.ready .any ops listed.toArray with
  | [] => K s
  | _ :: _ => False
 | fuel + 1, listed, okS, b, ob, s, opt, K => forceBools listed λ listed => forceS b λ b => forceOpt ob λ ob => forceS s λ s => forceOpt opt λ opt =>
  match Region.ready .any ops listed.toArray with
  | [] => K s
  | r :: rs => match takeOne P ops listed.toArray okS b ob s opt (r :: rs) with
   | some tk => match tk.b with
    | some qb => qb.under (tk.q.under (vcDraw P C ops m ts fuel (listed.set tk.i true) okS qb.s qb.opt tk.q.s tk.q.opt K))
    | none => tk.q.under (vcDraw P C ops m ts fuel (listed.set tk.i true) okS (b.put tk.d .any) (delO ob tk.d) tk.q.s tk.q.opt K)
   | none => allB (r :: rs) λ i => match lateB ops i with
    | true => vcOne P C ops i s opt λ s' opt' _ => vcDraw P C ops m ts fuel (listed.set i true) false (b.put (dstOf ops i) .any) (delO ob (dstOf ops i)) s' opt' K
    | false => vcOne P C ops i s opt λ s' opt' tl => match tlOk m ts tl with
     | true => vcDraw P C ops m ts fuel (listed.set i true) okS (putFlat b (dstOf ops i) s') (delO ob (dstOf ops i)) s' opt' K
     | false => False
theorem takeOne_spec {ops : Array Oper} {listed : Array Bool} {okS : Bool} {b : St} {ob : Opt} {s : St} {opt : Opt} : ∀ {l : List Nat} {tk : Take}, takeOne P ops listed okS b ob s opt l = some tk ->
  ∃ o, tk.i ∈ l /\ ops[tk.i]? = some o /\ tk.d = o.dst /\ Region.free .any ops listed tk.i = true /\ pureStep P ops s opt o = some tk.q /\
   ((isLoad o.op = false /\ tk.b = dimStep P ops b ob o) ∨ (okS = true /\ ∃ qb, tk.b = some qb /\ pureStep P ops b ob o = some qb)) := by
 intro l
 induction l with
 | nil => intro tk h; simp [takeOne] at h
 | cons i is ih =>
  intro tk h
  have rec_ : takeOne P ops listed okS b ob s opt is = some tk -> ∃ o, tk.i ∈ i :: is /\ ops[tk.i]? = some o /\ tk.d = o.dst /\ Region.free .any ops listed tk.i = true /\ pureStep P ops s opt o = some tk.q /\
   ((isLoad o.op = false /\ tk.b = dimStep P ops b ob o) ∨ (okS = true /\ ∃ qb, tk.b = some qb /\ pureStep P ops b ob o = some qb)) := λ h => by
   obtain ⟨o, h1, h2⟩ := ih h
   exact ⟨o, List.mem_cons_of_mem _ h1, h2⟩
  simp only [takeOne] at h
  split at h
  ·exact rec_ h
  ·rename_i o ho
   split at h
   ·exact rec_ h
   ·rename_i hf
    split at h
    ·exact rec_ h
    ·rename_i q hq
     split at h
     ·rename_i hld
      injection h with h
      subst h
      exact ⟨o, List.mem_cons_self, ho, rfl, hf, hq, .inl ⟨hld, rfl⟩⟩
     ·split at h
      ·exact rec_ h
      ·split at h
       ·rename_i qb hqb
        injection h with h
        subst h
        exact ⟨o, List.mem_cons_self, ho, rfl, hf, hq, .inr ⟨rfl, qb, rfl, hqb⟩⟩
       ·exact rec_ h
theorem repV_flatAV {Es E' : Env} {v : Value} {x : AV} (h : RepV E' v x) : RepV Es v (flatAV x) := by
 unfold flatAV
 split
 ·rename_i hf; exact repV_flat h hf Es
 ·exact trivial
structure DrawInv (Es : Env) (m : Nat) (ts : List Nat) (okS : Bool) (E : Env) : Prop where
 size : Es.w.heap.size <= E.w.heap.size
 fresh : okS = true -> ∀ l L, E.loc l = some L -> 0 < L.cap -> Es.w.heap.size <= L.b ∨ ∃ l0 L0, Es.loc l0 = some L0 /\ 0 < L0.cap /\ L0.b = L.b /\ (memB ts l0 = true ∨ (l0 = l /\ l < m))
 keep : okS = true -> BelT Es ts E.w
theorem DrawInv.step {Es E E' : Env} {m : Nat} {ts : List Nat} {okS : Bool} {tl : List Nat} (d : DrawInv Es m ts okS E) (k : Keep tl E E') (ht : tlOk m ts tl = true) : DrawInv Es m ts okS E' where
 size := Nat.le_trans d.size k.size
 fresh := λ ho l L hL hc => by
  rcases k.loc l L hL hc with h | ⟨l1, L1, h0, h1, h2, h3⟩
  ·exact .inl (Nat.le_trans d.size h)
  ·rcases d.fresh ho l1 L1 h1 h2 with h4 | ⟨l0, L0, h5, h6, h7, h8⟩
   ·exact .inl (by rw [<- h3]; exact h4)
   ·refine .inr ⟨l0, L0, h5, h6, by rw [h7, h3], ?_⟩
    rcases h8 with h8 | ⟨rfl, h9⟩
    ·exact .inl h8
    ·rcases h0 with rfl | h0
     ·exact .inr ⟨rfl, h9⟩
     ·rcases tlOk_mem ht _ h0 with h | h
      ·omega
      ·exact .inl h
 keep := λ ho b hb hne => by
  rw [<- d.keep ho b hb hne]
  refine k.block b (Nat.lt_of_lt_of_le hb d.size) (λ l L htl hL hc he => ?_)
  subst he
  rcases d.fresh ho l L hL hc with h4 | ⟨l0, L0, h5, h6, h7, h8⟩
  ·omega
  ·rcases h8 with h8 | ⟨rfl, h9⟩
   ·exact hne l0 L0 h8 h5 h6 h7
   ·rcases tlOk_mem ht _ htl with h | h
    ·omega
    ·exact hne _ L0 h h5 h6 h7
theorem DrawInv.late {Es E E' : Env} {m : Nat} {ts : List Nat} {okS : Bool} {tl : List Nat} (d : DrawInv Es m ts okS E) (k : Keep tl E E') : DrawInv Es m ts false E' where
 size := Nat.le_trans d.size k.size
 fresh := λ ho => by cases ho
 keep := λ ho => by cases ho
theorem lateB_spec {ops : Array Oper} {j i : Nat} {o : Oper} (h : lateB ops j = true) (hi : ops[i]? = some o) (hl : isLoad o.op = true) (hne : j ≠ i) : anc ops ops.size j i = true := by
 unfold lateB at h
 rw [List.all_eq_true] at h
 have := h i (List.mem_range.2 (Array.getElem?_eq_some_iff.1 hi).1)
 rw [hi] at this
 simp only [hl, Bool.not_true, Bool.or_false, Bool.or_eq_true, beq_iff_eq] at this
 rcases this with h1 | h1
 ·exact absurd h1.symm hne
 ·exact h1
theorem SlotsOk.any_ {a : Act} {b : St} (h : SlotsOk E a.tmps b.slots) (d : Option Nat) (v : Value) : SlotsOk E (a.put d v).tmps (b.put d .any).slots := h.put d (show RepV E v .any from trivial)
theorem draw_sound {C : Table} (hC : TableOk P C) {DP : Env -> List Deferred -> Prop} (hDP : ∀ {E E' : Env} {tl : List Nat} {ds : List Deferred}, DP E ds -> Keep tl E E' -> DP E' ds) {n : Nat} {ops : Array Oper} {Q : Exit -> Act -> World -> Prop} {K : St -> Prop} {m : Nat} {ts : List Nat} {Et Es : Env} {H : List LObj} (hsel : Region.noSelect ops = true) (g0 : Gam E0 Es H) (hsame : ∀ w, BelT Et ts w -> Same Es w) :
  ∀ (fuel : Nat) (listed : List Bool) (okS : Bool) (b : St) (ob : Opt) (s : St) (opt : Opt) (E : Env) (a : Act), GamS E0 E s a -> OptOk E a.tmps opt -> b.heap = H -> SlotsOk Es a.tmps b.slots -> OptOk Es a.tmps ob -> Closed ops listed.toArray -> DrawInv Et m ts okS E -> DP E a.defers ->
   vcDraw P C ops m ts fuel listed okS b ob s opt K -> (∀ s' E' a', K s' -> GamS E0 E' s' a' -> DP E' a'.defers -> Q .normal a' E'.w) ->
   anyS n P ops (λ e a w => e = .normal /\ Q e a w) (BelT Et ts) (lateB ops) fuel okS listed.toArray a E.w := by
 intro fuel
 induction fuel with
 | zero =>
  intro listed okS b ob s opt E a g _ _ _ _ _ _ hd h hK
  simp only [vcDraw] at h
  split at h
  ·rename_i hrd
   exact ⟨hrd, rfl, hK s E a h g hd⟩
  ·exact h.elim
 | succ fuel ih =>
  intro listed okS b ob s opt E a g hopt hbh hbs hob hcl hinv hd h hK
  simp only [vcDraw, forceBools_eq, forceS_eq, forceOpt_eq] at h
  split at h
  ·rename_i hrd
   exact ⟨λ _ => ⟨rfl, hK s E a h g hd⟩, λ i hi => by rw [hrd] at hi; cases hi⟩
  ·rename_i r rs hrd
   split at h
   ·rename_i tk htk
    obtain ⟨o, hmem, hi, hd', hfree, hq, hcase⟩ := takeOne_spec htk
    rw [<- hrd] at hmem
    have gb : GamS E0 Es b a := ⟨by rw [hbh]; exact g0, hbs⟩
    have hset : (listed.toArray.setIfInBounds tk.i true) = (listed.set tk.i true).toArray := by simp
    have go : ∀ (T : World -> Prop) (v : Value), ((∀ w, T w) ∨ ((∀ w, BelT Et ts w -> T w) /\ isLoad o.op = true)) -> ((∀ w, T w) ∨ (okS = true /\ BelT Et ts E.w)) -> YieldsS P ops T o v a ->
      anyS n P ops (λ e a w => e = .normal /\ Q e a w) (BelT Et ts) (lateB ops) fuel okS (listed.set tk.i true).toArray (a.put o.dst v) E.w ->
      anyS n P ops (λ e a w => e = .normal /\ Q e a w) (BelT Et ts) (lateB ops) (fuel + 1) okS listed.toArray a E.w := by
     intro T v hT hS hy hrest
     rw [<- hset] at hrest
     refine anyS_first hi (Region.noSelect_spec hsel) (λ c a w h => by cases h.1) (T := T) (f0 := ops.size) ?_ fuel _ _ a E.w (Region.free_spec hi hfree) hmem hcl hy hS hrest
     rcases hT with hT | ⟨hT, hl⟩
     ·exact .inl hT
     ·exact .inr ⟨hT, λ j hj hne => lateB_spec hj hi hl hne⟩
    have hcl' : Closed ops (listed.set tk.i true).toArray := by rw [<- hset]; exact hcl.list hmem
    rcases hcase with ⟨hld, hb⟩ | ⟨hok, qb, hb, hqb⟩
    ·have hT0 : ∀ E1 : Env, isLoad o.op = true -> ∀ w, (λ _ : World => True) w -> Same E1 w := λ E1 h9 => by rw [hld] at h9; cases h9
     cases hbq0 : dimStep P ops b ob o with
     | none =>
      have hbq := hbq0
      rw [hb, hbq] at h
      simp only at h
      obtain ⟨h1, h2⟩ := (Quiet.under_iff _ _).1 h
      obtain ⟨v, hy, gs, hos⟩ := pureStep_sound (hT0 E) g hopt hq h1
      refine go (λ _ => True) v (.inl λ _ => trivial) (.inl λ _ => trivial) hy ?_
      rw [hd'] at h2
      exact ih _ _ _ _ _ _ E _ gs hos (by cases o.dst <;> exact hbh) (hbs.any_ o.dst v) (hob.del o.dst v) hcl' hinv (by rw [put_defers]; exact hd) h2 hK
     | some qb =>
      have hbq := dimStep_some hbq0
      rw [hb, hbq0] at h
      simp only at h
      obtain ⟨h0, h⟩ := (Quiet.under_iff _ _).1 h
      obtain ⟨h1, h2⟩ := (Quiet.under_iff _ _).1 h
      obtain ⟨v, hy, gs, hos⟩ := pureStep_sound (hT0 E) g hopt hq h1
      obtain ⟨v', hy', gs', hos'⟩ := pureStep_sound (hT0 Es) gb hob hbq h0
      obtain rfl := hy.unique hy' (w := E.w) trivial trivial
      have hh : qb.s.heap = H := by rw [<- hbh]; exact quiet_heap hbq
      refine go (λ _ => True) v (.inl λ _ => trivial) (.inl λ _ => trivial) hy ?_
      exact ih _ _ _ _ _ _ E _ gs hos hh gs'.slots hos' hcl' hinv (by rw [put_defers]; exact hd) h2 hK
    ·rw [hb] at h
     simp only at h
     obtain ⟨h0, h⟩ := (Quiet.under_iff _ _).1 h
     obtain ⟨h1, h2⟩ := (Quiet.under_iff _ _).1 h
     have hbel := hinv.keep hok
     obtain ⟨v, hy, gs, hos⟩ := pureStep_sound (T := Same E) (λ _ _ h => h) g hopt hq h1
     obtain ⟨v', hy', gs', hos'⟩ := pureStep_sound (T := BelT Et ts) (λ _ => hsame) gb hob hqb h0
     obtain rfl := hy.unique hy' (w := E.w) (Same.refl E) hbel
     have hh : qb.s.heap = H := by rw [<- hbh]; exact quiet_heap hqb
     have hrest := ih _ _ _ _ _ _ E _ gs hos hh gs'.slots hos' hcl' hinv (by rw [put_defers]; exact hd) h2 hK
     cases hl : isLoad o.op with
     | true => exact go _ v (.inr ⟨λ _ h => h, hl⟩) (.inr ⟨hok, hbel⟩) hy' hrest
     | false =>
      obtain ⟨v2, hy2, _, _⟩ := pureStep_sound (T := λ _ => True) (λ h9 => by rw [hl] at h9; cases h9) gb hob hqb h0
      obtain rfl := hy.unique hy2 (w := E.w) (Same.refl E) trivial
      exact go (λ _ => True) v (.inl λ _ => trivial) (.inl λ _ => trivial) hy2 hrest
   ·rw [allB_iff, <- hrd] at h
    refine ⟨λ h0 => (by rw [h0] at hrd; cases hrd), λ i hi => ?_⟩
    have hset : (listed.toArray.setIfInBounds i true) = (listed.set i true).toArray := by simp
    have hcl' : Closed ops (listed.set i true).toArray := by rw [<- hset]; exact hcl.list hi
    obtain ⟨_, oi, hoi, _⟩ := mem_ready.1 hi
    have hdst : dstOf ops i = oi.dst := by simp [dstOf, hoi]
    have h := h i hi
    rw [hset]
    split at h
    ·rename_i hlate
     refine one_sound hC g hopt h ?_
     intro s' opt' tl E' d v hdd0 hk g' ho' hkp
     have hdd : d = oi.dst := by rw [hdd0, hoi]; rfl
     subst hdd
     refine ⟨λ _ hh => (by rw [hlate] at hh; cases hh), ?_⟩
     rw [hdst] at hk
     rw [hlate, Bool.not_true, Bool.and_false]
     exact ih _ _ _ _ _ _ E' _ g' ho' (by cases oi.dst <;> exact hbh) (hbs.any_ oi.dst v) (hob.del oi.dst v) hcl' (hinv.late hkp) (by rw [put_defers]; exact hDP hd hkp) hk hK
    ·rename_i hlate
     refine one_sound hC g hopt h ?_
     intro s' opt' tl E' d v hdd0 hk g' ho' hkp
     have hdd : d = oi.dst := by rw [hdd0, hoi]; rfl
     subst hdd
     split at hk
     ·rename_i htl
      have hinv' := hinv.step hkp htl
      refine ⟨λ hok _ _ => hinv'.keep hok, ?_⟩
      ·rw [hdst] at hk
       rw [hlate, Bool.not_false, Bool.and_true]
       refine ih _ _ _ _ _ _ E' _ g' ho' ?_ ?_ (hob.del oi.dst v) hcl' hinv' (by rw [put_defers]; exact hDP hd hkp) hk hK
       ·unfold putFlat
        cases oi.dst <;> exact hbh
       ·unfold putFlat
        cases hdd : oi.dst with
        | none => exact hbs
        | some d =>
         rcases Nat.lt_or_ge d a.tmps.size with hlt | hge
         ·refine SlotsOk.put hbs (some d) (repV_flatAV (E' := E') ?_)
          have := g'.slots.get d
          rw [hdd] at this
          have e1 : (a.put (some d) v).tmps.getD d undef = v := by
           rw [Array.getD_eq_getD_getElem?]
           simp [Act.put, hlt]
          rw [e1] at this
          exact this
         ·have e1 : (a.put (some d) v) = a := by
           simp only [Act.put]
           rw [Array.setIfInBounds_eq_of_size_le hge]
          have e2 : (b.put (some d) (flatAV (s'.get d))).slots = b.slots := by
           simp only [St.put]
           rw [List.set_eq_of_length_le (by rw [<- hbs.1.1]; exact hge)]
          rw [e1, e2]
          exact hbs
     ·exact hk.elim
def Env.drew (E : Env) : Env := { E with w := { E.w with drawn := E.w.drawn + 1 } }
theorem gam_drew {s : St} {a : Act} (g : GamS E0 E s a) : GamS E0 E.drew s a := by
 have e : Ext E E.drew := ⟨λ _ h => h, λ _ _ => rfl, λ _ _ h => h⟩
 refine ⟨⟨λ l o hl => (g.objs l o hl).mono e (λ _ _ _ => rfl), g.dom, g.own, g.inj, g.lt, g.up, g.down, ?_, g.stay, g.hm⟩, g.slots.mono e⟩
 exact g.below.next rfl rfl rfl (Nat.le_refl _) (λ _ _ => rfl)
theorem draw_wp {C : Table} (hC : TableOk P C) {DP : Env -> List Deferred -> Prop} (hDP : ∀ {E E' : Env} {tl : List Nat} {ds : List Deferred}, DP E ds -> Keep tl E E' -> DP E' ds) {Q : St -> Prop} {s : St} {a : Act} {n : Nat} {id : Nat} {ops : Array Oper} (ts : List Nat) (hm : P.follows .mixedOrders = true) (hsel : Region.noSelect ops = true)
  (g : GamS E0 E s a) (hd : DP E a.defers) (h : vcDraw P C ops s.heap.length ts ops.size (List.replicate ops.size false) true (hideS ts s) [] s [] Q) :
  (Code.region id ops true).wpIn (wideR none) n P (λ e a' w' => e = .normal /\ ∃ s' E', Q s' /\ GamS E0 E' s' a' /\ E'.w = w' /\ DP E' a'.defers) a E.w := by
 have g' := gam_drew g
 have gh := gam_hide g' ts
 refine wpIn_mono (wpIn_region_any (F := wideR none) (Q := λ e a w => e = .normal /\ ∃ s' E', Q s' /\ GamS E0 E' s' a /\ E'.w = w /\ DP E' a.defers) hm (anyS_any (S := BelT E.drew ts) (late := lateB ops) _ true _ _ _ ?_)) ?_
 ·have := draw_sound hC (DP := DP) hDP (n := n) (Q := λ _ a w => ∃ s' E', Q s' /\ GamS E0 E' s' a /\ E'.w = w /\ DP E' a.defers) (K := Q) (m := s.heap.length) (ts := ts) (Et := E.drew) (Es := E.drew.hide ts) (H := (hideS ts s).heap) hsel gh.toGam (λ w hw => same_of_belT g'.toGam hw) ops.size (List.replicate ops.size false) true (hideS ts s) [] s [] E.drew a g'
   (λ t q b x hm => by simp at hm) rfl gh.slots (λ t q b x hm => by simp at hm) (λ k o _ hk => by
    simp only [Array.getD_eq_getD_getElem?, List.getElem?_toArray, List.getElem?_replicate] at hk
    split at hk <;> simp at hk)
   ⟨Nat.le_refl _, λ _ l L hL hc => .inr ⟨l, L, hL, hc, rfl, .inr ⟨rfl, g'.dom l L hL⟩⟩, λ _ _ _ _ => rfl⟩ (hDP (tl := []) hd ⟨rfl, rfl, rfl, Nat.le_refl _, λ _ _ _ => rfl, λ l L' hL hc => .inr ⟨l, L', .inl rfl, hL, hc, rfl⟩⟩) h (λ s' E' a' hK gg hdd => ⟨s', E', hK, gg, rfl, hdd⟩)
  simpa [Env.drew] using this
 ·rintro e a' w' ⟨rfl, s', E', hQ, gg, hw, hdd⟩
  exact ⟨rfl, s', E', hQ, gg, hw, hdd⟩
theorem awp_draw {C : Table} (hC : TableOk P C) {nb : Nat} {Q : Exit -> St -> Prop} {s : St} {id : Nat} {ops : Array Oper} (ts : List Nat) (hm : P.follows .mixedOrders = true) (hsel : Region.noSelect ops = true)
  (h : vcDraw P C ops s.heap.length ts ops.size (List.replicate ops.size false) true (hideS ts s) [] s [] (Q .normal)) : AWp nb none P (.region id ops true) Q s := by
 intro E0 E a n R hb g hd
 refine wpIn_mono (draw_wp hC (DP := Prot E0 R) (λ h k => h.keep k) ts hm hsel g hd h) ?_
 rintro e a' w' ⟨rfl, h⟩
 exact h
end
end Go.Am

namespace Go.Am
open Go.RowKit
variable [Inhabited GlT]
inductive Nm where
 | old (q : Nat)
 | new
 | gone
abbrev Names := List Nm
def pos : Names -> Nat -> Option Nat
 | [], _ => none
 | .old k :: ks, q => match Nat.beq q k with
  | true => some 0
  | false => match pos ks q with
   | some j => some (j + 1)
   | none => none
 | _ :: ks, q => match pos ks q with
  | some j => some (j + 1)
  | none => none
def virtB (ks : Names) (j : Nat) : Bool := match ks[j]? with
 | some .new => true
 | _ => false
def virt (ks : Names) (j : Nat) : Prop := match virtB ks j with
 | true => True
 | false => False
theorem virt_iff {ks : Names} {j : Nat} : virt ks j ↔ ks[j]? = some .new := by
 unfold virt virtB
 cases h : ks[j]? with
 | none => simp
 | some x => cases x <;> simp
def plLe (u v : Value) : Prop := match u, v with
 | .int k a, .int k' b => if k = k' then a = b else False
 | .bool a, .bool b => a = b
 | .string a, .string b => a = b
 | u, v => u = v
theorem plLe_eq {u v : Value} (h : plLe u v) : u = v := by
 unfold plLe at h
 split at h
 ·split at h
  ·rename_i hk; rw [hk, h]
  ·exact h.elim
 ·rw [h]
 ·rw [h]
 ·exact h
def nilSl (u : Value) : Prop := match u with
 | .slice none 0 0 => True
 | _ => False
theorem nilSl_eq {u : Value} (h : nilSl u) : u = .slice none 0 0 := by
 unfold nilSl at h
 split at h
 ·rfl
 ·exact h.elim
def posP (ks : Names) (l l' : Nat) : Prop := match pos ks l with
 | some j => match Nat.beq j l' with
  | true => True
  | false => False
 | none => False
theorem posP_eq {ks : Names} {l l' : Nat} (h : posP ks l l') : pos ks l = some l' := by
 unfold posP at h
 split at h
 ·rename_i j hj
  split at h
  ·rename_i hb; rw [hj, Nat.eq_of_beq_eq_true hb]
  ·exact h.elim
 ·exact h.elim
theorem pos_get : ∀ {ks : Names} {q j : Nat}, pos ks q = some j -> ks[j]? = some (.old q) := by
 intro ks
 induction ks with
 | nil => intro q j h; simp [pos] at h
 | cons k ks ih =>
  intro q j h
  have rec_ : (match pos ks q with | some j => some (j + 1) | none => none) = some j -> (k :: ks)[j]? = some (.old q) := λ h => by
   cases hp : pos ks q with
   | none => rw [hp] at h; cases h
   | some j' =>
    rw [hp] at h
    injection h with h
    subst h
    simpa using ih hp
  cases k with
  | new => exact rec_ h
  | gone => exact rec_ h
  | old k =>
   simp only [pos] at h
   split at h
   ·rename_i he
    injection h with h
    subst h
    rw [Nat.eq_of_beq_eq_true he]
    rfl
   ·exact rec_ h
mutual
def leA (ks : Names) : AV -> AV -> Prop
 | .agg cs, y => match y with
  | .agg ds => leL ks cs ds
  | _ => False
 | .iarr k n f, y => match y with
  | .iarr k' n' f' => k = k' /\ n = n' /\ ∀ i, i < n -> f i = f' i
  | _ => False
 | .tup cs, y => match y with
  | .tup ds => leL ks cs ds
  | _ => False
 | .any, y => match y with
  | .any => True
  | _ => False
 | .pl u, y => match y with
  | .any => True
  | .pl v => plLe u v
  | .own l a b => nilSl u /\ virt ks l /\ a = 0 /\ b = 0
  | .rows _ n _ => nilSl u /\ n = 0
  | _ => False
 | .rows k n f, y => match y with
  | .any => True
  | .rows k' n' f' => k = k' /\ n = n' /\ ∀ i, i < n -> f i = f' i
  | _ => False
 | .own l a b, y => match y with
  | .any => True
  | .own l' a' b' => posP ks l l' /\ a = a' /\ b = b'
  | _ => False
 | .ptr l i j d, y => match y with
  | .any => True
  | .ptr l' i' j' d' => posP ks l l' /\ i = i' /\ j = j' /\ d = d'
  | _ => False
 | .ipt x j d, y => match y with
  | .any => True
  | .ipt x' j' d' => x = x' /\ j = j' /\ d = d'
  | _ => False
 | .clo fn cs, y => match y with
  | .any => True
  | .clo fn' ds => fn = fn' /\ leL ks cs ds
  | _ => False
 | .ifc t x, y => match y with
  | .any => True
  | .ifc t' x' => t = t' /\ leA ks x x'
  | _ => False
 | .mp l, y => match y with
  | .any => True
  | .mp l' => posP ks l l'
  | _ => False
 | .emp, y => match y with
  | .any => True
  | .emp => True
  | .own l a b => virt ks l /\ a = 0 /\ b = 0
  | .rows _ n _ => n = 0
  | _ => False
def leL (ks : Names) : List AV -> List AV -> Prop
 | [], [] => True
 | c :: cs, d :: ds => leA ks c d /\ leL ks cs ds
 | _, _ => False
end
structure ExtRen (ks : Names) (E E' : Env) : Prop where
 F : ∀ b, E.F b -> E'.F b
 cell : ∀ a : Addr, E.F a.block -> E'.w.cell? a = E.w.cell? a
 loc : ∀ q L q', E.loc q = some L -> pos ks q = some q' -> E'.loc q' = some L
 virt : ∀ l, virt ks l -> ∃ L, E'.loc l = some L /\ L.cap = 0
theorem own_virt {ks : Names} {E E' : Env} (e : ExtRen ks E E') {l : Nat} (h : virt ks l) (A : Option Addr) : Rep E' [.slice A 0 0] (.own l 0 0) := by
 obtain ⟨L, hL, hc⟩ := e.virt l h
 have := Rep.own (E := E') (l := l) (off := 0) (len := 0) (A := A) hL (by omega) (λ hh => by omega)
 rwa [hc] at this
theorem ExtRen.imm {ks : Names} {E E' : Env} (h : ExtRen ks E E') : Ext E.imm E'.imm := ⟨h.F, h.cell, λ _ _ h => by simp at h⟩
theorem leL_get {ks : Names} : ∀ {cs ds : List AV}, leL ks cs ds -> cs.length = ds.length /\ ∀ (i : Nat) (c d : AV), cs[i]? = some c -> ds[i]? = some d -> leA ks c d := by
 intro cs
 induction cs with
 | nil =>
  intro ds h
  cases ds with
  | nil => exact ⟨rfl, λ i c d hc => by simp at hc⟩
  | cons d ds => simp [leL] at h
 | cons c cs ih =>
  intro ds h
  cases ds with
  | nil => simp [leL] at h
  | cons d ds =>
   simp only [leL] at h
   obtain ⟨h1, h2⟩ := ih h.2
   refine ⟨by simp [h1], λ i c' d' hc hd => ?_⟩
   cases i with
   | zero => simp at hc hd; subst hc hd; exact h.1
   | succ i => exact h2 i c' d' (by simpa using hc) (by simpa using hd)
theorem cw_le {ks : Names} {c d : AV} (h : leA ks c d) : cw c = cw d := by
 cases c <;> cases d <;> simp only [leA] at h <;> first | rfl | exact h.elim | (obtain ⟨rfl, rfl, _⟩ := h; rfl)
theorem rep_le {ks : Names} {E : Env} {us : List Value} {x : AV} (h : Rep E us x) : ∀ {E' : Env} {y : AV}, ExtRen ks E E' -> leA ks x y -> Rep E' us y := by
 induction h with
 | any v h =>
  intro E' y _ hl
  cases y <;> simp only [leA] at hl
  exact .any v h
 | pl v h =>
  intro E' y e hl
  cases y <;> simp only [leA] at hl
  ·exact .any v h
  ·obtain rfl := plLe_eq hl; exact .pl v h
  ·obtain ⟨hn, rfl⟩ := hl
   obtain rfl := nilSl_eq hn
   exact .rows (us := λ _ => []) (a := default) (Nat.le_refl _) (by omega) (by omega) (by omega) (by omega) (by omega)
  ·obtain ⟨hn, hv, rfl, rfl⟩ := hl
   obtain rfl := nilSl_eq hn
   exact own_virt e hv none
 | iarr hl h =>
  intro E' y _ hy
  cases y <;> simp only [leA] at hy
  obtain ⟨rfl, rfl, hf⟩ := hy
  exact .iarr hl (λ i hi => by rw [<- hf i hi]; exact h i hi)
 | nil =>
  intro E' y _ hy
  cases y <;> simp only [leA] at hy
  rename_i ds
  cases ds with
  | nil => exact .nil
  | cons d ds => simp [leL] at hy
 | cons hl _ _ ih1 ih2 =>
  intro E' y e hy
  cases y <;> simp only [leA] at hy
  rename_i ds
  cases ds with
  | nil => simp [leL] at hy
  | cons d ds =>
   simp only [leL] at hy
   exact .cons (by rw [<- cw_le hy.1]; exact hl) (ih1 e hy.1) (ih2 e (by simp only [leA]; exact hy.2))
 | rows hc hm ha hl hcell h _ =>
  intro E' y e hy
  cases y <;> simp only [leA] at hy
  ·exact .any _ rfl
  ·obtain ⟨rfl, rfl, hf⟩ := hy
   refine .rows hc hm (λ h => ⟨(ha h).1, e.F _ (ha h).2⟩) hl (λ i hi j u hu => ?_) (λ i hi => by rw [<- hf i hi]; exact (h i hi).mono e.imm)
   rw [e.cell _ (by rw [block_add]; exact (ha (by omega)).2)]
   exact hcell i hi j u hu
 | own hL hb ha =>
  intro E' y e hy
  cases y <;> simp only [leA] at hy
  ·exact .any _ rfl
  ·obtain ⟨hp, rfl, rfl⟩ := hy
   exact .own (e.loc _ _ _ hL (posP_eq hp)) hb ha
 | ptr hL =>
  intro E' y e hy
  cases y <;> simp only [leA] at hy
  ·exact .any _ rfl
  ·obtain ⟨hp, rfl, rfl, rfl⟩ := hy
   exact .ptr (e.loc _ _ _ hL (posP_eq hp))
 | ipt hF hcell h _ =>
  intro E' y e hy
  cases y <;> simp only [leA] at hy
  ·exact .any _ rfl
  ·obtain ⟨rfl, rfl, rfl⟩ := hy
   refine .ipt (e.F _ hF) (λ i u hu => ?_) (h.mono e.imm)
   rw [e.cell _ (by rw [block_add]; exact hF)]
   exact hcell i u hu
 | @clo E fn vs caps hl h ih =>
  intro E' y e hy
  cases y <;> simp only [leA] at hy
  ·exact .any _ rfl
  ·obtain ⟨rfl, hy⟩ := hy
   obtain ⟨h1, h2⟩ := leL_get hy
   refine .clo (by rw [hl, h1]) (λ i v c hv hc => ?_)
   have hlt : i < caps.length := by rw [<- hl]; exact (List.getElem?_eq_some_iff.1 hv).1
   exact ih i v caps[i] hv (List.getElem?_eq_getElem hlt) e (h2 i _ _ (List.getElem?_eq_getElem hlt) hc)
 | ifc hv _ ih =>
  intro E' y e hy
  cases y <;> simp only [leA] at hy
  ·exact .any _ rfl
  ·obtain ⟨rfl, hy⟩ := hy
   exact .ifc hv (ih e hy)
 | @ifca E t us cs h ih =>
  intro E' y e hy
  cases y <;> simp only [leA] at hy
  ·exact .any _ rfl
  ·obtain ⟨rfl, hy⟩ := hy
   rename_i y'
   have h9 : leA ks (.agg cs) y' := by simp only [leA]; exact hy
   cases y' <;> simp only at hy
   exact .ifca (ih e h9)
 | mp hL =>
  intro E' y e hy
  cases y <;> simp only [leA] at hy
  ·exact .any _ rfl
  ·exact .mp (e.loc _ _ _ hL (posP_eq hy))
 | emp A =>
  intro E' y e hy
  cases y <;> simp only [leA] at hy
  ·exact .any _ rfl
  ·subst hy
   exact .rows (us := λ _ => []) (a := default) (Nat.le_refl _) (by omega) (by omega) (by omega) (by omega) (by omega)
  ·obtain ⟨hv, rfl, rfl⟩ := hy
   exact own_virt e hv A
  ·exact .emp A
def leV (ks : Names) : AV -> AV -> Prop
 | _, .any => True
 | x, y => leA ks x y
def leSlots (ks : Names) : List AV -> List AV -> Prop
 | [], [] => True
 | _ :: xs, .any :: ys => leSlots ks xs ys
 | x :: xs, y :: ys => leA ks x y /\ leSlots ks xs ys
 | _, _ => False
def leO (ks : Names) : LObj -> LObj -> Prop
 | _, .dead => True
 | .raw ob, .raw ob' => ob = ob'
 | .capo q c, .capo q' c' => posP ks q q' /\ c = c'
 | .mapo kt W has val, .mapo kt' W' has' val' => kt = kt' /\ W = W' /\ (∀ v, has v ↔ has' v) /\ ∀ v, has v -> val v = val' v
 | .box t cs, .box t' ds => t = t' /\ leL ks cs ds
 | .prow t cs, .prow t' ds => t = t' /\ leL ks cs ds
 | .row k t n f, .row k' t' n' f' => k = k' /\ t = t' /\ n' <= n /\ ∀ i, i < n' -> f i = f' i
 | _, _ => False
def newO : LObj -> Prop
 | .row _ _ n _ => n = 0
 | _ => False
def deadO : LObj -> Prop
 | .dead => True
 | _ => False
def leHeap (ks : Names) (H : List LObj) : Names -> List LObj -> Prop
 | [], [] => True
 | .new :: qs, o' :: os => newO o' /\ leHeap ks H qs os
 | .gone :: qs, o' :: os => deadO o' /\ leHeap ks H qs os
 | .old q :: qs, o' :: os => (match H[q]? with
  | some o => leO ks o o'
  | none => leO ks .dead o') /\ leHeap ks H qs os
 | _, _ => False
def nodupB : Names -> Bool
 | [] => true
 | .old k :: ks => (match pos ks k with
  | some _ => false
  | none => true) && nodupB ks
 | _ :: ks => nodupB ks
def prefB : Nat -> Nat -> Names -> Bool
 | 0, _, _ => true
 | n + 1, i, .old q :: ks => Nat.beq q i && prefB n (i + 1) ks
 | n + 1, i, .gone :: ks => prefB n (i + 1) ks
 | _ + 1, _, _ => false
theorem prefB_get : ∀ {n i : Nat} {ks : Names}, prefB n i ks = true -> ∀ j, j < n -> ks[j]? = some (.old (i + j)) ∨ ks[j]? = some .gone := by
 intro n
 induction n with
 | zero => intro i ks _ j hj; omega
 | succ n ih =>
  intro i ks h j hj
  cases ks with
  | nil => simp [prefB] at h
  | cons k ks =>
   cases k with
   | new => simp [prefB] at h
   | old q =>
    simp only [prefB, Bool.and_eq_true] at h
    obtain ⟨h1, h2⟩ := h
    have := Nat.eq_of_beq_eq_true h1
    subst this
    cases j with
    | zero => left; simp
    | succ j =>
     have := ih h2 j (by omega)
     rwa [show q + 1 + j = q + (j + 1) by omega] at this
   | gone =>
    simp only [prefB] at h
    cases j with
    | zero => right; simp
    | succ j =>
     have := ih h j (by omega)
     rwa [show i + 1 + j = i + (j + 1) by omega] at this
structure LeS (nb : Nat) (ks : Names) (s s' : St) : Prop where
 nd : nodupB ks = true
 pr : prefB nb 0 ks = true
 slots : leSlots ks s.slots s'.slots
 heap : leHeap ks s.heap ks s'.heap
theorem pos_none : ∀ {ks : Names} {q j : Nat}, pos ks q = none -> ks[j]? ≠ some (.old q) := by
 intro ks
 induction ks with
 | nil => intro q j _ h; simp at h
 | cons k ks ih =>
  intro q j hp h
  have rec_ : (match pos ks q with | some j => some (j + 1) | none => none) = none -> ∀ j : Nat, ks[j]? ≠ some (Nm.old q) := λ hp j => by
   refine ih (j := j) ?_
   cases hq : pos ks q with
   | none => rfl
   | some x => rw [hq] at hp; cases hp
  cases k with
  | new =>
   simp only [pos] at hp
   cases j with
   | zero => simp at h
   | succ j => exact rec_ hp j (by simpa using h)
  | gone =>
   simp only [pos] at hp
   cases j with
   | zero => simp at h
   | succ j => exact rec_ hp j (by simpa using h)
  | old k =>
   simp only [pos] at hp
   split at hp
   ·cases hp
   ·rename_i hne
    cases j with
    | zero =>
     simp at h
     subst h
     have h0 : ¬ k = k := Nat.ne_of_beq_eq_false hne
     exact h0 rfl
    | succ j => exact rec_ hp j (by simpa using h)
theorem nodupB_inj : ∀ {ks : Names}, nodupB ks = true -> ∀ {i j q : Nat}, ks[i]? = some (.old q) -> ks[j]? = some (.old q) -> i = j := by
 intro ks
 induction ks with
 | nil => intro _ i j q h; simp at h
 | cons k ks ih =>
  intro hn i j q hi hj
  have rec_ : nodupB ks = true -> (∀ r, k ≠ .old r) -> i = j := λ hn hk => by
   cases i with
   | zero => simp at hi; exact absurd hi (hk _)
   | succ i =>
    cases j with
    | zero => simp at hj; exact absurd hj (hk _)
    | succ j => exact congrArg (· + 1) (ih hn (by simpa using hi) (by simpa using hj))
  cases k with
  | new => exact rec_ (by simpa [nodupB] using hn) (by intro r h; cases h)
  | gone => exact rec_ (by simpa [nodupB] using hn) (by intro r h; cases h)
  | old k =>
   simp only [nodupB, Bool.and_eq_true] at hn
   obtain ⟨h1, h2⟩ := hn
   have hk : pos ks k = none := by
    cases hq : pos ks k with
    | none => rfl
    | some x => rw [hq] at h1; cases h1
   cases i with
   | zero =>
    cases j with
    | zero => rfl
    | succ j =>
     simp at hi
     subst hi
     exact absurd (by simpa using hj) (pos_none (j := j) hk)
   | succ i =>
    cases j with
    | zero =>
     simp at hj
     subst hj
     exact absurd (by simpa using hi) (pos_none (j := i) hk)
    | succ j => exact congrArg (· + 1) (ih h2 (by simpa using hi) (by simpa using hj))
def newLoc : Option LObj -> Option Loc
 | some (.row k t _ _) => some ⟨0, k, 0, t⟩
 | _ => none
def Env.ren (E : Env) (ks : Names) (H' : List LObj) : Env := { w := E.w, F := E.F, m := E.m, loc := λ j => match ks[j]? with
 | some (.old q) => E.loc q
 | some .new => newLoc H'[j]?
 | _ => none }
theorem repV1_le {ks : Names} {E E' : Env} {v : Value} {x y : AV} (h : RepV1 E v x) (e : ExtRen ks E E') (hl : leV ks x y) : RepV1 E' v y := by
 cases y with
 | any => exact trivial
 | agg ds =>
  simp only [leV] at hl
  cases x <;> simp only [leA] at hl
  obtain ⟨us, hv, hr⟩ := h
  exact ⟨us, hv, rep_le hr e (by simp only [leA]; exact hl)⟩
 | iarr k n f =>
  simp only [leV] at hl
  cases x <;> simp only [leA] at hl
  exact h.elim
 | tup ds =>
  simp only [leV] at hl
  cases x <;> simp only [leA] at hl
  exact h.elim
 | _ =>
  simp only [leV] at hl
  cases x <;> first
   |(simp only [leA] at hl; done)
   | exact rep_le (show Rep E [v] _ from h) e hl
theorem repV_le {ks : Names} {E E' : Env} {v : Value} {x y : AV} (h : RepV E v x) (e : ExtRen ks E E') (hl : leV ks x y) : RepV E' v y := by
 cases y with
 | tup ds =>
  simp only [leV] at hl
  cases x <;> simp only [leA] at hl
  obtain ⟨vs, hv, hvl, hr⟩ := h
  obtain ⟨h1, h2⟩ := leL_get hl
  refine ⟨vs, hv, by rw [hvl, h1], λ i u y hu hy => ?_⟩
  rename_i cs
  have hlt : i < cs.length := by rw [h1]; exact (List.getElem?_eq_some_iff.1 hy).1
  have h3 := h2 i _ _ (List.getElem?_eq_getElem hlt) hy
  refine repV1_le (hr i u _ hu (List.getElem?_eq_getElem hlt)) e ?_
  cases y <;> first | exact trivial | exact h3
 | _ =>
  rw [repV_eq _ (by intro xs hh; cases hh)]
  cases x with
  | tup cs => first | exact trivial | (simp only [leV, leA] at hl)
  | _ =>
   rw [repV_eq _ (by intro xs hh; cases hh)] at h
   exact repV1_le h e hl
theorem leSlots_cons {ks : Names} {x y : AV} {xs ys : List AV} (h : leSlots ks (x :: xs) (y :: ys)) : leV ks x y /\ leSlots ks xs ys := by
 cases y <;> simp only [leSlots] at h <;> first | exact ⟨trivial, h⟩ | exact h
theorem leSlots_get {ks : Names} : ∀ {xs ys : List AV}, leSlots ks xs ys -> xs.length = ys.length /\ ∀ (i : Nat) (x y : AV), xs[i]? = some x -> ys[i]? = some y -> leV ks x y := by
 intro xs
 induction xs with
 | nil =>
  intro ys h
  cases ys with
  | nil => exact ⟨rfl, λ i c d hc => by simp at hc⟩
  | cons d ds => simp [leSlots] at h
 | cons c cs ih =>
  intro ys h
  cases ys with
  | nil => simp [leSlots] at h
  | cons d ds =>
   obtain ⟨h0, h⟩ := leSlots_cons h
   obtain ⟨h1, h2⟩ := ih h
   refine ⟨by simp [h1], λ i c' d' hc hd => ?_⟩
   cases i with
   | zero => simp at hc hd; subst hc hd; exact h0
   | succ i => exact h2 i c' d' (by simpa using hc) (by simpa using hd)
theorem leHeap_get {ks : Names} {H : List LObj} : ∀ {qs : Names} {os : List LObj}, leHeap ks H qs os -> qs.length = os.length /\ ∀ (i : Nat) (o' : LObj), os[i]? = some o' -> (qs[i]? = some .new /\ newO o') ∨ (qs[i]? = some .gone /\ o' = .dead) ∨ ∃ q, qs[i]? = some (.old q) /\ leO ks (H.getD q .dead) o' := by
 intro qs
 induction qs with
 | nil =>
  intro os h
  cases os with
  | nil => exact ⟨rfl, λ i o h => by simp at h⟩
  | cons d ds => simp [leHeap] at h
 | cons q qs ih =>
  intro os h
  cases os with
  | nil => cases q <;> simp [leHeap] at h
  | cons o' os =>
   have hrest : leHeap ks H qs os := by cases q <;> exact h.2
   obtain ⟨h1, h2⟩ := ih hrest
   refine ⟨by simp [h1], λ i o1 ho => ?_⟩
   cases i with
   | succ i => simpa using h2 i o1 (by simpa using ho)
   | zero =>
    simp at ho
    subst ho
    cases q with
    | new => exact .inl ⟨rfl, h.1⟩
    | gone =>
     refine .inr (.inl ⟨rfl, ?_⟩)
     have h3 : deadO o' := h.1
     cases o' <;> first | rfl | exact h3.elim
    | old q =>
     refine .inr (.inr ⟨q, rfl, ?_⟩)
     have h3 := h.1
     rw [List.getD_eq_getElem?_getD]
     split at h3
     ·rename_i o hq; rw [hq]; exact h3
     ·rename_i hq; rw [hq]; exact h3
theorem ext_ren {E : Env} {ks : Names} {H H' : List LObj} (h : leHeap ks H ks H') : ExtRen ks E (E.ren ks H') := ⟨λ _ h => h, λ _ _ => rfl, λ q L q' hL hq => by
 simp [Env.ren, pos_get hq, hL], λ l hl => by
 obtain ⟨h1, h2⟩ := leHeap_get h
 rw [virt_iff] at hl
 have hlt : l < H'.length := by rw [<- h1]; exact (List.getElem?_eq_some_iff.1 hl).1
 rcases h2 l _ (List.getElem?_eq_getElem hlt) with ⟨_, hn⟩ | ⟨hq, _⟩ | ⟨q, hq, _⟩
 ·cases ho : H'[l] with
  | row k t n f => exact ⟨⟨0, k, 0, t⟩, by simp [Env.ren, hl, List.getElem?_eq_getElem hlt, ho, newLoc], rfl⟩
  | _ => rw [ho] at hn; exact hn.elim
 ·rw [hl] at hq; cases hq
 ·rw [hl] at hq; cases hq⟩
theorem ren_old {E : Env} (ks : Names) (H' : List LObj) : ∀ l L, (E.ren ks H').loc l = some L -> 0 < L.cap -> ∃ l0, E.loc l0 = some L := by
 intro j L hL hc
 simp only [Env.ren] at hL
 split at hL
 ·rename_i q hq; exact ⟨q, hL⟩
 ·unfold newLoc at hL
  split at hL
  ·injection hL with hL
   subst hL
   simp at hc
  ·cases hL
 ·cases hL
theorem GloE.ren {ks : Names} {E E' : Env} (h : GloE E) (e : ExtRen ks E E') : GloE E' := h.next e.F e.cell e.imm
theorem le_sound {nb : Nat} {E0 E : Env} {s s' : St} {a : Act} {ks : Names} (hnb : E0.m = nb) (g : GamS E0 E s a) (h : LeS nb ks s s') : GamS E0 (E.ren ks s'.heap) s' a := by
 obtain ⟨hsl, hsg⟩ := leSlots_get h.slots
 obtain ⟨hhl, hhg⟩ := leHeap_get h.heap
 have e := ext_ren (E := E) h.heap
 have old : ∀ j L, (E.ren ks s'.heap).loc j = some L -> 0 < L.cap -> ∃ q, ks[j]? = some (.old q) /\ E.loc q = some L := by
  intro j L hL hc
  simp only [Env.ren] at hL
  split at hL
  ·rename_i q hq; exact ⟨q, hq, hL⟩
  ·unfold newLoc at hL
   split at hL
   ·injection hL with hL
    subst hL
    simp at hc
   ·cases hL
  ·cases hL
 refine ⟨⟨?_, ?_, ?_, ?_, g.lt, g.up, g.down, g.below, ?_, ?_⟩, ?_⟩
 ·intro j o' hj
  rcases hhg j o' hj with ⟨hq, hn⟩ | ⟨_, rfl⟩ | ⟨q, hq, hle⟩
  ·cases o' with
   | row k t n f =>
    have hn : n = 0 := hn
    subst hn
    exact ⟨⟨0, k, 0, t⟩, by simp [Env.ren, hq, hj, newLoc], rfl, rfl, Nat.le_refl _, Nat.zero_le _, λ hpos => by simp at hpos⟩
   | _ => exact hn.elim
  ·exact trivial
  ·have hlocj : (E.ren ks s'.heap).loc j = E.loc q := by simp [Env.ren, hq]
   rw [List.getD_eq_getElem?_getD] at hle
   cases ho : s.heap[q]? with
   | none =>
    rw [ho] at hle
    cases o' <;> simp only [leO, Option.getD_none] at hle
    exact trivial
   | some o =>
    rw [ho, Option.getD_some] at hle
    have hob := g.objs q o ho
    cases o' with
    | dead => exact trivial
    | box t' ds =>
     cases o <;> simp only [leO] at hle
     obtain ⟨rfl, hle⟩ := hle
     obtain ⟨L, us, hL, ht, hc, hg, hr⟩ := hob
     exact ⟨L, us, by rw [hlocj]; exact hL, ht, hc, hg, rep_le hr e (by simp only [leA]; exact hle)⟩
    | row k' t' n' f' =>
     cases o <;> simp only [leO] at hle
     obtain ⟨rfl, rfl, hnn, hf⟩ := hle
     obtain ⟨L, hL, ht, hk, hn, hm, hrow⟩ := hob
     refine ⟨L, by rw [hlocj]; exact hL, ht, hk, Nat.le_trans hnn hn, hm, λ hpos => ?_⟩
     obtain ⟨arr, hg, hsz, hel⟩ := hrow hpos
     refine ⟨arr, hg, hsz, λ i hi => ?_⟩
     obtain ⟨us, h1, h2, h3⟩ := hel i (by omega)
     exact ⟨us, h1, by rw [<- hf i hi]; exact h2, h3⟩
    | raw ob' =>
     cases o <;> simp only [leO] at hle
     obtain ⟨L, hL, hc, hg⟩ := hob
     exact ⟨L, by rw [hlocj]; exact hL, hc, by rw [<- hle]; exact hg⟩
    | prow t' ds =>
     cases o <;> simp only [leO] at hle
     obtain ⟨rfl, hle⟩ := hle
     obtain ⟨L, us, hL, ht, hk, hc, hn, h0, hg, hr⟩ := hob
     exact ⟨L, us, by rw [hlocj]; exact hL, ht, hk, hc, by rw [hn]; exact (leL_get hle).1, h0, hg, rep_le hr e hle⟩
    | capo q2 c2 =>
     cases o <;> simp only [leO] at hle
     obtain ⟨hp, rfl⟩ := hle
     obtain ⟨L, hL, hc⟩ := hob
     exact ⟨L, e.loc _ _ _ hL (posP_eq hp), hc⟩
    | mapo kt' W' has' val' =>
     cases o <;> simp only [leO] at hle
     obtain ⟨rfl, rfl, hh, hv⟩ := hle
     obtain ⟨L, es, clock, hL, hc, hg, h1, h2, h3, h4⟩ := hob
     exact ⟨L, es, clock, by rw [hlocj]; exact hL, hc, hg, h1, h2, λ v => (hh v).symm.trans (h3 v), λ x hx => by rw [<- hv _ ((h3 _).2 ⟨x, hx, rfl⟩)]; exact h4 x hx⟩
 ·intro j L hL
  simp only [Env.ren] at hL
  cases hj : ks[j]? with
  | none => rw [hj] at hL; cases hL
  | some q => rw [<- hhl]; exact (List.getElem?_eq_some_iff.1 hj).1
 ·intro j L hL hc
  obtain ⟨q, _, hL'⟩ := old j L hL hc
  exact g.own q L hL' hc
 ·intro j j' L L' hL hL' hc hc' hb
  obtain ⟨q, hq, h1⟩ := old j L hL hc
  obtain ⟨q', hq', h2⟩ := old j' L' hL' hc'
  have hqq := g.inj q q' L L' h1 h2 hc hc' hb
  subst hqq
  exact nodupB_inj h.nd hq hq'
 ·intro l hl
  rcases prefB_get h.pr l (by omega) with hk | hk
  ·rw [Nat.zero_add] at hk
   have hloc : (E.ren ks s'.heap).loc l = E.loc l := by simp [Env.ren, hk]
   rw [hloc]
   exact g.stay l hl
  ·exact .inr (by simp [Env.ren, hk])
 ·rw [hnb, <- hhl]
  rcases Nat.eq_zero_or_pos nb with h0 | h0
  ·omega
  ·rcases prefB_get h.pr (nb - 1) (by omega) with hk | hk
   ·have := (List.getElem?_eq_some_iff.1 hk).1; omega
   ·have := (List.getElem?_eq_some_iff.1 hk).1; omega
 ·refine ⟨⟨by rw [g.slots.1.1, hsl], g.slots.1.2.ren e⟩, λ i v y hv hy => ?_⟩
  have hlt : i < s.slots.length := by rw [hsl]; exact (List.getElem?_eq_some_iff.1 hy).1
  exact repV_le (g.slots.2 i v _ hv (List.getElem?_eq_getElem hlt)) e (hsg i _ y (List.getElem?_eq_getElem hlt) hy)
section
variable {P : Program} {nb : Nat} {r : Option Nat} {Q : Exit -> St -> Prop}
theorem awp_le {c : Code} {s s' : St} (ks : Names) (h : LeS nb ks s s') (hw : AWp nb r P c Q s') : AWp nb r P c Q s :=
 λ E0 E a n R hb g hd => hw E0 (E.ren ks s'.heap) a n R hb (le_sound hb g h) (hd.same rfl (ren_old ks s'.heap))
theorem loopN_le {c : Code} {s s' : St} (ks : Names) (h : LeS nb ks s s') {m : Nat} (hw : LoopN nb r P c Q m s') : LoopN nb r P c Q m s := by
 cases m with
 | zero => exact hw
 | succ m => exact awp_le ks h hw
theorem awp_loop_inv {X : Type} (I : X -> St) (μ : X -> Nat) {c : Code} {s : St} (x0 : X) (ks0 : Names) (h0 : LeS nb ks0 s (I x0))
  (step : ∀ x, AWp nb r P c (thenK (λ s' => ∃ y ks, LeS nb ks s' (I y) /\ μ y < μ x) Q) (I x)) : AWp nb r P (.loop c) Q s := by
 refine awp_loop (μ x0 + 1) (loopN_le ks0 h0 ?_)
 have key : ∀ (m : Nat) (x : X), μ x < m -> LoopN nb r P c Q m (I x) := by
  intro m
  induction m with
  | zero => intro x hx; omega
  | succ m ih =>
   intro x hx
   refine (step x).mono ?_
   intro e s' hs'
   cases e with
   | normal =>
    obtain ⟨y, ks, hle, hlt⟩ := hs'
    exact loopN_le ks hle (ih y (by omega))
   | _ => exact hs'
 exact key _ x0 (by omega)
end
end Go.Am

namespace Go.Am
open Go.RowKit
variable [Inhabited GlT]
section
variable {P : Program} {E0 E E' : Env} {H H' : List LObj}
def Env.base (E : Env) (m : Nat) : Env := { E with m := m }
theorem gam_world (g : Gam E0 E H) {w' : World} (hos : w'.os = E.w.os) (htape : w'.tape = E.w.tape) (hout : w'.output = E.w.output) (hsz : E.w.heap.size <= w'.heap.size)
  (ho : ∀ b, E.owns b ∨ E.F b ∨ E0.old b -> w'.heap[b]? = E.w.heap[b]?) : Gam E0 { E with w := w' } H where
 objs := λ l o hl => (g.objs l o hl).mono (E' := { E with w := w' }) ⟨λ _ h => h, λ a ha => World.cell?_of_block (w := E.w) (ho _ (.inr (.inl ha))), λ _ _ h => h⟩ (λ L hL hc => ho _ (.inl ⟨l, L, hL, hc, rfl⟩))
 dom := g.dom
 own := λ l L hL hc => by have := g.own l L hL hc; exact ⟨this.1, Nat.lt_of_lt_of_le this.2.1 hsz, this.2.2⟩
 inj := g.inj
 lt := λ b hb => Nat.lt_of_lt_of_le (g.lt b hb) hsz
 up := g.up
 down := g.down
 below := g.below.next hos htape hout hsz (λ k hk => ho k (.inr (.inr hk)))
 stay := g.stay
 hm := g.hm
end
structure GI (F0 : Nat -> Prop) (s0 : Nat) (E : Env) (Z : Foot) : Prop where
 F0 : ∀ b, E.F b -> F0 b ∨ s0 <= b
 O0 : ∀ b, E.owns b -> s0 <= b
 sz : s0 <= E.w.heap.size
 own : ∀ l L, E.loc l = some L -> 0 < L.cap -> ¬ Z.wr L.b /\ ¬ Z.rd L.b
 F : ∀ b, E.F b -> ¬ Z.wr b
 lt : ∀ b, Z.wr b ∨ Z.rd b -> b < E.w.heap.size
def atI (J : Nat -> Foot -> World -> Prop) (JX : Foot -> World -> Prop) : Option Nat -> Foot -> World -> Prop
 | some i => J i
 | none => JX
structure ItStep (E E' : Env) (Z Z' : Foot) : Prop where
 os : E'.w.os = E.w.os
 tape : E'.w.tape = E.w.tape
 output : E'.w.output = E.w.output
 size : E.w.heap.size <= E'.w.heap.size
 block : ∀ b, b < E.w.heap.size -> ¬ Z.wr b -> ¬ E.owns b -> E'.w.heap[b]? = E.w.heap[b]?
 zw : ∀ b, Z'.wr b -> Z.wr b ∨ E.w.heap.size <= b
 owns : ∀ b, E'.owns b -> E.owns b ∨ E.w.heap.size <= b
theorem ItStep.refl (E : Env) (Z : Foot) : ItStep E E Z Z := ⟨rfl, rfl, rfl, Nat.le_refl _, λ _ _ _ _ => rfl, λ _ h => .inl h, λ _ h => .inl h⟩
theorem ItStep.trans {A B C : Env} {X Y Z : Foot} (h : ItStep A B X Y) (k : ItStep B C Y Z) : ItStep A C X Z where
 os := k.os.trans h.os
 tape := k.tape.trans h.tape
 output := k.output.trans h.output
 size := Nat.le_trans h.size k.size
 block := λ b hb hz ho => by
  rw [k.block b (Nat.lt_of_lt_of_le hb h.size) (λ hy => by
   rcases h.zw b hy with h1 | h1
   ·exact hz h1
   ·omega) (λ hy => by
   rcases h.owns b hy with h1 | h1
   ·exact ho h1
   ·omega)]
  exact h.block b hb hz ho
 zw := λ b hb => by
  rcases k.zw b hb with h1 | h1
  ·exact h.zw b h1
  ·exact .inr (Nat.le_trans h.size h1)
 owns := λ b hb => by
  rcases k.owns b hb with h1 | h1
  ·exact h.owns b h1
  ·exact .inr (Nat.le_trans h.size h1)
theorem ItStep.frame {E E' : Env} {Z Z' : Foot} (h : ItStep E E' Z Z') (hn : ∀ l, E.loc l = none) : FrameZ E.w Z E'.w Z' :=
 ⟨h.os, h.tape, h.output, h.size, λ b hb hz => h.block b hb hz (λ ⟨l, L, hL, _⟩ => by rw [hn l] at hL; cases hL), h.zw⟩
end Go.Am

namespace Go.Am
open Go.RowKit
variable [Inhabited GlT]
section
variable {P : Program} {E0 E E' : Env} {H H' : List LObj}
omit [Inhabited GlT] in
structure Mid (B : Env) (D : Nat) (rc : Loop) (Ei : Env) (Hi : List LObj) : Prop where
 g : Gam B Ei Hi
 rec_ : Ei.w.heap[D + 1]? = some (.loop rc)
 def_ : Ei.w.heap[D]? = some (.deferred (some []))
 no : ∀ b, b = D ∨ b = D + 1 -> ¬ Ei.owns b /\ ¬ B.old b
def Mid.foot (B : Env) (D : Nat) (Ei : Env) : Foot := ⟨λ b => Ei.owns b ∨ b = D + 1, λ b => Ei.F b ∨ b = D ∨ B.old b⟩
theorem Mid.move {B : Env} {D : Nat} {rc : Loop} {Ei : Env} {Hi : List LObj} (m : Mid B D rc Ei Hi) {W' : World} (hos : W'.os = Ei.w.os) (htape : W'.tape = Ei.w.tape) (hout : W'.output = Ei.w.output) (hsz : Ei.w.heap.size <= W'.heap.size)
  (hb : ∀ b, (Mid.foot B D Ei).wr b ∨ (Mid.foot B D Ei).rd b -> W'.heap[b]? = Ei.w.heap[b]?) : Mid B D rc { Ei with w := W' } Hi where
 g := gam_world m.g hos htape hout hsz (λ b h => hb b (by
  rcases h with h | h | h
  ·exact .inl (.inl h)
  ·exact .inr (.inl h)
  ·exact .inr (.inr (.inr h))))
 rec_ := (hb (D + 1) (.inl (.inr rfl))).trans m.rec_
 def_ := (hb D (.inr (.inr (.inl rfl)))).trans m.def_
 no := m.no
variable {X : Type} {inv : X -> Prop} {ix : X -> Nat} {I : X -> List LObj} {s : St} {Q : Exit -> St -> Prop} {B : Env} {D : Nat}
end
end Go.Am

namespace Go.Am
open Go.RowKit
variable [Inhabited GlT]
inductive Ann : Type 1 where
 | loop (id : Nat) (X : Type) (inv : X -> Prop) (I : X -> St) (μ : X -> Nat) (inner : X -> List Ann)
 | cut (id : Nat) (X : Type) (inv : X -> Prop) (I : X -> St) (rest : X -> List Ann)
 | range (id : Nat) (X : Type) (inv : X -> Prop) (ix : X -> Nat) (I : X -> List LObj) (inner : X -> List Ann)
 | unroll (id n : Nat) (lit : Bool) (inner : Nat -> List Ann)
def firstReg : Code -> Option Nat
 | .region id _ _ => some id
 | .seq a b => match firstReg a with
  | some i => some i
  | none => firstReg b
 | .cond _ a b => match firstReg a with
  | some i => some i
  | none => firstReg b
 | .block _ c => firstReg c
 | .loop c => firstReg c
 | .scope c => firstReg c
 | .rangeFunc _ _ a b => match firstReg a with
  | some i => some i
  | none => firstReg b
 | _ => none
def findCut : List Ann -> Option Nat -> Option Ann
 | _, none => none
 | [], some _ => none
 | .cut id X inv I rest :: an, some i => match Nat.beq id i with
  | true => some (.cut id X inv I rest)
  | false => findCut an (some i)
 | _ :: an, some i => findCut an (some i)
def findLoop : List Ann -> Option Nat -> Option Ann
 | _, none => none
 | [], some _ => none
 | .loop id X inv I μ inner :: an, some i => match Nat.beq id i with
  | true => some (.loop id X inv I μ inner)
  | false => findLoop an (some i)
 | .unroll id n lit inner :: an, some i => match Nat.beq id i with
  | true => some (.unroll id n lit inner)
  | false => findLoop an (some i)
 | _ :: an, some i => findLoop an (some i)
mutual
def pairA : AV -> AV -> List (Nat × Nm)
 | .own l _ _, y => match y with
  | .own l' _ _ => [(l', .old l)]
  | _ => []
 | .ptr l _ _ _, y => match y with
  | .ptr l' _ _ _ => [(l', .old l)]
  | _ => []
 | .mp l, y => match y with
  | .mp l' => [(l', .old l)]
  | _ => []
 | .pl _, y => match y with
  | .own l' _ _ => [(l', .new)]
  | _ => []
 | .emp, y => match y with
  | .own l' _ _ => [(l', .new)]
  | _ => []
 | .agg cs, y => match y with
  | .agg ds => pairL cs ds
  | _ => []
 | .tup cs, y => match y with
  | .tup ds => pairL cs ds
  | _ => []
 | .clo _ cs, y => match y with
  | .clo _ ds => pairL cs ds
  | _ => []
 | .ifc _ x, y => match y with
  | .ifc _ z => pairA x z
  | _ => []
 | _, _ => []
def pairL : List AV -> List AV -> List (Nat × Nm)
 | c :: cs, d :: ds => pairA c d ++ pairL cs ds
 | _, _ => []
end
def hasKey (j : Nat) : List (Nat × Nm) -> Bool
 | [] => false
 |(i, _) :: r => match Nat.beq i j with
  | true => true
  | false => hasKey j r
def pairGo (H H' : List LObj) : Nat -> List (Nat × Nm) -> List (Nat × Nm) -> List (Nat × Nm)
 | 0, _, acc => acc
 | _ + 1, [], acc => acc
 | n + 1, (j, k) :: todo, acc => match hasKey j acc with
  | true => pairGo H H' n todo acc
  | false => match k with
   | .old q => match H[q]?, H'[j]? with
    | some (.box _ cs), some (.box _ ds) => pairGo H H' n (pairL cs ds ++ todo) ((j, k) :: acc)
    | some (.prow _ cs), some (.prow _ ds) => pairGo H H' n (pairL cs ds ++ todo) ((j, k) :: acc)
    | _, _ => pairGo H H' n todo ((j, k) :: acc)
   | _ => pairGo H H' n todo ((j, k) :: acc)
def keyOf (j : Nat) : List (Nat × Nm) -> Option Nm
 | [] => none
 |(i, k) :: r => match Nat.beq i j with
  | true => some k
  | false => keyOf j r
def namesGo (nb : Nat) (ps : List (Nat × Nm)) : Nat -> List LObj -> List Nm
 | _, [] => []
 | j, o :: os => (match o with
  | .dead => .gone
  | _ => match Nat.blt j nb with
   | true => .old j
   | false => match keyOf j ps with
    | some k => k
    | none => .new) :: namesGo nb ps (j + 1) os
def ownPairs : Nat -> Nat -> List (Nat × Nm)
 | 0, _ => []
 | n + 1, j => (j, .old j) :: ownPairs n (j + 1)
def inferN (nb : Nat) (s s' : St) : Names := namesGo nb (pairGo s.heap s'.heap 1000 (ownPairs nb 0 ++ pairL s.slots s'.slots) []) 0 s'.heap
def forceNm : Names -> (Names -> Prop) -> Prop
 | [], k => k []
 | .old q :: ks, k => forceN q λ q => forceNm ks λ ks => k (.old q :: ks)
 | .new :: ks, k => forceNm ks λ ks => k (.new :: ks)
 | .gone :: ks, k => forceNm ks λ ks => k (.gone :: ks)
theorem forceNm_eq : ∀ (ks : Names) (k : Names -> Prop), forceNm ks k = k ks := by
 intro ks
 induction ks with
 | nil => intro k; rfl
 | cons c ks ih => intro k; cases c <;> simp only [forceNm, forceN_eq, ih]
def leSt (nb : Nat) (s s' : St) (R : Prop) : Prop := forceS s λ s => forceNm (inferN nb s s') λ ks => match nodupB ks && prefB nb 0 ks with
 | true => leSlots ks s.slots s'.slots /\ leHeap ks s.heap ks s'.heap /\ R
 | false => False
theorem leSt_spec {nb : Nat} {s s' : St} {R : Prop} (h : leSt nb s s' R) : (∃ ks, LeS nb ks s s') /\ R := by
 unfold leSt at h
 rw [forceS_eq, forceNm_eq] at h
 split at h
 ·rename_i hn
  rw [Bool.and_eq_true] at hn
  exact ⟨⟨_, hn.1, hn.2, h.1, h.2.1⟩, h.2.2⟩
 ·exact h.elim
def slotsOf : Nat -> Nat -> List (Nat × AV) -> List AV
 | 0, _, _ => []
 | n + 1, i, kv => look1 i kv :: slotsOf n (i + 1) kv
where look1 (i : Nat) : List (Nat × AV) -> AV
 | [] => .any
 |(j, x) :: r => match Nat.beq i j with
  | true => x
  | false => look1 i r
def callsAny : List Oper -> Bool
 | [] => false
 | o :: os => match o.op with
  | .call { callee := .builtin _, .. } => callsAny os
  | .call _ => true
  | .store _ _ _ => true
  | _ => callsAny os
def condV (lt b : Bool) (A B : Prop) : Prop := match lt with
 | true => match b with
  | true => A
  | false => B
 | false => (b = true -> A) /\ (b = false -> B)
theorem condV_spec {lt b : Bool} {A B : Prop} (h : condV lt b A B) : (b = true -> A) /\ (b = false -> B) := by
 cases lt <;> cases b <;> simp [condV] at h ⊢ <;> exact h
def noGoto (K : Exit -> St -> Prop) : Exit -> St -> Prop
 | .goto _, _ => False
 | e, s => K e s
def unr (F : List Ann -> (Exit -> St -> Prop) -> St -> Prop) (inner : Nat -> List Ann) (K : Exit -> St -> Prop) : Nat -> St -> Prop
 | 0, _ => False
 | m + 1, s => F (inner m) (thenK (unr F inner K m) K) s
def vcA (rd lt : Bool) (nb : Nat) (ts : List Nat) (P : Program) (C : Table) : Code -> List Ann -> (Exit -> St -> Prop) -> St -> Prop
 | .skip, _, K, s => K .normal s
 | .label _, _, K, s => K .normal s
 | .scope c, an, K, s => match rd with
  | true => False
  | false => vcA false lt nb ts P C c an (noGoto K) s
 | .ret, _, K, s => K .ret s
 | .exit id, _, K, s => K (.exit id) s
 | .region _ ops draw, _, K, s => match draw with
  | false => vcOps P C ops (List.range ops.size) s [] λ s _ => K .normal s
  | true => match Region.noSelect ops && !rd with
   | true => match callsAny ops.toList with
    | true => forceS (hideS ts s) λ b => vcDraw P C ops s.heap.length ts ops.size (List.replicate ops.size false) true b [] s [] (K .normal)
    | false => vcDraw P C ops s.heap.length [] ops.size (List.replicate ops.size false) true s [] s [] (K .normal)
   | false => False
 | .seq a b, an, K, s => match findCut an (firstReg b) with
  | some (.cut _ _ inv I rest) => vcA rd lt nb ts P C a an (thenK (λ s' => ∃ x, leSt nb s' (I x) (inv x)) K) s /\ ∀ x, inv x -> vcA rd lt nb ts P C b (rest x) K (I x)
  | _ => vcA rd lt nb ts P C a an (thenK (vcA rd lt nb ts P C b an K) K) s
 | .block id c, an, K, s => vcA rd lt nb ts P C c an (blockK id K) s
 | .cond c x y, an, K, s => match s.ev c with
  | .pl (.bool b) => condV lt b (vcA rd lt nb ts P C x an K (condSt c s true)) (vcA rd lt nb ts P C y an K (condSt c s false))
  | _ => False
 | .loop c, an, K, s => match findLoop an (firstReg c) with
  | some (.unroll _ n lit inner) => unr (λ an K s => vcA rd lit nb ts P C c an K s) inner K n s
  | some (.loop _ _ inv I μ inner) => (∃ x, leSt nb s (I x) (inv x)) /\ ∀ x, inv x -> vcA rd lt nb ts P C c (inner x) (thenK (λ s' => ∃ y, leSt nb s' (I y) (inv y /\ μ y < μ x)) K) (I x)
  | _ => False
 | _, _, _, _ => False
section
variable {P : Program} {nb : Nat} {r : Option Nat} {Q : Exit -> St -> Prop}
theorem awp_loop_at {X : Type} (inv : X -> Prop) (I : X -> St) (μ : X -> Nat) {c : Code} {s : St} (h0 : ∃ x, (∃ ks, LeS nb ks s (I x)) /\ inv x)
  (step : ∀ x, inv x -> AWp nb r P c (thenK (λ s' => ∃ y, (∃ ks, LeS nb ks s' (I y)) /\ inv y /\ μ y < μ x) Q) (I x)) : AWp nb r P (.loop c) Q s := by
 obtain ⟨x0, ⟨ks0, hle⟩, hi⟩ := h0
 refine awp_loop_inv (X := { x : X // inv x }) (λ x => I x.1) (λ x => μ x.1) ⟨x0, hi⟩ ks0 hle (λ x => (step x.1 x.2).mono ?_)
 intro e s' hs'
 cases e with
 | normal =>
  obtain ⟨y, ⟨ks, h1⟩, h2, h3⟩ := hs'
  exact ⟨⟨y, h2⟩, ks, h1, h3⟩
 | _ => exact hs'
theorem vcA_sound {C : Table} (hC : TableOk P C) {ts : List Nat} (hm : P.follows .mixedOrders = true) : ∀ (c : Code) {rd lt : Bool} {nb : Nat} {r : Option Nat} {an : List Ann} {K : Exit -> St -> Prop} {s : St}, (rd = false -> r = none) -> vcA rd lt nb ts P C c an K s -> AWp nb r P c K s := by
 intro c
 induction c with
 | skip => intro rd lt nb r an K s _ h; exact awp_skip h
 | ret => intro rd lt nb r an K s _ h; exact awp_ret h
 | exit id => intro rd lt nb r an K s _ h; exact awp_exit h
 | region id ops draw =>
  intro rd lt nb r an K s hr h
  cases draw with
  | false => exact awp_region hC h
  | true =>
   simp only [vcA] at h
   split at h
   ·rename_i hs
    rw [Bool.and_eq_true] at hs
    have hrd : rd = false := by simpa using hs.2
    obtain rfl := hr hrd
    split at h
    ·rw [forceS_eq] at h; exact awp_draw hC ts hm hs.1 h
    ·exact awp_draw hC [] hm hs.1 h
   ·exact h.elim
 | seq a b iha ihb =>
  intro rd lt nb r an K s hr h
  simp only [vcA] at h
  split at h
  ·rename_i id X inv I rest hf
   refine awp_seq ((iha hr h.1).mono ?_)
   intro e s' hs'
   cases e with
   | normal =>
    obtain ⟨x, hx⟩ := hs'
    obtain ⟨⟨ks, h1⟩, h2⟩ := leSt_spec hx
    exact awp_le ks h1 (ihb hr (h.2 x h2))
   | _ => exact hs'
  ·refine awp_seq ((iha hr h).mono ?_)
   intro e s' hs'
   cases e with
   | normal => exact ihb hr hs'
   | _ => exact hs'
 | block id c ih => intro rd lt nb r an K s hr h; exact awp_block (ih hr h)
 | cond c x y ihx ihy =>
  intro rd lt nb r an K s hr h
  simp only [vcA] at h
  split at h
  ·rename_i b hc
   have h := condV_spec h
   exact awp_cond hc (λ hb => ihx hr (h.1 hb)) (λ hb => ihy hr (h.2 hb))
  ·exact h.elim
 | loop c ih =>
  intro rd lt nb r an K s hr h
  simp only [vcA] at h
  split at h
  ·rename_i id n lit inner hf
   refine awp_loop n ?_
   have key : ∀ (n : Nat) (s : St), unr (λ an K s => vcA rd lit nb ts P C c an K s) inner K n s -> LoopN nb r P c K n s := by
    intro n
    induction n with
    | zero => intro s h; exact h
    | succ m ihm =>
     intro s h
     refine (ih hr h).mono ?_
     intro e s' hs'
     cases e with
     | normal => exact ihm s' hs'
     | _ => exact hs'
   exact key n s h
  ·rename_i id X inv I μ inner hf
   obtain ⟨⟨x0, h0⟩, hst⟩ := h
   refine awp_loop_at inv I μ ⟨x0, leSt_spec h0⟩ (λ x hx => (ih hr (hst x hx)).mono ?_)
   intro e s' hs'
   cases e with
   | normal =>
    obtain ⟨y, hy⟩ := hs'
    exact ⟨y, leSt_spec hy⟩
   | _ => exact hs'
  ·exact h.elim
 | label l => intro rd lt nb r an K s _ h; exact λ _ E _ _ _ _ g hd => wpIn_label ⟨s, E, h, g, rfl, hd⟩
 | scope c ih =>
  intro rd lt nb r an K s hr h
  simp only [vcA] at h
  split at h
  ·exact h.elim
  ·obtain rfl := hr rfl
   have h1 := ih (λ _ => rfl) h
   intro E0 E a n R hm0 g hd
   have h2 := wpIn_wide.1 (h1 E0 E a n R hm0 g hd)
   refine wpIn_wide.2 (wp_scope_straight (wp_mono h2 ?_))
   rintro e a' w' ⟨s', E', hQ, g', hw, hd'⟩
   cases e with
   | goto l => exact hQ.elim
   | _ => exact ⟨s', E', hQ, g', hw, hd'⟩
 | _ => intro rd lt nb r an K s _ h; exact h.elim
end
end Go.Am

namespace Go.Am
open Go.RowKit
variable [Inhabited GlT]
section
variable {P : Program} {F0 : Nat -> Prop} {s0 : Nat} {J : Nat -> Foot -> World -> Prop} {JX : Foot -> World -> Prop}
def AI (P : Program) (F0 : Nat -> Prop) (s0 : Nat) (J : Nat -> Foot -> World -> Prop) (JX : Foot -> World -> Prop) (c : Code) (Q : Exit -> St -> Option Nat -> Prop) (s : St) (i : Option Nat) : Prop :=
 ∀ (E : Env) (Z : Foot) (a : Act) (d : Nat), GamS (E.base 0) E s a -> GI F0 s0 E Z -> atI J JX i Z E.w -> a.defers = [] ->
  c.wpIn (wideR none) d P (λ e a' w' => ∃ s' i' E' Z', Q e s' i' /\ GamS (E'.base 0) E' s' a' /\ GI F0 s0 E' Z' /\ atI J JX i' Z' E'.w /\ E'.w = w' /\ a'.defers = [] /\ ItStep E E' Z Z') a E.w
variable {Q Q' : Exit -> St -> Option Nat -> Prop} {s : St} {i : Option Nat}
theorem AI.mono {c : Code} (h : AI P F0 s0 J JX c Q s i) (hq : ∀ e s' i', Q e s' i' -> Q' e s' i') : AI P F0 s0 J JX c Q' s i :=
 λ E Z a d g gi hj hd => wpIn_mono (h E Z a d g gi hj hd) λ _ _ _ ⟨s', i', E', Z', hQ, rest⟩ => ⟨s', i', E', Z', hq _ _ _ hQ, rest⟩
end
end Go.Am

namespace Go.Am
open Go.RowKit
variable [Inhabited GlT]
def EntOk (P : Program) (f : FuncId) : Ent -> Prop
 | .lend T => Enters P f /\ ∀ args R, T args R -> Spec P f args R
 | .hand _ T => Enters P f /\ ∀ H0 args R, T H0 args R -> SpecH P f H0 args R
 | .ext F => ExtOk P f F
 | .seq F => Enters P f /\ ∀ caps p n xs, F caps = some (p, n, xs) -> p -> SeqSpec P f caps n xs
def lookE : List (FuncId × Ent) -> FuncId -> Option Ent
 | [], _ => none
 |(g, e) :: r, f => match Nat.beq g f with
  | true => some e
  | false => lookE r f
def lookT : List (TypeId × (Value -> Prop)) -> TypeId -> Option (Value -> Prop)
 | [], _ => none
 |(g, e) :: r, f => match Nat.beq g f with
  | true => some e
  | false => lookT r f
def mkTab (L : List (FuncId × Ent)) (K : List (TypeId × (Value -> Prop)) := []) : Table := ⟨lookE L, lookT K⟩
theorem lookE_mem {f : FuncId} {e : Ent} : ∀ {L : List (FuncId × Ent)}, lookE L f = some e -> (f, e) ∈ L := by
 intro L
 induction L with
 | nil => intro h; cases h
 | cons p r ih =>
  intro h
  obtain ⟨g, e'⟩ := p
  simp only [lookE] at h
  split at h
  ·rename_i hb
   injection h with h
   rw [Nat.eq_of_beq_eq_true hb, h]
   exact List.mem_cons_self
  ·exact List.mem_cons_of_mem _ (ih h)
theorem lookT_mem {f : TypeId} {e : Value -> Prop} : ∀ {L : List (TypeId × (Value -> Prop))}, lookT L f = some e -> (f, e) ∈ L := by
 intro L
 induction L with
 | nil => intro h; cases h
 | cons p r ih =>
  intro h
  obtain ⟨g, e'⟩ := p
  simp only [lookT] at h
  split at h
  ·rename_i hb
   injection h with h
   rw [Nat.eq_of_beq_eq_true hb, h]
   exact List.mem_cons_self
  ·exact List.mem_cons_of_mem _ (ih h)
def AllE (P : Program) : List (FuncId × Ent) -> Prop
 | [] => True
 |(f, e) :: r => EntOk P f e /\ AllE P r
def AllT (P : Program) : List (TypeId × (Value -> Prop)) -> Prop
 | [] => True
 |(t, W) :: r => KLaw P t W /\ AllT P r
theorem AllE.mem {P : Program} {f : FuncId} {e : Ent} : ∀ {L : List (FuncId × Ent)}, AllE P L -> (f, e) ∈ L -> EntOk P f e := by
 intro L
 induction L with
 | nil => intro _ h; cases h
 | cons p r ih =>
  intro h hm
  rcases List.mem_cons.1 hm with rfl | hm
  ·exact h.1
  ·exact ih h.2 hm
theorem AllT.mem {P : Program} {f : TypeId} {e : Value -> Prop} : ∀ {L : List (TypeId × (Value -> Prop))}, AllT P L -> (f, e) ∈ L -> KLaw P f e := by
 intro L
 induction L with
 | nil => intro _ h; cases h
 | cons p r ih =>
  intro h hm
  rcases List.mem_cons.1 hm with rfl | hm
  ·exact h.1
  ·exact ih h.2 hm
theorem mkTab_ok {P : Program} {L : List (FuncId × Ent)} {K : List (TypeId × (Value -> Prop))} (h : AllE P L) (k : AllT P K) : TableOk P (mkTab L K) where
 lend := λ _ _ hf => h.mem (lookE_mem hf)
 hand := λ _ _ _ hf => h.mem (lookE_mem hf)
 ext := λ _ _ hf => h.mem (lookE_mem hf)
 seq := λ _ _ hf => h.mem (lookE_mem hf)
 keys := λ _ _ hf => k.mem (lookT_mem hf)
theorem enters_of {P : Program} {f : FuncId} {fn : Func} (hf : P.funcs[f]? = some fn) (hb : fn.body.isNone = false) (hn : (fn.name == "runtime.NumGoroutine") = false) : Enters P f := by
 intro args w
 have h1 : fn.name ≠ "runtime.NumGoroutine" := by simpa using hn
 have h2 : fn.body ≠ none := λ h => by rw [h] at hb; cases hb
 simp [callFunc, hf, h1, h2]
def given : List AV -> Prop
 | [] => True
 | .rows _ n _ :: xs => n <= maxLen /\ given xs
 | _ :: xs => given xs
theorem given_of {E : Env} : ∀ {args : List AV} {vs : List Value}, vs.length = args.length -> (∀ (i : Nat) (v : Value) (x : AV), vs[i]? = some v -> args[i]? = some x -> RepV E v x) -> given args := by
 intro args
 induction args with
 | nil => intro vs _ _; trivial
 | cons x xs ih =>
  intro vs hl h
  cases vs with
  | nil => simp at hl
  | cons v vs =>
   have hr := ih (vs := vs) (by simpa using hl) (λ i u y hu hy => h (i + 1) u y (by simpa using hu) (by simpa using hy))
   cases x with
   | rows k n f =>
    refine ⟨?_, hr⟩
    obtain ⟨A, cap, ws, a, h1, h2, _⟩ := Rep.rows_inv (show Rep E [v] (.rows k n f) from h 0 v _ rfl rfl)
    omega
   | _ => exact hr
theorem Spec.given {P : Program} {f : FuncId} {args : List AV} {R : AV -> List LObj -> Prop} (h : given args -> Spec P f args R) : Spec P f args R :=
 λ E0 vs h1 h0 h2 hG h3 h4 => h (given_of h3 h4) E0 vs h1 h0 h2 hG h3 h4
omit [Inhabited GlT] in
theorem le_one {nb : Nat} {E0 E : Env} {H H' : List LObj} {ks : Names} {v : Value} {x y : AV} (hnb : E0.m = nb) (g : Gam E0 E H) (hv : RepV E v x) (h : LeS nb ks ⟨[x], H⟩ ⟨[y], H'⟩) : Gam E0 (E.ren ks H') H' /\ RepV (E.ren ks H') v y := by
 letI : Inhabited GlT := ⟨⟨λ _ => none⟩⟩
 have gs : GamS E0 E ⟨[x], H⟩ { tmps := #[v], defers := [] } := ⟨g, ⟨rfl, λ g x hx => by cases hx⟩, λ i u y hu hy => by
  cases i with
  | zero => simp at hu hy; subst hu hy; exact hv
  | succ i => simp at hu⟩
 have g2 := le_sound hnb gs h
 exact ⟨g2.toGam, by simpa using g2.slots.2 0 v y rfl rfl⟩
theorem Spec.weak {P : Program} {f : FuncId} {args : List AV} {Z : Type} {X : Z -> AV} {HH : Z -> List LObj} {R : AV -> List LObj -> Prop} (h : Spec P f args λ y H => ∃ z, leSt 0 ⟨[y], H⟩ ⟨[X z], HH z⟩ (R (X z) (HH z))) : Spec P f args R := by
 intro E0 vs h1 h0 h2 hG h3 h4
 refine (h E0 vs h1 h0 h2 hG h3 h4).mono ?_
 rintro e w' ⟨v, x, H, E', he, ⟨z, hle⟩, hw, g, hv⟩
 obtain ⟨⟨ks, hks⟩, hR⟩ := leSt_spec hle
 have g2 := le_one (nb := 0) h0 g hv hks
 exact ⟨v, X z, HH z, E'.ren ks (HH z), he, hR, hw, g2.1, g2.2⟩
theorem SpecH.weak {P : Program} {f : FuncId} {H0 : List LObj} {args : List AV} {Z : Type} {X : Z -> AV} {HH : Z -> List LObj} {R : AV -> List LObj -> Prop} (h : SpecH P f H0 args λ y H => ∃ z, leSt H0.length ⟨[y], H⟩ ⟨[X z], HH z⟩ (R (X z) (HH z))) : SpecH P f H0 args R := by
 intro E0 vs g0 h0 hG h3 h4
 refine (h E0 vs g0 h0 hG h3 h4).mono ?_
 rintro e w' ⟨v, x, H, E', he, ⟨z, hle⟩, hw, g, hv⟩
 obtain ⟨⟨ks, hks⟩, hR⟩ := leSt_spec hle
 have g2 := le_one (nb := H0.length) h0 g hv hks
 exact ⟨v, X z, HH z, E'.ren ks (HH z), he, hR, hw, g2.1, g2.2⟩
def idN (n : Nat) : Names := (List.range n).map .old
theorem pos_range : ∀ (n k q q' : Nat), pos ((List.range' k n).map .old) q = some q' -> q = k + q' := by
 intro n
 induction n with
 | zero => intro k q q' h; cases h
 | succ n ih =>
  intro k q q' h
  simp only [List.range'_succ, List.map_cons, pos] at h
  split at h
  ·rename_i hb
   injection h with h
   subst h
   exact Nat.eq_of_beq_eq_true hb
  ·split at h
   ·rename_i j hj
    injection h with h
    subst h
    have := ih (k + 1) q j hj
    omega
   ·cases h
theorem extRen_id (n : Nat) (E : Env) : ExtRen (idN n) E E :=
 ⟨λ _ h => h, λ _ _ => rfl, λ q L q' hL hp => by
  have := pos_range n 0 q q' (by rw [<- List.range_eq_range']; exact hp)
  rw [show q' = q by omega]; exact hL, λ l h => by
  rw [virt_iff] at h
  simp [idN] at h⟩
theorem leV_of_leA {ks : Names} {x y : AV} (h : leA ks x y) : leV ks x y := by
 cases y <;> first | trivial | exact h
theorem Spec.args {P : Program} {f : FuncId} {args args' : List AV} {R : AV -> List LObj -> Prop} (h : leL (idN 0) args args') (k : Spec P f args' R) : Spec P f args R := by
 intro E0 vs h1 h0 h2 hG h3 h4
 obtain ⟨e1, e2⟩ := leL_get h
 refine k E0 vs h1 h0 h2 hG (by rw [h3, e1]) λ i v y hv hy => ?_
 have hlt : i < args.length := by rw [e1]; exact (List.getElem?_eq_some_iff.1 hy).1
 exact repV_le (h4 i v _ hv (List.getElem?_eq_getElem hlt)) (extRen_id 0 E0) (leV_of_leA (e2 i _ _ (List.getElem?_eq_getElem hlt) hy))
theorem SpecH.args {P : Program} {f : FuncId} {H0 : List LObj} {args args' : List AV} {R : AV -> List LObj -> Prop} (n : Nat) (h : leL (idN n) args args') (k : SpecH P f H0 args' R) : SpecH P f H0 args R := by
 intro E0 vs g0 h0 hG h3 h4
 obtain ⟨e1, e2⟩ := leL_get h
 refine k E0 vs g0 h0 hG (by rw [h3, e1]) λ i v y hv hy => ?_
 have hlt : i < args.length := by rw [e1]; exact (List.getElem?_eq_some_iff.1 hy).1
 exact repV_le (h4 i v _ hv (List.getElem?_eq_getElem hlt)) (extRen_id n E0) (leV_of_leA (e2 i _ _ (List.getElem?_eq_getElem hlt) hy))
def leR (x : AV) : AV -> Prop
 | .rows k n f => match x with
  | .rows k' n' f' => k' = k /\ n' = n /\ ∀ i, i < n -> leA [] (f' i) (f i)
  | _ => False
 | y => leA (idN 0) x y
def leRs : List AV -> List AV -> Prop
 | [], [] => True
 | c :: cs, d :: ds => leR c d /\ leRs cs ds
 | _, _ => False
theorem leRs_get : ∀ {cs ds : List AV}, leRs cs ds -> cs.length = ds.length /\ ∀ (i : Nat) (c d : AV), cs[i]? = some c -> ds[i]? = some d -> leR c d := by
 intro cs
 induction cs with
 | nil =>
  intro ds h
  cases ds with
  | nil => exact ⟨rfl, λ i c d hc => by simp at hc⟩
  | cons d ds => simp [leRs] at h
 | cons c cs ih =>
  intro ds h
  cases ds with
  | nil => simp [leRs] at h
  | cons d ds =>
   simp only [leRs] at h
   obtain ⟨h1, h2⟩ := ih h.2
   refine ⟨by simp [h1], λ i c' d' hc hd => ?_⟩
   cases i with
   | zero => simp at hc hd; subst hc hd; exact h.1
   | succ i => exact h2 i c' d' (by simpa using hc) (by simpa using hd)
theorem extRen_nil (E : Env) : ExtRen [] E E := ⟨λ _ h => h, λ _ _ => rfl, λ q L q' _ hp => by simp [pos] at hp, λ l h => by rw [virt_iff] at h; simp at h⟩
theorem rep_rows_le {E : Env} {us : List Value} {x : AV} (h : Rep E us x) {k n : Nat} {f f' : Nat -> AV} (hx : x = .rows k n f) (hf : ∀ i, i < n -> leA [] (f i) (f' i)) : Rep E us (.rows k n f') := by
 cases h with
 | rows hc hm ha hl hcell h =>
  cases hx
  exact Rep.rows hc hm ha hl hcell (λ i hi => rep_le (h i hi) (extRen_nil _) (hf i hi))
 | _ => cases hx
theorem repV_leR {E : Env} {v : Value} {x y : AV} (h : RepV E v x) (hl : leR x y) : RepV E v y := by
 cases y with
 | rows k n f =>
  cases x <;> simp only [leR] at hl
  obtain ⟨rfl, rfl, hf⟩ := hl
  exact rep_rows_le (show Rep E [v] _ from h) rfl hf
 | _ => exact repV_le h (extRen_id 0 E) (leV_of_leA (by simpa only [leR] using hl))
theorem Spec.argsR {P : Program} {f : FuncId} {args args' : List AV} {R : AV -> List LObj -> Prop} (h : leRs args args') (k : Spec P f args' R) : Spec P f args R := by
 intro E0 vs h1 h0 h2 hG h3 h4
 obtain ⟨e1, e2⟩ := leRs_get h
 refine k E0 vs h1 h0 h2 hG (by rw [h3, e1]) λ i v y hv hy => ?_
 have hlt : i < args.length := by rw [e1]; exact (List.getElem?_eq_some_iff.1 hy).1
 exact repV_leR (h4 i v _ hv (List.getElem?_eq_getElem hlt)) (e2 i _ _ (List.getElem?_eq_getElem hlt) hy)
end Go.Am

namespace Go.Am
open Go.RowKit
variable [Inhabited GlT]
section
variable {P : Program}
def partsAll (g : TypeId -> List AV -> Prop) : List Field -> List AV -> Prop
 | [], Xs => Xs = []
 | f :: fs, Xs => ∃ A B, Xs = A ++ B /\ g f.type A /\ partsAll g fs B
def wrapE (P : Program) (t : TypeId) (Xs : List AV) : AV := match P.underlying t with
 | some (.struct _) => .agg Xs
 | _ => Xs.headD .any
def Parts (P : Program) : Nat -> TypeId -> List AV -> Prop
 | 0, _, _ => False
 | n + 1, t, Xs => match P.underlying t with
  | some .bool => ∃ b, Xs = [.pl (.bool b)]
  | some (.int k) => ∃ z, Xs = [.pl (.int k z)] /\ (Lit.int k z).wf = true
  | some .string => ∃ s : ByteArray, Xs = [.pl (.string s)] /\ s.size <= maxLen
  | some (.slice e) => ∃ m f, Xs = [.rows (P.cellsOf e) m f] /\ m <= maxLen /\ ∀ i, i < m -> ∃ Ys, Parts P n e Ys /\ f i = wrapE P e Ys
  | some (.array m e) => match P.underlying e with
   | some (.int k) => ∃ f, Xs = [.iarr k m f] /\ ∀ i, i < m -> (Lit.int k (f i)).wf = true
   | _ => False
  | some (.struct fs) => partsAll (Parts P n) fs.toList Xs
  | _ => False
def offsOk (P : Program) : List Field -> Nat -> Option Nat
 | [], k => some k
 | f :: fs, k => if f.offset = k then offsOk P fs (k + P.cellsOf f.type) else none
def goodT (P : Program) : Nat -> TypeId -> Bool
 | 0, _ => false
 | n + 1, t => match P.underlying t with
  | some .bool => Nat.beq (P.cellsOf t) 1
  | some (.int _) => Nat.beq (P.cellsOf t) 1
  | some .string => Nat.beq (P.cellsOf t) 1
  | some (.slice e) => Nat.beq (P.cellsOf t) 1 && goodT P n e && Nat.blt 0 (P.cellsOf e)
  | some (.array m e) => match P.underlying e with
   | some (.int _) => Nat.beq (P.cellsOf e) 1 && Nat.beq (P.cellsOf t) m
   | _ => false
  | some (.struct fs) => fs.toList.all (λ f => goodT P n f.type) && (match offsOk P fs.toList 0 with
   | some k => Nat.beq k (P.cellsOf t)
   | none => false)
  | _ => false
theorem rep_one {E : Env} {us : List Value} {x : AV} (hl : us.length = cw x) (h : Rep E us x) : Rep E us (.agg [x]) := by
 have := Rep.cons hl h (Rep.nil (E := E))
 rwa [List.append_nil] at this
theorem rep_agg_inv {E : Env} {us : List Value} {c : AV} {cs : List AV} (h : Rep E us (.agg (c :: cs))) : ∃ A B, us = A ++ B /\ A.length = cw c /\ Rep E A c /\ Rep E B (.agg cs) := by
 generalize hx : AV.agg (c :: cs) = x at h
 cases h <;> cases hx
 rename_i A B hl h ht
 exact ⟨A, B, rfl, hl, h, ht⟩
theorem rep_nil_inv {E : Env} {us : List Value} (h : Rep E us (.agg [])) : us = [] := by
 generalize hx : AV.agg [] = x at h
 cases h <;> cases hx
 rfl
theorem rep_of_one {E : Env} {us : List Value} {x : AV} (h : Rep E us (.agg [x])) : Rep E us x := by
 obtain ⟨A, B, rfl, _, hA, hB⟩ := rep_agg_inv h
 rw [rep_nil_inv hB, List.append_nil]
 exact hA
theorem rep_agg_append {E : Env} : ∀ {as : List AV} {us vs : List Value} {bs : List AV}, Rep E us (.agg as) -> Rep E vs (.agg bs) -> Rep E (us ++ vs) (.agg (as ++ bs)) := by
 intro as
 induction as with
 | nil => intro us vs bs h h2; rw [rep_nil_inv h]; exact h2
 | cons a as ih =>
  intro us vs bs h h2
  obtain ⟨A, B, rfl, hl, hA, hB⟩ := rep_agg_inv h
  rw [List.append_assoc, List.cons_append]
  exact Rep.cons hl hA (ih hB h2)
variable {H : Type} {enc : TypeId × Value -> H} {w : World} {sp : Nat -> Bool} {held : Bool}
theorem fields_rep {E : Env} {cs : List Value} {n : Nat} {fuel : Nat} (ih : ∀ (t : TypeId) (us : List Value) (x : DataW H × List MemPlace), goodT P n t = true -> DataW.trod enc P w 0 sp held fuel t us = some x -> ∃ Xs, us.length = P.cellsOf t /\ Rep E us (.agg Xs) /\ Parts P n t Xs) :
  ∀ (fs : List Field) (k : Nat) {m : Nat}, fs.all (λ f => goodT P n f.type) = true -> offsOk P fs k = some m -> m = cs.length -> (∀ f ∈ fs, ∃ x, DataW.trod enc P w 0 sp held fuel f.type ((cs.drop f.offset).take (P.cellsOf f.type)) = some x) ->
   ∃ Xs, Rep E (cs.drop k) (.agg Xs) /\ partsAll (Parts P n) fs Xs := by
 intro fs
 induction fs with
 | nil =>
  intro k m _ ho hm _
  simp only [offsOk, Option.some.injEq] at ho
  subst ho
  subst hm
  refine ⟨[], ?_, rfl⟩
  rw [List.drop_length]
  exact Rep.nil
 | cons f fs ihf =>
  intro k m hg ho hm hx
  simp only [List.all_cons, Bool.and_eq_true] at hg
  simp only [offsOk] at ho
  split at ho
  ·rename_i hk
   obtain ⟨x, hxf⟩ := hx f List.mem_cons_self
   obtain ⟨A, hlA, hA, pA⟩ := ih _ _ x hg.1 hxf
   obtain ⟨B, hB, pB⟩ := ihf (k + P.cellsOf f.type) hg.2 ho hm (λ g hgm => hx g (List.mem_cons_of_mem _ hgm))
   refine ⟨A ++ B, ?_, A, B, rfl, pA, pB⟩
   have := rep_agg_append hA hB
   rw [hk, <- List.drop_drop, List.take_append_drop] at this
   exact this
  ·cases ho
theorem trod_parts : ∀ (n : Nat) (E : Env), E.w = w -> (∀ b, b < w.heap.size -> E.F b) -> ∀ (fuel : Nat) (t : TypeId) (us : List Value) (x : DataW H × List MemPlace), goodT P n t = true -> DataW.trod enc P w 0 sp held fuel t us = some x -> ∃ Xs, us.length = P.cellsOf t /\ Rep E us (.agg Xs) /\ Parts P n t Xs := by
 intro n
 induction n with
 | zero => intro E _ _ fuel t us x hg; simp [goodT] at hg
 | succ n ih =>
  intro E hE hF fuel t us x hg h
  cases hu : P.underlying t with
  | none => simp [goodT, hu] at hg
  | some T =>
   cases T with
   | bool =>
    simp only [goodT, hu, Nat.beq_eq] at hg
    obtain ⟨b, rfl, _⟩ := DataW.trod_bool hu h
    exact ⟨[.pl (.bool b)], by rw [hg]; rfl, rep_one rfl (Rep.pl _ rfl), by simp only [Parts, hu]; exact ⟨b, rfl⟩⟩
   | int k =>
    simp only [goodT, hu, Nat.beq_eq] at hg
    obtain ⟨z, rfl, _, hw⟩ := DataW.trod_int hu h
    exact ⟨[.pl (.int k z)], by rw [hg]; rfl, rep_one rfl (Rep.pl _ rfl), by simp only [Parts, hu]; exact ⟨z, rfl, hw⟩⟩
   | string =>
    simp only [goodT, hu, Nat.beq_eq] at hg
    obtain ⟨s, rfl, _, hs⟩ := DataW.trod_string hu h
    exact ⟨[.pl (.string s)], by rw [hg]; rfl, rep_one rfl (Rep.pl _ rfl), by simp only [Parts, hu]; exact ⟨s, rfl, hs⟩⟩
   | slice e =>
    simp only [goodT, hu, Bool.and_eq_true, Nat.beq_eq, Nat.blt_eq] at hg
    obtain ⟨⟨h1, hge⟩, hpos⟩ := hg
    rcases DataW.trod_slice hu h with ⟨rfl, _⟩ | ⟨a, len, cap, elems, rest, n', _, rfl, _, _, hlc, hcm, hlen, hel, _, _⟩
    ·refine ⟨[.rows (P.cellsOf e) 0 λ _ => .any], by rw [h1]; rfl, rep_one rfl (.rows (us := λ _ => []) (a := default) (Nat.le_refl _) (by omega) (by omega) (by omega) (by omega) (by omega)), ?_⟩
     simp only [Parts, hu]
     exact ⟨0, _, rfl, Nat.zero_le _, λ i hi => by omega⟩
    ·have key : ∀ i, i < len -> ∃ (cs : List Value) (Ys : List AV), w.cells? 0 (a.add (i * P.cellsOf e)) (P.cellsOf e) = some cs /\ cs.length = P.cellsOf e /\ Rep E.imm cs (.agg Ys) /\ Parts P n e Ys := by
      intro i hi
      have hh := hel i hi
      rw [List.getElem?_eq_getElem (by omega)] at hh
      obtain ⟨cs, hc, ht⟩ := Option.bind_eq_some_iff.1 hh
      obtain ⟨Ys, hl, hr, hp⟩ := ih E.imm hE hF n' e cs _ hge ht
      exact ⟨cs, Ys, hc, hl, hr, hp⟩
     have key2 : ∃ (us : Nat -> List Value) (Y : Nat -> List AV), ∀ i, i < len -> w.cells? 0 (a.add (i * P.cellsOf e)) (P.cellsOf e) = some (us i) /\ (us i).length = P.cellsOf e /\ Rep E.imm (us i) (.agg (Y i)) /\ Parts P n e (Y i) := by
      refine ⟨λ i => if h : i < len then (key i h).choose else [], λ i => if h : i < len then (key i h).choose_spec.choose else [], λ i hi => ?_⟩
      simp only [hi, dif_pos]
      exact (key i hi).choose_spec.choose_spec
     obtain ⟨us, Y, hY⟩ := key2
     refine ⟨[.rows (P.cellsOf e) len λ i => wrapE P e (Y i)], by rw [h1]; rfl, rep_one rfl ?_, ?_⟩
     ·refine .rows (us := us) (a := a) hlc hcm (λ h0 => ⟨rfl, hF _ ?_⟩) (λ i hi => (hY i hi).2.1) (λ i hi j u hu' => ?_) (λ i hi => ?_)
      ·have := World.cells?_block (hY 0 h0).1 hpos
       simpa using this
      ·rw [hE]
       have h2 := World.cells?_some (hY i hi).1
       have hj : j < P.cellsOf e := by rw [<- (hY i hi).2.1]; exact (List.getElem?_eq_some_iff.1 hu').1
       have := h2.2.2 j hj
       rw [hu'] at this
       rw [<- this]
       rw [Addr.add_add]
      ·have hr := (hY i hi).2.2.1
       have hp := (hY i hi).2.2.2
       unfold wrapE
       split
       ·exact hr
       ·rename_i hns
        have one : ∃ y, Y i = [y] := by
         cases n with
         | zero => simp [Parts] at hp
         | succ n =>
          simp only [Parts] at hp
          split at hp
          ·obtain ⟨b, hb⟩ := hp; exact ⟨_, hb⟩
          ·obtain ⟨b, hb, _⟩ := hp; exact ⟨_, hb⟩
          ·obtain ⟨b, hb, _⟩ := hp; exact ⟨_, hb⟩
          ·obtain ⟨m, f, hb, _⟩ := hp; exact ⟨_, hb⟩
          ·split at hp
           ·obtain ⟨f, hb, _⟩ := hp; exact ⟨_, hb⟩
           ·exact hp.elim
          ·rename_i hst; exact absurd hst (hns _)
          ·exact hp.elim
        obtain ⟨y, hy⟩ := one
        rw [hy] at hr ⊢
        exact rep_of_one hr
     ·simp only [Parts, hu]
      exact ⟨len, _, rfl, by omega, λ i hi => ⟨Y i, (hY i hi).2.2.2, rfl⟩⟩
   | array m e =>
    simp only [goodT, hu] at hg
    cases he : P.underlying e with
    | none => rw [he] at hg; cases hg
    | some T' =>
     rw [he] at hg
     cases T' <;> try cases hg
     rename_i k
     simp only [Bool.and_eq_true, Nat.beq_eq] at hg
     obtain ⟨hc1, hcm⟩ := hg
     obtain ⟨xs, m', _, _, hl, hxl, hx⟩ := DataW.trod_array hu h
     have key : ∀ i, i < m -> ∃ z, us[i]? = some (.int k z) /\ (Lit.int k z).wf = true := by
      intro i hi
      have h2 := hx i hi
      rw [hc1, Nat.mul_one, List.getElem?_eq_getElem (by omega)] at h2
      obtain ⟨z, hz, _, hw⟩ := DataW.trod_int he h2
      refine ⟨z, ?_, hw⟩
      have : ((us.drop i).take 1)[0]? = some (.int k z) := by rw [hz]; rfl
      simpa [List.getElem?_take, List.getElem?_drop] using this
     have key2 : ∃ f : Nat -> Int, ∀ i, i < m -> us[i]? = some (.int k (f i)) /\ (Lit.int k (f i)).wf = true := by
      refine ⟨λ i => if h : i < m then (key i h).choose else 0, λ i hi => ?_⟩
      simp only [hi, dif_pos]
      exact (key i hi).choose_spec
     obtain ⟨f, hf⟩ := key2
     refine ⟨[.iarr k m f], hl, rep_one (by rw [hl, hcm]; rfl) (.iarr (by rw [hl, hcm]) (λ i hi => (hf i hi).1)), ?_⟩
     simp only [Parts, hu, he]
     exact ⟨f, rfl, λ i hi => (hf i hi).2⟩
   | struct fs =>
    simp only [goodT, hu, Bool.and_eq_true] at hg
    obtain ⟨hga, hgo⟩ := hg
    split at hgo
    ·rename_i k hk
     rw [Nat.beq_eq] at hgo
     subst hgo
     obtain ⟨xs, n', _, _, hl, hxl, hx⟩ := DataW.trod_struct hu h
     obtain ⟨Xs, hr, hp⟩ := fields_rep (E := E) (cs := us) (λ t us x => ih E hE hF n' t us x) fs.toList 0 hga hk hl.symm (λ f hf => by
      obtain ⟨i, hi, rfl⟩ := List.mem_iff_getElem.1 hf
      have hi' : i < fs.size := by simpa using hi
      have := hx i fs[i] (Array.getElem?_eq_getElem hi')
      rw [List.getElem?_eq_getElem (by omega)] at this
      exact ⟨_, by simpa using this⟩)
     refine ⟨Xs, hl, by simpa using hr, ?_⟩
     simp only [Parts, hu]
     exact hp
    ·cases hgo
   | _ => simp [goodT, hu] at hg
def wrapV (P : Program) (t : TypeId) (Xs : List AV) : AV := match P.underlying t with
 | some (.struct _) => .agg Xs
 | some (.array _ _) => .agg Xs
 | _ => Xs.headD .any
def ArgsOf (P : Program) (n : Nat) : List TypeId -> List AV -> Prop
 | [], [] => True
 | t :: ts, x :: xs => (∃ Ys, Parts P n t Ys /\ x = wrapV P t Ys) /\ ArgsOf P n ts xs
 | _, _ => False
def startE (w : World) : Env := { w := w, F := λ b => b < w.heap.size, loc := λ _ => none, m := 0 }
theorem arg_rep {n : Nat} {t : TypeId} {v : Value} {d : DataW H} {ps : List MemPlace} {r : Reach} {b0 : Nat} (hg : goodT P n t = true) (hok : Value.okWide P w r b0 t v) (hd : DataW.Trod enc P w 0 sp held t v d ps) :
  ∃ Ys, Parts P n t Ys /\ RepV (startE w) v (wrapV P t Ys) := by
 obtain ⟨fuel, hf⟩ := hd
 obtain ⟨Xs, hl, hr, hp⟩ := trod_parts n (startE w) rfl (λ b hb => hb) fuel t _ _ hg hf
 refine ⟨Xs, hp, ?_⟩
 cases n with
 | zero => simp [Parts] at hp
 | succ n =>
  have hp' := hp
  simp only [Parts] at hp'
  split at hp' <;> rename_i hu
  ·obtain ⟨b, rfl⟩ := hp'
   obtain ⟨b', rfl⟩ := WideShapes.okWide_bool hu hok
   simp only [wrapV, hu]
   exact rep_of_one hr
  ·obtain ⟨b, rfl, _⟩ := hp'
   obtain ⟨b', rfl⟩ := WideShapes.okWide_int hu hok
   simp only [wrapV, hu]
   exact rep_of_one hr
  ·obtain ⟨b, rfl, _⟩ := hp'
   obtain ⟨b', rfl⟩ := WideShapes.okWide_string hu hok
   simp only [wrapV, hu]
   exact rep_of_one hr
  ·obtain ⟨m, f, rfl, _⟩ := hp'
   obtain ⟨a, l, c, rfl⟩ := WideShapes.okWide_slice hu hok
   simp only [wrapV, hu]
   exact rep_of_one hr
  ·simp only [wrapV, hu]
   simp only [Value.okWide, hu] at hok
   obtain ⟨cs, rfl, _⟩ := hok
   exact ⟨cs.toList, by simp, hr⟩
  ·simp only [wrapV, hu]
   simp only [Value.okWide, hu] at hok
   obtain ⟨cs, rfl, _⟩ := hok
   exact ⟨cs.toList, by simp, hr⟩
  ·exact hp'.elim
theorem args_rep {n : Nat} {r : Reach} {b0 : Nat} : ∀ {ts : List TypeId} {vs : List Value} {ds : List (DataW H)} {ps : List MemPlace}, (∀ t ∈ ts, goodT P n t = true) -> (∀ (j : Nat) (t : TypeId) (v : Value), ts[j]? = some t -> vs[j]? = some v -> Value.okWide P w r b0 t v) -> DataW.TrodAll enc P w 0 sp held ts vs ds ps ->
  ∃ xs, ArgsOf P n ts xs /\ vs.length = xs.length /\ ds.length = ts.length /\ ∀ (i : Nat) (v : Value) (x : AV), vs[i]? = some v -> xs[i]? = some x -> RepV (startE w) v x := by
 intro ts
 induction ts with
 | nil =>
  intro vs ds ps _ _ h
  cases vs <;> cases ds <;> simp only [DataW.TrodAll] at h
  exact ⟨[], trivial, rfl, rfl, λ i v x hv => by simp at hv⟩
 | cons t ts ih =>
  intro vs ds ps hg hok h
  cases vs <;> cases ds <;> simp only [DataW.TrodAll] at h
  rename_i v vs d ds
  obtain ⟨p, q, h1, h2, _⟩ := h
  obtain ⟨Ys, hp, hr⟩ := arg_rep (hg t List.mem_cons_self) (hok 0 t v rfl rfl) h1
  obtain ⟨xs, ha, hl, hdl, hx⟩ := ih (λ t ht => hg t (List.mem_cons_of_mem _ ht)) (λ j t v ht hv => hok (j + 1) t v (by simpa using ht) (by simpa using hv)) h2
  refine ⟨wrapV P t Ys :: xs, ⟨⟨Ys, hp, rfl⟩, ha⟩, by simp [hl], by simp [hdl], λ i u y hu hy => ?_⟩
  cases i with
  | zero => simp at hu hy; subst hu hy; exact hr
  | succ i => exact hx i u y (by simpa using hu) (by simpa using hy)
theorem trodAll_later (hl : laidOutB P = true) {W W' : World} (hb : Below W.heap.size W W') {sp' : Nat -> Bool} : ∀ {ts : List TypeId} {vs : List Value} {ds : List (DataW H)} {ps : List MemPlace}, (∀ t ∈ ts, P.readableRec t = true /\ t < P.types.size) -> DataW.TrodAll enc P W 0 (λ _ => true) true ts vs ds ps -> (∀ p ∈ ps, p.block < W.heap.size) -> (∀ p ∈ ps, sp' p.block = true) ->
  DataW.TrodAll enc P W' 0 sp' true ts vs ds ps := by
 intro ts
 induction ts with
 | nil =>
  intro vs ds ps _ h _ _
  cases vs <;> cases ds <;> simp only [DataW.TrodAll] at h ⊢
  exact h
 | cons t ts ih =>
  intro vs ds ps hg h hlt hs
  cases vs <;> cases ds <;> simp only [DataW.TrodAll] at h ⊢
  obtain ⟨p, q, h1, h2, rfl⟩ := h
  exact ⟨p, q, WideElems.Trod_stays hl (hg t List.mem_cons_self).1 (hg t List.mem_cons_self).2 h1 (λ x hx => hb.same (hlt x (List.mem_append_left _ hx))) (λ x hx => hs x (List.mem_append_left _ hx)),
   ih (λ t ht => hg t (List.mem_cons_of_mem _ ht)) h2 (λ x hx => hlt x (List.mem_append_right _ hx)) (λ x hx => hs x (List.mem_append_right _ hx)), rfl⟩
theorem law_post {f : FuncId} {fn : Func} {s : ChangeSpec} {n : Nat} {tb : TypeId} {apart fresh handsOn again : Bool} {r : Reach} {b0 : Nat}
  (hl : laidOutB P = true) (hts : ∀ t ∈ fn.params.toList, goodT P n t = true /\ P.readableRec t = true /\ t < P.types.size)
  (hv : s.vars = []) (hs : ∀ ds : List (DataW H), ds.length = fn.params.toList.length -> s.fn H (ds ++ []) = { results := [.lit (.bool true)], args := ds, vars := [] })
  (hr : fn.resultTypes = #[tb]) (hb : P.underlying tb = some .bool)
  (hc : ∀ xs, ArgsOf P n fn.params.toList xs -> Spec P f xs λ y _ => y = .pl (.bool true))
  {W : World} {args : Array Value} {ds gs : List (DataW H)} {before : List MemPlace}
  (hval : ∀ (j : Nat) t v, fn.params[j]? = some t -> args[j]? = some v -> Value.okWide P W r b0 t v)
  (hW : DataW.Whole enc P fn.params.toList s.vars apart W args.toList ds gs before) (hG : GloE (startE W)) :
  Calls P f args W λ e W' => ∃ v, e = .returned v /\ s.post enc P fn apart fresh handsOn again W args v W' := by
 obtain ⟨p, q, hA, hV, hpq, hfz, hnd⟩ := id hW
 rw [hv] at hV
 obtain ⟨rfl, rfl⟩ := ChangeShapes.trodVars_none hV
 rw [List.append_nil] at hpq
 subst hpq
 have hlt : ∀ x ∈ before, x.block < W.heap.size := λ x hx => hW.lt x hx
 obtain ⟨xs, ha, hlen, hdl, hx⟩ := args_rep (n := n) (λ t ht => (hts t ht).1) (λ j t v ht hv => hval j t v (by simpa using ht) (by simpa using hv)) hA
 have hcall := hc xs ha (startE W) args.toList (λ _ => rfl) rfl (λ b hb => hb) hG hlen hx
 simp only [Array.toArray_toList] at hcall
 refine Calls.mono hcall ?_
 rintro e W' ⟨v, x, H', E', rfl, rfl, rfl, hg, hrep⟩
 obtain rfl := repV_pl hrep
 have hbel : Below W.heap.size W E'.w := hg.belowN (λ _ => rfl)
 have hfn := hs ds hdl
 have later : ∀ sp : Nat -> Bool, (∀ x ∈ before, sp x.block = true) -> DataW.TrodAll enc P E'.w 0 sp true fn.params.toList args.toList ds before := λ sp hsp => trodAll_later hl hbel (λ t ht => (hts t ht).2) hA hlt hsp
 have res : ∀ (b : Nat) (sp : Nat -> Bool) (hd : Bool), DataW.TrodAll enc P E'.w b sp hd fn.resultTypes.toList ((Value.bool true).resultList fn.resultTypes.size) [.lit (.bool true)] [] := λ b sp hd => by
  rw [hr]
  exact ⟨[], [], shut_bool hb true, rfl, rfl⟩
 have vars : ∀ sp : Nat -> Bool, DataW.TrodVars enc P E'.w sp s.vars [] [] := λ sp => by rw [hv]; rfl
 have both : DataW.TrodAll enc P E'.w 0 (λ _ => true) true (fn.resultTypes.toList ++ fn.params.toList) ((Value.bool true).resultList fn.resultTypes.size ++ args.toList) ([.lit (.bool true)] ++ ds) ([] ++ before) := ChangeShapes.trodAll_append (later _ (λ _ _ => rfl)) (res _ _ _)
 refine ⟨.bool true, rfl, ds, [], before, [], before, [], hW, ?_, ?_, ?_, World.keptBut_mono (λ x hx => ⟨hx, .inr (.inl hx)⟩) (hbel.frame (· ∈ before)), λ _ => ⟨ok_one hr rfl (okWide_bool_mk hb true), ?_⟩⟩
 ·rw [hfn]; exact res _ _ _
 ·rw [hfn]; exact later _ (λ x hx => by simpa using hlt x hx)
 ·rw [hfn]; exact vars _
 ·refine ⟨_, _, before, ⟨before, [], both, vars _, by simp, λ b off hm => ?_, λ ha => hnd ha⟩, λ x hx _ => by simpa using hx⟩
  rw [hbel.frozen (hlt _ hm)]
  exact hfz b off hm
theorem Parts.int {n : Nat} {t : TypeId} {k : IntKind} {Xs : List AV} (hu : P.underlying t = some (.int k)) (h : Parts P (n + 1) t Xs) : ∃ z, Xs = [.pl (.int k z)] /\ (Lit.int k z).wf = true := by
 simpa only [Parts, hu] using h
theorem Parts.bool {n : Nat} {t : TypeId} {Xs : List AV} (hu : P.underlying t = some .bool) (h : Parts P (n + 1) t Xs) : ∃ b, Xs = [.pl (.bool b)] := by
 simpa only [Parts, hu] using h
theorem Parts.string {n : Nat} {t : TypeId} {Xs : List AV} (hu : P.underlying t = some .string) (h : Parts P (n + 1) t Xs) : ∃ s : ByteArray, Xs = [.pl (.string s)] /\ s.size <= maxLen := by
 simpa only [Parts, hu] using h
theorem Parts.slice {n : Nat} {t e : TypeId} {Xs : List AV} (hu : P.underlying t = some (.slice e)) (h : Parts P (n + 1) t Xs) : ∃ m f, Xs = [.rows (P.cellsOf e) m f] /\ m <= maxLen /\ ∀ i, i < m -> ∃ Ys, Parts P n e Ys /\ f i = wrapE P e Ys := by
 simpa only [Parts, hu] using h
theorem Parts.array {n m : Nat} {t e : TypeId} {k : IntKind} {Xs : List AV} (hu : P.underlying t = some (.array m e)) (he : P.underlying e = some (.int k)) (h : Parts P (n + 1) t Xs) : ∃ f, Xs = [.iarr k m f] /\ ∀ i, i < m -> (Lit.int k (f i)).wf = true := by
 simpa only [Parts, hu, he] using h
theorem Parts.struct {n : Nat} {t : TypeId} {fs : Array Field} {Xs : List AV} (hu : P.underlying t = some (.struct fs)) (h : Parts P (n + 1) t Xs) : partsAll (Parts P n) fs.toList Xs := by
 simpa only [Parts, hu] using h
theorem wrapE_struct {t : TypeId} {fs : Array Field} {Xs : List AV} (hu : P.underlying t = some (.struct fs)) : wrapE P t Xs = .agg Xs := by simp only [wrapE, hu]
theorem wrapE_int {t : TypeId} {k : IntKind} {x : AV} (hu : P.underlying t = some (.int k)) : wrapE P t [x] = x := by simp only [wrapE, hu]; rfl
theorem wrapV_slice {t e : TypeId} {x : AV} (hu : P.underlying t = some (.slice e)) : wrapV P t [x] = x := by simp only [wrapV, hu]; rfl
theorem list_of {α : Type} (p : Nat -> α -> Prop) : ∀ n : Nat, (∀ i, i < n -> ∃ a, p i a) -> ∃ L : List α, L.length = n /\ ∀ i (h : i < L.length), p i L[i] := by
 intro n
 induction n with
 | zero => intro _; exact ⟨[], rfl, λ i h => by simp at h⟩
 | succ n ih =>
  intro h
  obtain ⟨L, hl, hL⟩ := ih (λ i hi => h i (by omega))
  obtain ⟨a, ha⟩ := h n (by omega)
  refine ⟨L ++ [a], by simp [hl], λ i hi => ?_⟩
  rcases Nat.lt_or_ge i L.length with h1 | h1
  ·rw [List.getElem_append_left h1]; exact hL i h1
  ·have : i = n := by simp at hi; omega
   subst this
   rw [List.getElem_append_right h1]
   simpa using ha
theorem args_cons {n : Nat} {t : TypeId} {ts : List TypeId} {xs : List AV} (h : ArgsOf P n (t :: ts) xs) : ∃ Ys rest, xs = wrapV P t Ys :: rest /\ Parts P n t Ys /\ ArgsOf P n ts rest := by
 cases xs with
 | nil => exact h.elim
 | cons x xs =>
  obtain ⟨⟨Ys, hp, rfl⟩, h2⟩ := h
  exact ⟨Ys, xs, rfl, hp, h2⟩
theorem args_nil {n : Nat} {xs : List AV} (h : ArgsOf P n [] xs) : xs = [] := by
 cases xs with
 | nil => rfl
 | cons x xs => exact h.elim
end
end Go.Am

namespace Go.Am
open Go.RowKit
variable [Inhabited GlT]
section
variable {P : Program}
omit [Inhabited GlT] in
theorem gam_below {E0 : Env} (hloc : ∀ l, E0.loc l = none) (hm : E0.m = 0) (hF : ∀ b, E0.F b -> b < E0.w.heap.size) {w' : World} (hb : Below E0.w.heap.size E0.w w') : Gam E0 { E0 with w := w' } [] where
 objs := λ l o hl => by simp at hl
 dom := λ l L hL => by rw [show ({ E0 with w := w' } : Env).loc l = E0.loc l from rfl, hloc] at hL; cases hL
 own := λ l L hL => by rw [show ({ E0 with w := w' } : Env).loc l = E0.loc l from rfl, hloc] at hL; cases hL
 inj := λ l l' L L' hL => by rw [show ({ E0 with w := w' } : Env).loc l = E0.loc l from rfl, hloc] at hL; cases hL
 lt := λ b h => Nat.lt_of_lt_of_le (hF b h) hb.size
 up := λ _ h => h
 down := λ _ h => .inl h
 below := ⟨hb.os, hb.tape, hb.output, hb.size, λ k hk => hb.block k hk.1⟩
 stay := λ l hl => .inl rfl
 hm := by rw [hm]; exact Nat.zero_le _
theorem spec_of_calls {f : FuncId} {args : List AV} {R : AV -> List LObj -> Prop}
  (h : ∀ (E0 : Env) (vs : List Value), GloE E0 -> (∀ b, E0.F b -> b < E0.w.heap.size) -> vs.length = args.length -> (∀ (i : Nat) (v : Value) (x : AV), vs[i]? = some v -> args[i]? = some x -> RepV E0 v x) ->
   Calls P f vs.toArray E0.w λ e w' => ∃ v x, e = .returned v /\ R x [] /\ Below E0.w.heap.size E0.w w' /\ ∀ E, RepV E v x) : Am.Spec P f args R := by
 intro E0 vs hloc hm hF hG hl hr
 refine (h E0 vs hG hF hl hr).mono ?_
 rintro e w' ⟨v, x, rfl, hR, hb, hv⟩
 exact ⟨v, x, [], { E0 with w := w' }, rfl, hR, rfl, gam_below hloc hm hF hb, hv _⟩
omit [Inhabited GlT] in
theorem below_grow {B : Nat} {a w : World} (h : Below B a w) (hB : B <= w.heap.size) (os : Array Obj) : Below B a (Go.Sort.grow w os) :=
 h.trans ⟨rfl, rfl, rfl, by simp [Go.Sort.grow], λ k hk => by
  simp only [Go.Sort.grow]
  rw [Array.getElem?_append, if_pos (by omega)]⟩
omit [Inhabited GlT] in
theorem below_bytes (w : World) (e : TypeId) (t : ByteArray) : Below w.heap.size w (Lib.bytesWorld w e t) :=
 ⟨rfl, rfl, rfl, by rw [Lib.bytesWorld_size]; omega, λ k hk => Lib.bytesWorld_at_old w e t k hk⟩
omit [Inhabited GlT] in
theorem Rep.ifc_inv2 {E : Env} {us : List Value} {t : TypeId} {u : Value} (h : Rep E us (.ifc t (.pl u))) : us = [.iface t u] := by
 cases h with
 | ifc hv h => obtain rfl := h.pl_inv; rfl
omit [Inhabited GlT] in
theorem Rep.ifc_val {E : Env} {v : Value} {t : TypeId} {u : Value} (h : Rep E [v] (.ifc t (.pl u))) : ∃ _ : Unit, v = .iface t u := by
 have := h.ifc_inv2
 injection this with h1
 exact ⟨(), h1⟩
theorem GloE.cell {E : Env} (h : GloE E) {g : Nat} {t : TypeId} {x : AV} (hx : glAv g = some (.ifc t x)) : ∃ v, E.w.cell? ⟨g, 0, none⟩ = some (.iface t v) := by
 obtain ⟨_, us, h2, h3⟩ := h g _ hx
 obtain ⟨v, hv⟩ := h2.ifc_inv'
 exact ⟨v, by rw [h3 0, hv]; rfl⟩
theorem GloE.tab {E : Env} (h : GloE E) {g : Nat} {n : Nat} {k : IntKind} {f : Nat -> Int} {name : String} (hx : glAv g = some (.agg [.iarr k n f])) (hn : P.globalNamed name = some g) (h0 : 0 < n) {zs : List Int} (hz : zs.length = n) (hf : ∀ i, i < n -> zs[i]? = some (f i)) :
  Lib.TabIs P E.w name k zs := by
 obtain ⟨_, us, h2, h3⟩ := h g _ hx
 obtain ⟨us', vs', hus, hl, hr, hnil⟩ := rep_agg_inv h2
 obtain rfl := rep_nil_inv hnil
 rw [List.append_nil] at hus
 subst hus
 have hi := hr.iarr_inv
 have e : us = zs.map λ z => Value.int k z := by
  apply List.ext_getElem?
  intro i
  rw [List.getElem?_map]
  by_cases hlt : i < n
  ·rw [hi.2 i hlt, hf i hlt]; rfl
  ·rw [List.getElem?_eq_none (by rw [hi.1]; omega), List.getElem?_eq_none (by omega)]; rfl
 unfold Lib.TabIs World.var?
 rw [hn]
 simp only [Option.bind_some]
 have hc0 := h3 0
 rw [List.getElem?_eq_getElem (by rw [hi.1]; exact h0)] at hc0
 unfold World.cell? at hc0
 split at hc0
 ·rename_i cs t fr hg
  simp only [hg]
  congr 1
  apply Array.ext_getElem?
  intro i
  have := h3 i
  unfold World.cell? at this
  simp only [hg, Option.isSome_none, Bool.false_eq_true, if_false] at this
  rw [this, e]
  simp
 ·cases hc0
end
end Go.Am

namespace Go.SP
open Go Go.Am
abbrev Bs := List UInt8
def bs (l : Bs) : ByteArray := ⟨l.toArray⟩
@[simp] theorem bs_size (l : Bs) : (bs l).size = l.length := by simp [bs, ByteArray.size]
@[simp] theorem bs_data (l : Bs) : (bs l).data.toList = l := by simp [bs]
@[simp] theorem bs_toList (l : Bs) : (bs l).toList = l := by simp [ByteArray.toList_eq]
theorem bs_of (s : ByteArray) : s = bs s.data.toList := by simp [bs]
theorem bs_append (a b : Bs) : bs a ++ bs b = bs (a ++ b) := by
 apply ByteArray.ext
 simp [bs, ByteArray.data_append]
theorem bs_extract (l : Bs) (i j : Nat) : (bs l).extract i j = bs ((l.take j).drop i) := by
 apply ByteArray.ext
 rw [ByteArray.data_extract]
 apply Array.ext'
 simp [bs, List.extract_eq_take_drop, List.drop_take]
theorem bs_mk (l : Bs) : ByteArray.mk l.toArray = bs l := rfl
theorem bs_nil : (⟨#[]⟩ : ByteArray) = bs [] := rfl
abbrev sl (l : Bs) : AV := .pl (.string (bs l))
abbrev nmV (i : Int) : Value := .int .i64 i
abbrev nm (i : Int) : AV := .pl (.int .i64 i)
abbrev u8 (c : UInt8) : AV := .pl (.int .u8 c.toNat)
abbrev bl (b : Bool) : AV := .pl (.bool b)
abbrev nilErr : AV := .pl .nilIface
abbrev nilS : AV := .pl (.slice none 0 0)
def cutL (c : UInt8) : Bs -> Bs × Bs × Bool
 | [] => ([], [], false)
 | x :: xs => bif x == c then ([], xs, true) else (x :: (cutL c xs).1, (cutL c xs).2.1, (cutL c xs).2.2)
def idxL (c : UInt8) (l : Bs) : Int := bif (cutL c l).2.2 then ((cutL c l).1.length : Int) else -1
theorem cutL_found {c : UInt8} : ∀ {l : Bs}, (cutL c l).2.2 = true -> l = (cutL c l).1 ++ c :: (cutL c l).2.1 /\ c ∉ (cutL c l).1 := by
 intro l
 induction l with
 | nil => intro h; simp [cutL] at h
 | cons x xs ih =>
  intro h
  by_cases hx : x = c
  ·subst hx; simp [cutL]
  ·have hb : (x == c) = false := by simp [hx]
   simp only [cutL, hb, cond_false] at h ⊢
   obtain ⟨h1, h2⟩ := ih h
   refine ⟨by rw [List.cons_append, <- h1], ?_⟩
   intro hm
   rcases List.mem_cons.1 hm with h3 | h3
   ·exact hx h3.symm
   ·exact h2 h3
theorem cutL_none {c : UInt8} : ∀ {l : Bs}, (cutL c l).2.2 = false -> (cutL c l).1 = l /\ (cutL c l).2.1 = [] /\ c ∉ l := by
 intro l
 induction l with
 | nil => intro _; simp [cutL]
 | cons x xs ih =>
  intro h
  by_cases hx : x = c
  ·subst hx; simp [cutL] at h
  ·have hb : (x == c) = false := by simp [hx]
   simp only [cutL, hb, cond_false] at h ⊢
   obtain ⟨h1, h2, h3⟩ := ih h
   refine ⟨by rw [h1], h2, ?_⟩
   intro hm
   rcases List.mem_cons.1 hm with h4 | h4
   ·exact hx h4.symm
   ·exact h3 h4
theorem idxL_found {c : UInt8} {l : Bs} (h : (cutL c l).2.2 = true) : idxL c l = ((cutL c l).1.length : Nat) := by simp [idxL, h]
theorem idxL_none {c : UInt8} {l : Bs} (h : (cutL c l).2.2 = false) : idxL c l = -1 := by simp [idxL, h]
theorem find_congr {α : Type} {p q : α -> Bool} : ∀ {l : List α}, (∀ x ∈ l, p x = q x) -> l.find? p = l.find? q := by
 intro l
 induction l with
 | nil => intro _; rfl
 | cons a l ih =>
  intro h
  rw [List.find?_cons, List.find?_cons, h a List.mem_cons_self, ih (λ x hx => h x (List.mem_cons_of_mem _ hx))]
theorem find_idx (c : UInt8) : ∀ l : Bs, (match (List.range l.length).find? (λ i => l.getD i 0 == c) with | some i => (i : Int) | none => -1) = idxL c l := by
 intro l
 cases hf : (cutL c l).2.2 with
 | true =>
  obtain ⟨h1, h2⟩ := cutL_found hf
  rw [idxL_found hf]
  generalize (cutL c l).1 = a at h1 h2
  generalize (cutL c l).2.1 = b at h1
  subst h1
  have : (List.range (a ++ c :: b).length).find? (λ i => (a ++ c :: b).getD i 0 == c) = some a.length := by
   rw [List.find?_range_eq_some]
   refine ⟨by simp, by simp, λ j hj => ?_⟩
   have hlt : j < (a ++ c :: b).length := by simp; omega
   simp only [List.getD_eq_getElem?_getD, List.getElem?_append_left hj, List.getElem?_eq_getElem hj, Option.getD_some, Bool.not_eq_true', beq_eq_false_iff_ne, ne_eq]
   exact λ e => h2 (e ▸ List.getElem_mem hj)
  rw [this]
 | false =>
  obtain ⟨_, _, h3⟩ := cutL_none hf
  rw [idxL_none hf]
  have : (List.range l.length).find? (λ i => l.getD i 0 == c) = none := by
   rw [List.find?_eq_none]
   intro i hi
   have hlt : i < l.length := by simpa using hi
   simp only [List.getD_eq_getElem?_getD, List.getElem?_eq_getElem hlt, Option.getD_some, beq_iff_eq]
   exact λ e => h3 (e ▸ List.getElem_mem hlt)
  rw [this]
theorem rowLe {A B : Bs} (h : A = B) : A.length = B.length /\ B.length <= A.length /\ ∀ i, i < B.length -> AV.pl (.int .u8 ((A.getD i 0).toNat : Int)) = AV.pl (.int .u8 ((B.getD i 0).toNat : Int)) := by
 subst h
 exact ⟨rfl, Nat.le_refl _, λ _ _ => rfl⟩
abbrev nQ : Value := .slice none 0 0
abbrev k8Q : IntKind := .u8
abbrev k64Q : IntKind := .i64
abbrev k32Q : IntKind := .u32
abbrev nuQ (i : Int) : AV := .pl (.int .u32 i)
abbrev iaQ (f : Nat -> Int) : AV := .iarr .u8 32 f
end Go.SP

namespace Go.SP
open Go Go.Am
def atoiV (s : Bs) : Int × Bool := match Lib.atoiAll s with
 | .ok v => (v, false)
 | .range => (Lib.atoiSat s, true)
 | _ => (0, true)
def hexD (n : Nat) : UInt8 := if n < 10 then UInt8.ofNat (48 + n) else UInt8.ofNat (87 + n)
def qte (c : UInt8) : Bs :=
 bif c == 34 || c == 92 then [92, c] else bif c == 10 then [92, 110] else bif c == 13 then [92, 114]
 else bif decide (c < 32) || decide (c > 126) then [92, 120, hexD (c.toNat / 16), hexD (c.toNat % 16)] else [c]
theorem qte1 {c : UInt8} (h : c = 34 ∨ c = 92) : qte c = [92, c] := by rcases h with rfl | rfl <;> rfl
theorem qte4 {c : UInt8} (h1 : ¬ (c = 34 ∨ c = 92)) (h2 : c ≠ 10) (h3 : c ≠ 13) (h4 : c.toNat < 32 ∨ c.toNat > 126) : qte c = [92, 120, hexD (c.toNat / 16), hexD (c.toNat % 16)] := by
 have e1 : (c == 34 || c == 92) = false := by simp only [Bool.or_eq_false_iff, beq_eq_false_iff_ne]; exact ⟨λ e => h1 (.inl e), λ e => h1 (.inr e)⟩
 have e2 : (c == 10) = false := beq_eq_false_iff_ne.2 h2
 have e3 : (c == 13) = false := beq_eq_false_iff_ne.2 h3
 have e4 : (decide (c < 32) || decide (c > 126)) = true := by
  simp only [Bool.or_eq_true, decide_eq_true_eq, UInt8.lt_iff_toNat_lt, gt_iff_lt]
  exact h4
 simp only [qte, e1, e2, e3, e4, cond_true, cond_false]
theorem qte5 {c : UInt8} (h1 : ¬ (c = 34 ∨ c = 92)) (h2 : c ≠ 10) (h3 : c ≠ 13) (h4 : ¬ (c.toNat < 32 ∨ c.toNat > 126)) : qte c = [c] := by
 have e1 : (c == 34 || c == 92) = false := by simp only [Bool.or_eq_false_iff, beq_eq_false_iff_ne]; exact ⟨λ e => h1 (.inl e), λ e => h1 (.inr e)⟩
 have e2 : (c == 10) = false := beq_eq_false_iff_ne.2 h2
 have e3 : (c == 13) = false := beq_eq_false_iff_ne.2 h3
 have e4 : (decide (c < 32) || decide (c > 126)) = false := by
  rw [Bool.eq_false_iff]
  simp only [ne_eq, Bool.or_eq_true, decide_eq_true_eq, UInt8.lt_iff_toNat_lt, gt_iff_lt]
  exact h4
 simp only [qte, e1, e2, e3, e4, cond_false]
theorem qte_len (c : UInt8) : (qte c).length <= 4 := by
 unfold qte
 cases c == 34 || c == 92 <;> cases c == 10 <;> cases c == 13 <;> cases decide (c < 32) || decide (c > 126) <;> simp
def quoteL (s : Bs) : Bs := s.flatMap qte
def txt (s : Bs) : Bs := [32, 34] ++ quoteL s ++ [34]
def txts (l : List Bs) : Bs := l.flatMap txt
def numL (n : Int) : Bs := 32 :: Lib.itoa n
def nums (l : List Int) : Bs := l.flatMap numL
structure Rd where
 rest : Bs
 bad : Bool
def blankR (r : Rd) : Bs × Rd := ((cutL 32 r.rest).1, ⟨(cutL 32 r.rest).2.1, r.bad || ((cutL 32 r.rest).2.2 && (cutL 32 r.rest).2.1 == [])⟩)
def moreR (r : Rd) : Bool := !r.bad && !(r.rest == [])
def numberR (r : Rd) : Int × Rd :=
 ((atoiV (blankR r).1).1, ⟨(blankR r).2.rest, (blankR r).2.bad || (atoiV (blankR r).1).2 || !(Lib.itoa (atoiV (blankR r).1).1 == (blankR r).1)⟩)
def hexV (c : UInt8) : Option Nat :=
 if 48 <= c.toNat /\ c.toNat <= 57 then some (c.toNat - 48) else if 97 <= (c ||| 32).toNat /\ (c ||| 32).toNat <= 102 then some ((c ||| 32).toNat - 87) else none
def hexGo : Nat -> Bs -> Option Nat
 | n, [] => some n
 | n, c :: t => match hexV c with
  | some d => hexGo (16 * n + d) t
  | none => none
def hex16 (h : Bs) : Option Nat := match h with
 | [] => none
 | h => hexGo 0 h
def escD (d : UInt8) : UInt8 := if d = 110 then 10 else if d = 114 then 13 else d
def scan : Nat -> Bs -> Nat -> Bs -> Bool × Bs × Option Nat
 | 0, _, _, b => (true, b, none)
 | _ + 1, [], _, b => (true, b, none)
 | f + 1, c :: t, i, b => if c = 34 then (true, b, some i) else if c = 92 then (match t with
   | [] => (true, b, none)
   | d :: u => if d = 120 then (match hex16 (u.take 2) with
     | some v => scan f (u.drop 2) (i + 4) (b ++ [UInt8.ofNat v])
     | none => (false, b, none)) else scan f u (i + 2) (b ++ [escD d]))
  else scan f t (i + 1) (b ++ [c])
theorem scan_fuel : ∀ (f g : Nat) (l : Bs) (i : Nat) (b : Bs), l.length < f -> l.length < g -> (scan f l i b).1 = (scan g l i b).1 /\ (scan f l i b).2.2 = (scan g l i b).2.2 /\ ((scan f l i b).2.2 ≠ none -> (scan f l i b).2.1 = (scan g l i b).2.1) := by
 intro f
 induction f with
 | zero => intro g l i b h; omega
 | succ f ih =>
  intro g l i b hf hg
  cases g with
  | zero => omega
  | succ g =>
   cases l with
   | nil => simp [scan]
   | cons c t =>
    simp only [List.length_cons] at hf hg
    simp only [scan]
    split
    ·exact ⟨rfl, rfl, λ _ => rfl⟩
    ·split
     ·cases t with
      | nil => exact ⟨rfl, rfl, λ _ => rfl⟩
      | cons d u =>
       simp only [List.length_cons] at hf hg
       dsimp only
       split
       ·split
        ·exact ih _ _ _ _ (by simp; omega) (by simp; omega)
        ·exact ⟨rfl, rfl, λ _ => rfl⟩
       ·exact ih _ _ _ _ (by omega) (by omega)
     ·exact ih _ _ _ _ (by omega) (by omega)
def textGo (s : Bs) (b : Bool) : Bool × Bs × Option Nat := match b with
 | true => scan (s.length + 1) s 0 []
 | false => (false, [], none)
def cutPre (p l : Bs) : Bs := bif p.isPrefixOf l then l.drop p.length else l
def textEnd (r : Rd) (s b : Bs) (e : Nat) : Bs × Rd :=
 (b, ⟨cutPre [32] (s.drop (e + 1)), r.bad || !(txt b == [32, 34] ++ s.take (e + 1)) || (!(s.drop (e + 1) == []) && (!([32] : Bs).isPrefixOf (s.drop (e + 1)) || cutPre [32] (s.drop (e + 1)) == []))⟩)
def textR (r : Rd) : Bs × Rd := match textGo (cutPre [34] r.rest) (([34] : Bs).isPrefixOf r.rest) with
 |(true, b, some e) => textEnd r (cutPre [34] r.rest) b e
 | _ => ([], ⟨[], true⟩)
def changeR (r : Rd) : (Bs × Bool × Bs) × Rd :=
 bif ([45] : Bs).isPrefixOf (textR r).2.rest && (cutPre [45] (textR r).2.rest == [] || (cutPre [45] (textR r).2.rest).getD 0 0 == 32) then
  (((textR r).1, false, []), (blankR (textR r).2).2)
 else (((textR r).1, true, (textR (textR r).2).1), (textR (textR r).2).2)
end Go.SP
