/- Regions that draw the order of their operations: what yields its value in every world in which the old blocks lie as they did may be taken first. Regions that draw, on abstract states. A state that knows less, its objects renamed: for the head of a loop. Functions that are ranged over: a base of one's own, one environment behind another, a loop by a relation. A range over a function. The condition of code with loops, by annotations. The code of a function that is ranged over: its condition. Tables of contracts; what may be taken as given of arguments; results in another form. The model's entry slices.overlaps at two rows of one's own: they do not overlap. Keys of maps: numbers, strings, structs of two numbers. From the arguments of a law, as they are read, to abstract values; and from a contract to what a law asks. -/
import Derived.Test.YtbjonljojnjceaaMB
import Derived.OrdersIn
import Derived.RangeFuncIn
import Derived.Lib.Overlaps
import Derived.ProofKit
import Derived.OpenShut
namespace Go.Am
open Go.RowKit

section act
variable {n : Nat} {P : Program} {ops : Array Oper} {Q : Exit → Act → World → Prop} {S : World → Prop} {late : Nat → Bool}

/-- In every world of S the operation yields v and does nothing else. -/
def YieldsS (P : Program) (ops : Array Oper) (S : World → Prop) (o : Oper) (v : Value) (a : Act) : Prop :=
  (Region.wanted o (yielded ops a.tmps) = true ∧ ∀ w, S w → (execOp a.eval o).run P w = .ok (.value v) w) ∨ (Region.wanted o (yielded ops a.tmps) = false ∧ v = undef)

/-- Whatever comes up next; as long as no late one has come, what is not late leaves S. -/
def anyS (n : Nat) (P : Program) (ops : Array Oper) (Q : Exit → Act → World → Prop) (S : World → Prop) (late : Nat → Bool) : Nat → Bool → Array Bool → Act → World → Prop
  | 0, _, listed, a, w => Region.ready .any ops listed = [] ∧ Q .normal a w
  | fuel + 1, ok, listed, a, w => (Region.ready .any ops listed = [] → Q .normal a w) ∧
    ∀ i ∈ Region.ready .any ops listed, wpOpIn (wideR none) n P ops Q i (fun a' w' => (ok = true → late i = false → S w → S w') ∧ anyS n P ops Q S late fuel (ok && !late i) (listed.setIfInBounds i true) a' w') a w

theorem anyS_any : ∀ (fuel : Nat) (ok : Bool) (listed : Array Bool) (a : Act) (w : World), anyS n P ops Q S late fuel ok listed a w → wpAnyIn (wideR none) n P .any ops Q fuel listed a w
  | 0, _, _, _, _, h => h
  | fuel + 1, _, _, _, _, h => ⟨h.1, fun i hi => wpOpIn_mono (fun a' w' h' => anyS_any fuel _ _ a' w' h'.2) (h.2 i hi)⟩

theorem YieldsS.of_same {o : Oper} {v : Value} {a a' : Act} (hy : YieldsS P ops S o v a) (he : execOp a'.eval o = execOp a.eval o)
    (hw : Region.wanted o (yielded ops a'.tmps) = Region.wanted o (yielded ops a.tmps)) : YieldsS P ops S o v a' := by
  unfold YieldsS at *
  rw [he, hw]
  exact hy

theorem YieldsS.op {i : Nat} {o : Oper} {v : Value} {a : Act} (hi : ops[i]? = some o) (hy : YieldsS P ops S o v a) {K : Act → World → Prop} {w : World} (hS : S w) (h : K (a.put o.dst v) w) :
    wpOpIn (wideR none) n P ops Q i K a w := by
  unfold wpOpIn
  simp only [hi]
  rcases hy with ⟨hw, hv⟩ | ⟨hw, rfl⟩
  · rw [if_pos hw]
    refine ⟨fun _ _ => trivial, ?_⟩
    have : (wideR none).round = none := rfl
    rw [this, Oper.semAt_none, hv w hS, Oper.uponIn_value]
    exact h
  · rw [if_neg (by rw [hw]; simp)]
    exact ⟨fun _ _ => trivial, h⟩

theorem wpOpIn_putS {j : Nat} {oi oj : Oper} {v : Value} (hj : ops[j]? = some oj) (hap : oi.apart ops oj = true)
    (hsi : ∀ cs b, oi.op ≠ .select cs b) (hsj : ∀ cs b, oj.op ≠ .select cs b)
    (hQ : ∀ c a w, Q (.panic c) (a.put oi.dst v) w → Q (.panic c) a w) {K : Act → World → Prop} {a : Act} {w : World}
    (hy : YieldsS P ops S oi v a) (h : wpOpIn (wideR none) n P ops Q j K (a.put oi.dst v) w) :
    wpOpIn (wideR none) n P ops Q j (fun a' w' => YieldsS P ops S oi v a' ∧ K (a'.put oi.dst v) w') a w := by
  obtain ⟨h1, h2, h3⟩ := Oper.apart_spec hap
  have keep : ∀ (a : Act), YieldsS P ops S oi v a → ∀ u, YieldsS P ops S oi v (a.put oj.dst u) := fun a hy u =>
    hy.of_same (execOp_put oi hsi a oj.dst u h3) (wanted_put oi a oj.dst u h3)
  have keepD : ∀ d, YieldsS P ops S oi v { a with defers := d :: a.defers } := fun d => hy.of_same rfl rfl
  have hro : (wideR none).round = none := rfl
  unfold wpOpIn at *
  simp only [hj] at *
  rw [wanted_put oj a oi.dst v h1] at h
  split
  · rename_i hw
    rw [if_pos hw] at h
    unfold Oper.wpIn at *
    refine ⟨fun _ _ => trivial, ?_⟩
    have h := h.2
    rw [hro, Oper.semAt_none, execOp_put oj hsj a oi.dst v h1] at h
    rw [hro, Oper.semAt_none]
    generalize (execOp a.eval oj).run P w = r at *
    cases r with
    | ok x w' =>
      cases x <;> simp only [Oper.uponIn] at h ⊢
      case value u => exact ⟨keep a hy u, by rw [← Act.put_comm a v u h2]; exact h⟩
      case skip => exact ⟨keep a hy _, by rw [← Act.put_comm a v undef h2]; exact h⟩
      case defer d =>
        refine ⟨keep _ (keepD d) _, ?_⟩
        rw [← Act.put_comm _ v undef h2, ← Act.put_defers]
        exact h
      case enter f args =>
        refine ⟨h.1, CallsIn.mono h.2 fun e w'' he => ?_⟩
        cases e with
        | returned u => exact ⟨keep a hy u, by rw [← Act.put_comm a v u h2]; exact he⟩
        | panicked c => exact hQ _ _ _ he
        | outgrown => exact he
      case row row args => exact ⟨h.1, RowsIn.mono h.2 fun u w'' he => ⟨keep a hy u, by rw [← Act.put_comm a v u h2]; exact he⟩⟩
      case round l f tmps assign body =>
        refine ⟨h.1, RoundIn.mono h.2 fun e w'' he => ?_⟩
        cases e with
        | returned u => exact ⟨keep a hy u, by rw [← Act.put_comm a v u h2]; exact he⟩
        | panicked c => exact hQ _ _ _ he
        | outgrown => exact he
    | halt x w' =>
      cases x <;> simp only [Oper.uponIn] at h ⊢
      case panic u => exact hQ _ _ _ h
  · rename_i hw
    rw [if_neg hw] at h
    exact ⟨fun _ _ => trivial, keep a hy _, by rw [← Act.put_comm a v undef h2]; exact h.2⟩

/-- Does operation j wait for operation i, through however many others? -/
def anc (ops : Array Oper) : Nat → Nat → Nat → Bool
  | 0, _, _ => false
  | f + 1, j, i => match ops[j]? with
    | none => false
    | some o => o.after.any fun e => Region.binds .any e && (e.on == i || anc ops f e.on i)

/-- What is listed has all that it waits for listed. -/
def Closed (ops : Array Oper) (listed : Array Bool) : Prop :=
  ∀ k o, ops[k]? = some o → listed.getD k false = true → ∀ e ∈ o.after, Region.binds .any e = true → listed.getD e.on false = true

theorem anc_listed {listed : Array Bool} (hc : Closed ops listed) {i : Nat} : ∀ (f j : Nat), (listed.getD j false = true ∨ j ∈ Region.ready .any ops listed) → anc ops f j i = true → listed.getD i false = true := by
  intro f
  induction f with
  | zero => intro j _ h; simp [anc] at h
  | succ f ih =>
    intro j hj h
    simp only [anc] at h
    split at h
    · cases h
    · rename_i o ho
      rw [Array.any_eq_true'] at h
      obtain ⟨e, he, hb⟩ := h
      simp only [Bool.and_eq_true, Bool.or_eq_true, beq_iff_eq] at hb
      have hl : listed.getD e.on false = true := by
        rcases hj with hj | hj
        · exact hc j o ho hj e he hb.1
        · obtain ⟨_, o', ho', hall⟩ := mem_ready.1 hj
          rw [ho] at ho'
          injection ho' with ho'
          subst ho'
          exact hall e he hb.1
      rcases hb.2 with h2 | h2
      · rw [← h2]; exact hl
      · exact ih e.on (.inl hl) h2

theorem Closed.list {listed : Array Bool} (hc : Closed ops listed) {j : Nat} (hj : j ∈ Region.ready .any ops listed) : Closed ops (listed.setIfInBounds j true) := by
  intro k o ho hk e he hb
  obtain ⟨_, o', ho', hall⟩ := mem_ready.1 hj
  by_cases hjk : j = k
  · subst hjk
    rw [ho] at ho'
    injection ho' with ho'
    subst ho'
    exact getD_set_true (hall e he hb)
  · rw [getD_set_ne false hjk] at hk
    exact getD_set_true (hc k o ho hk e he hb)

theorem ready_unlisted {listed : Array Bool} {i : Nat} (h : i ∈ Region.ready .any ops listed) : listed.getD i false = false := by
  have h0 := (mem_ready.1 h).1
  rcases Nat.lt_or_ge i listed.size with h' | h'
  · simp [h'] at h0 ⊢; exact h0
  · simp [Array.getElem?_eq_none h']

theorem anyS_first {i : Nat} {oi : Oper} {v : Value} (hi : ops[i]? = some oi) (hsel : ∀ (j : Nat) (o : Oper) cs b, ops[j]? = some o → o.op ≠ .select cs b)
    (hQ : ∀ c a w, Q (.panic c) (a.put oi.dst v) w → Q (.panic c) a w) {T : World → Prop} {f0 : Nat} (hT : (∀ w, T w) ∨ ((∀ w, S w → T w) ∧ ∀ j, late j = true → j ≠ i → anc ops f0 j i = true)) :
    ∀ (fuel : Nat) (ok : Bool) (listed : Array Bool) (a : Act) (w : World),
      (∀ j oj, ops[j]? = some oj → j ≠ i → listed.getD j true = false → (∀ e ∈ oj.after, Region.binds .any e = true → e.on ≠ i) → oi.apart ops oj = true) →
      i ∈ Region.ready .any ops listed → Closed ops listed → YieldsS P ops T oi v a → ((∀ w, T w) ∨ (ok = true ∧ S w)) →
      anyS n P ops Q S late fuel ok (listed.setIfInBounds i true) (a.put oi.dst v) w → anyS n P ops Q S late (fuel + 1) ok listed a w := by
  have weak : ∀ (fuel : Nat) (ok ok' : Bool) (listed : Array Bool) (a : Act) (w : World), (ok' = true → ok = true) → anyS n P ops Q S late fuel ok listed a w → anyS n P ops Q S late fuel ok' listed a w := by
    intro fuel
    induction fuel with
    | zero => intro ok ok' listed a w _ h; exact h
    | succ fuel ih =>
      intro ok ok' listed a w hok h
      refine ⟨h.1, fun i hi => wpOpIn_mono (fun a' w' h' => ⟨fun h1 h2 h3 => h'.1 (hok h1) h2 h3, ih _ _ _ _ _ (fun h9 => ?_) h'.2⟩) (h.2 i hi)⟩
      simp only [Bool.and_eq_true] at h9 ⊢
      exact ⟨hok h9.1, h9.2⟩
  have htw : ∀ w ok, ((∀ w, T w) ∨ (ok = true ∧ S w)) → T w := fun w ok hw => by
    rcases hw with h | h
    · exact h w
    · rcases hT with h' | h'
      · exact h' w
      · exact h'.1 w h.2
  intro fuel
  induction fuel with
  | zero =>
    intro ok listed a w _ hr hc hy hS H
    refine ⟨fun h => (by rw [h] at hr; cases hr), fun j hj => ?_⟩
    by_cases hji : j = i
    · subst hji; exact hy.op hi (htw w ok hS) ⟨fun _ _ h => h, H⟩
    · have := ready_mono hj hji
      rw [H.1] at this
      cases this
  | succ fuel ih =>
    intro ok listed a w hfree hr hc hy hS H
    refine ⟨fun h => (by rw [h] at hr; cases hr), fun j hj => ?_⟩
    by_cases hji : j = i
    · subst hji; exact hy.op hi (htw w ok hS) ⟨fun _ _ h => h, weak _ _ _ _ _ _ (fun h9 => by simp only [Bool.and_eq_true] at h9; exact h9.1) H⟩
    · have h1 := H.2 j (ready_mono hj hji)
      obtain ⟨hjun, oj, hoj, hall⟩ := mem_ready.1 hj
      have hun := ready_unlisted hr
      have hnot : ∀ e ∈ oj.after, Region.binds .any e = true → e.on ≠ i := fun e he hb heq => by
        have h1 := hall e he hb
        rw [heq, hun] at h1
        cases h1
      have hjl : (∀ w, T w) ∨ late j = false := by
        rcases hT with h' | ⟨_, hlate⟩
        · exact .inl h'
        cases hl : late j with
        | false => exact .inr rfl
        | true =>
          have := anc_listed hc f0 j (.inr hj) (hlate j hl hji)
          rw [hun] at this
          cases this
      have h2 := wpOpIn_putS hoj (hfree j oj hoj hji hjun hnot) (fun cs b => hsel i oi cs b hi) (fun cs b => hsel j oj cs b hoj) hQ hy h1
      have hfree' : ∀ k ok, ops[k]? = some ok → k ≠ i → (listed.setIfInBounds j true).getD k true = false →
          (∀ e ∈ ok.after, Region.binds .any e = true → e.on ≠ i) → oi.apart ops ok = true := fun k ok hk hki hun hno => by
        refine hfree k ok hk hki ?_ hno
        by_cases hjk : j = k
        · subst hjk; exact hjun
        · rw [getD_set_ne true hjk] at hun; exact hun
      refine wpOpIn_mono (fun a' w' h3 => ⟨h3.2.1, ih (ok && !late j) (listed.setIfInBounds j true) a' w' hfree' (ready_mono hr (Ne.symm hji)) (hc.list hj) h3.1 (by
        rcases hjl with h' | h'
        · exact .inl h'
        · rcases hS with hS | ⟨hok, hS⟩
          · exact .inl hS
          · exact .inr ⟨by rw [hok, h']; rfl, h3.2.1 hok h' hS⟩) ?_⟩) h2
      rw [Array.setIfInBounds_comm _ _ hji]
      exact h3.2.2

end act
end Go.Am

namespace Go.Am
open Go.RowKit

section
variable {P : Program} {E0 E : Env}

theorem guard_spec {s : St} {a : Act} {opt : Opt} {ops : Array Oper} {j t : Nat} {want gb : Bool} (g : GamS E0 E s a) (hopt : OptOk E a.tmps opt) (ht : (ops[j]?).bind (·.dst) = some t) (hgb : guardOf s opt t want = some gb) :
    (yielded ops a.tmps j == some want) = gb ∧ (gb = true ↔ says a.tmps (t, want)) := by
  have hy : (yielded ops a.tmps j == some want) = gb := by
    unfold guardOf at hgb
    split at hgb
    · rename_i q b g0 hl
      injection hgb with hgb
      rw [gEq_eq] at hgb
      obtain ⟨h1, h2, h3, _⟩ := hopt t q b _ (look_mem hl)
      have hget : a.tmps[t]? = some (a.tmps.getD t undef) := by rw [Array.getD_eq_getD_getElem?, Array.getElem?_eq_getElem h3]; rfl
      cases b with
      | true =>
        have h4 := repV_pl (h1 rfl)
        simp only [yielded, ht, Option.bind_some, hget, h4]
        rw [← hgb]
        cases g0 <;> cases want <;> rfl
      | false =>
        have h4 := h2 rfl
        simp only [yielded, ht, Option.bind_some, hget, h4]
        rw [← hgb]
        rfl
    · rename_i q b hl
      injection hgb with hgb
      obtain ⟨h1, h2, h3, _⟩ := hopt t q b _ (look_mem hl)
      have hget : a.tmps[t]? = some (a.tmps.getD t undef) := by rw [Array.getD_eq_getD_getElem?, Array.getElem?_eq_getElem h3]; rfl
      rw [← hgb]
      cases b with
      | true =>
        obtain ⟨vs, h4, _⟩ := h1 rfl
        simp only [yielded, ht, Option.bind_some, hget, h4]
        rfl
      | false =>
        have h4 := h2 rfl
        simp only [yielded, ht, Option.bind_some, hget, h4]
        rfl
    · cases hgb
    · split at hgb
      · rename_i b hb
        injection hgb with hgb
        rw [gEq_eq] at hgb
        simp only [yielded, ht, Option.bind_some, g.val hb]
        rw [← hgb]
        cases b <;> cases want <;> rfl
      · rename_i hb
        injection hgb with hgb
        have h1 := get_lt hb (by simp)
        have hlt : t < a.tmps.size := by rw [g.slots.1]; exact (List.getElem?_eq_some_iff.1 h1).1
        obtain ⟨vs, h2, _⟩ := g.slots.2 t a.tmps[t] _ (Array.getElem?_eq_getElem hlt) h1
        simp only [yielded, ht, Option.bind_some, Array.getElem?_eq_getElem hlt, h2]
        rw [← hgb]
        rfl
      · cases hgb
  refine ⟨hy, ?_⟩
  rw [← hy]
  unfold says
  simp only [yielded, ht, Option.bind_some, beq_iff_eq]
  constructor
  · intro h9
    split at h9
    · rename_i b hb
      injection h9 with h9
      rw [hb, h9]
    · cases h9
  · intro h9
    rw [h9]

theorem OptOk.add {a : Act} {s : St} {opt : Opt} (hopt : OptOk E a.tmps opt) (hsl : SlotsOk E a.tmps s.slots) {d : Option Nat} (hin9 : inSlots s d = true) {t : Nat} {want gb : Bool} (hsay : gb = true ↔ says a.tmps (t, want)) {v : Value} {x : AV}
    (hv : (gb = true → RepV E v x) ∧ (gb = false → v = undef)) : OptOk E (a.put d v).tmps (addO (delO opt d) d (t, want) gb x) := by
  intro t' q' b' x' hm
  cases hdst : d with
  | none =>
    rw [hdst] at hm
    simp only [addO, delO] at hm
    simpa [Act.put] using hopt t' q' b' x' hm
  | some d =>
    subst hdst
    simp only [addO, delO] at hm
    split at hm
    · exact (OptOk.del hopt (some d) v) t' q' b' x' hm
    · rename_i hdt
      rcases List.mem_cons.1 hm with hm | hm
      · simp only [Prod.mk.injEq] at hm
        obtain ⟨rfl, rfl, rfl, rfl⟩ := hm
        have hin : t' < a.tmps.size := by
          have h9 := hin9
          simp only [inSlots, Nat.blt_eq] at h9
          rw [hsl.1]
          exact h9
        have : (a.put (some t') v).tmps.getD t' undef = v := by
          rw [Array.getD_eq_getD_getElem?]
          simp [Act.put, hin]
        rw [this, put_size]
        refine ⟨hv.1, hv.2, hin, ?_⟩
        unfold says at hsay ⊢
        rw [put_get (fun w hw => by injection hw with hw; subst hw; exact fun e => hdt e.symm)]
        exact hsay
      · exact (OptOk.del hopt (some d) v) t' q' b' x' hm

/-- A step that only looks: the test, what must hold, the state behind it. -/
structure Quiet where
  gd : Option Bool
  ps : List Prop
  s : St
  opt : Opt
def Quiet.under (q : Quiet) (X : Prop) : Prop := match q.gd with
  | none => allP q.ps X
  | some g => underP g q.ps X
def Quiet.holds (q : Quiet) : Prop := match q.gd with
  | none => holdP q.ps
  | some g => g = true → holdP q.ps
theorem Quiet.under_iff (q : Quiet) (X : Prop) : q.under X ↔ q.holds ∧ X := by
  unfold Quiet.under Quiet.holds
  split
  · exact allP_iff _ _
  · exact underP_iff _ _ _

def pureStep (P : Program) (ops : Array Oper) (s : St) (opt : Opt) (o : Oper) : Option Quiet := match o.guard with
  | none => match pureOpt P none s opt o with
    | some (p, x) => some ⟨none, p, s.put o.dst x, delO opt o.dst⟩
    | none => none
  | some (j, want) => match (ops[j]?).bind (·.dst) with
    | none => none
    | some t => match litOf opt t want with
      | some true => match pureOpt P none s opt o with
        | some (p, x) => some ⟨none, p, s.put o.dst x, delO opt o.dst⟩
        | none => none
      | some false => some ⟨none, [], s.put o.dst (.tup []), delO opt o.dst⟩
      | none => match guardOf s opt t want with
        | none => none
        | some g => match pureOpt P (some (t, want)) s opt o with
          | some (p, x) => match inSlots s o.dst with
            | true => some ⟨some g, p, s.put o.dst .any, addO (delO opt o.dst) o.dst (t, want) g x⟩
            | false => none
          | none => none

theorem pureStep_sound {T : World → Prop} {ops : Array Oper} {s : St} {a : Act} {opt : Opt} {o : Oper} {q : Quiet} (hT : isLoad o.op = true → ∀ w, T w → Same E w) (g : GamS E0 E s a) (hopt : OptOk E a.tmps opt)
    (h : pureStep P ops s opt o = some q) (hq : q.holds) : ∃ v, YieldsS P ops T o v a ∧ GamS E0 E q.s (a.put o.dst v) ∧ OptOk E (a.put o.dst v).tmps q.opt := by
  unfold pureStep at h
  have hk0 : Known a.tmps none := fun q hq => by cases hq
  split at h
  · rename_i hg
    split at h
    · rename_i p x hpu
      injection h with h
      subst h
      obtain ⟨⟨v, hrun, hv⟩, _⟩ := run_pureOptS hT g hopt hk0 hpu hq
      exact ⟨v, .inl ⟨by simp [Region.wanted, hg], hrun⟩, ⟨by cases o.dst <;> exact g.toGam, g.slots.put o.dst hv⟩, hopt.del o.dst v⟩
    · cases h
  · rename_i j want hg
    split at h
    · cases h
    · rename_i t ht
      split at h
      · rename_i hlit
        split at h
        · rename_i p x hpu
          injection h with h
          subst h
          obtain ⟨⟨v, hrun, hv⟩, _⟩ := run_pureOptS hT g hopt hk0 hpu hq
          exact ⟨v, .inl ⟨by simp only [Region.wanted, hg]; exact lit_yields hopt ht hlit, hrun⟩, ⟨by cases o.dst <;> exact g.toGam, g.slots.put o.dst hv⟩, hopt.del o.dst v⟩
        · cases h
      · rename_i hlit
        injection h with h
        subst h
        exact ⟨undef, .inr ⟨by simp only [Region.wanted, hg]; exact lit_yields hopt ht hlit, rfl⟩, ⟨by cases o.dst <;> exact g.toGam, g.slots.put o.dst (show RepV E undef (.tup []) from ⟨[], rfl, rfl, fun i u x hu => by simp at hu⟩)⟩, hopt.del o.dst undef⟩
      split at h
      · cases h
      · rename_i gb hgb
        obtain ⟨hy, hsay⟩ := guard_spec g hopt ht hgb
        split at h
        · rename_i p x hpu
          split at h
          · rename_i hin
            injection h with h
            subst h
            have step : ∀ v, ((gb = true → RepV E v x) ∧ (gb = false → v = undef)) → GamS E0 E (s.put o.dst .any) (a.put o.dst v) ∧ OptOk E (a.put o.dst v).tmps (addO (delO opt o.dst) o.dst (t, want) gb x) := fun v hv =>
              ⟨⟨by cases o.dst <;> exact g.toGam, g.slots.put o.dst (show RepV E v .any from trivial)⟩, hopt.add g.slots hin hsay hv⟩
            cases hgb' : gb with
            | true =>
              obtain ⟨⟨v, hrun, hv⟩, _⟩ := run_pureOptS hT g hopt (fun q hq => by injection hq with hq; subst hq; exact hsay.1 hgb') hpu (hq hgb')
              obtain ⟨h1, h2⟩ := step v ⟨fun _ => hv, fun hh => by rw [hgb'] at hh; cases hh⟩
              rw [hgb'] at h2
              exact ⟨v, .inl ⟨by simp only [Region.wanted, hg]; rw [hy]; exact hgb', hrun⟩, h1, h2⟩
            | false =>
              obtain ⟨h1, h2⟩ := step undef ⟨fun hh => (by rw [hgb'] at hh; cases hh), fun _ => rfl⟩
              rw [hgb'] at h2
              exact ⟨undef, .inr ⟨by simp only [Region.wanted, hg]; rw [hy]; exact hgb', rfl⟩, h1, h2⟩
          · cases h
        · cases h


theorem YieldsS.unique {ops : Array Oper} {T T' : World → Prop} {o : Oper} {v v' : Value} {a : Act} {w : World} (h : YieldsS P ops T o v a) (h' : YieldsS P ops T' o v' a) (hw : T w) (hw' : T' w) : v = v' := by
  rcases h with ⟨h1, h2⟩ | ⟨h1, h2⟩ <;> rcases h' with ⟨h3, h4⟩ | ⟨h3, h4⟩
  · have e1 := h2 w hw
    have e2 := h4 w hw'
    rw [e1] at e2
    injection e2 with e2
    injection e2
  · rw [h1] at h3; cases h3
  · rw [h1] at h3; cases h3
  · rw [h2, h4]

theorem quiet_heap {ops : Array Oper} {s : St} {opt : Opt} {o : Oper} {q : Quiet} (h : pureStep P ops s opt o = some q) : q.s.heap = s.heap := by
  have hp : ∀ (d : Option Nat) (x : AV), (s.put d x).heap = s.heap := fun d x => by cases d <;> rfl
  unfold pureStep at h
  split at h
  · split at h
    · injection h with h; subst h; exact hp _ _
    · cases h
  · split at h
    · cases h
    · split at h
      · split at h
        · injection h with h; subst h; exact hp _ _
        · cases h
      · injection h with h; subst h; exact hp _ _
      · split at h
        · cases h
        · split at h
          · split at h
            · injection h with h; subst h; exact hp _ _
            · cases h
          · cases h

/-- A value as far as it is known without any world. -/
def flatAV (x : AV) : AV := match flatB x with
  | true => x
  | false => .any
def putFlat (b : St) (d : Option Nat) (s' : St) : St := match d with
  | none => b
  | some t => b.put (some t) (flatAV (s'.get t))

/-- An operation that may be taken first: which, where it leaves its value, what it does to the start's state and to this one. -/
structure Take where
  i : Nat
  d : Option Nat
  b : Option Quiet
  q : Quiet

/-- A choice between what is not known: nothing is said of it. -/
def dimPick (s : St) (opt : Opt) (o : Oper) : Bool := match o.op with
  | .pick _ x y => match (optEv s opt x).2.2, (optEv s opt y).2.2 with
    | .pl (.bool _), .pl (.bool _) => false
    | _, _ => true
  | _ => false
def dimStep (P : Program) (ops : Array Oper) (s : St) (opt : Opt) (o : Oper) : Option Quiet := match dimPick s opt o with
  | true => none
  | false => pureStep P ops s opt o
theorem dimStep_some {ops : Array Oper} {s : St} {opt : Opt} {o : Oper} {q : Quiet} (h : dimStep P ops s opt o = some q) : pureStep P ops s opt o = some q := by
  unfold dimStep at h
  split at h
  · cases h
  · exact h

def takeOne (P : Program) (ops : Array Oper) (listed : Array Bool) (okS : Bool) (b : St) (ob : Opt) (s : St) (opt : Opt) : List Nat → Option Take
  | [] => none
  | i :: is => match ops[i]? with
    | none => takeOne P ops listed okS b ob s opt is
    | some o => match Region.free .any ops listed i with
      | false => takeOne P ops listed okS b ob s opt is
      | true => match pureStep P ops s opt o with
        | none => takeOne P ops listed okS b ob s opt is
        | some q => match isLoad o.op with
          | false => some ⟨i, o.dst, dimStep P ops b ob o, q⟩
          | true => match okS with
            | false => takeOne P ops listed okS b ob s opt is
            | true => match pureStep P ops b ob o with
              | some qb => some ⟨i, o.dst, some qb, q⟩
              | none => takeOne P ops listed okS b ob s opt is

/-- Does an operation come behind all that read the memory? -/
def lateB (ops : Array Oper) (j : Nat) : Bool := (List.range ops.size).all fun i => i == j || anc ops ops.size j i || match ops[i]? with
  | some o => !isLoad o.op
  | none => true
def memB : List Nat → Nat → Bool
  | [], _ => false
  | k :: ks, q => match Nat.beq q k with
    | true => true
    | false => memB ks q
/-- The names of objects that are left out of sight. -/
def hdN (ts : List Nat) (l : Nat) : Option Nat := match memB ts l with
  | true => none
  | false => some l
def hideO (ts : List Nat) : Nat → List LObj → List LObj
  | _, [] => []
  | i, o :: os => (match memB ts i with
    | true => .dead
    | false => mapO (hdN ts) o) :: hideO ts (i + 1) os
def hideS (ts : List Nat) (s : St) : St := match ts with
  | [] => s
  | t :: ts => ⟨mapL (hdN (t :: ts)) s.slots, hideO (t :: ts) 0 s.heap⟩
def Env.hide (E : Env) (ts : List Nat) : Env := { E with loc := fun l => match memB ts l with
  | true => none
  | false => E.loc l }
theorem hideO_get (ts : List Nat) : ∀ (os : List LObj) (i l : Nat), (hideO ts i os)[l]? = (os[l]?).map fun o => match memB ts (i + l) with
    | true => .dead
    | false => mapO (hdN ts) o := by
  intro os
  induction os with
  | nil => intro i l; simp [hideO]
  | cons o os ih =>
    intro i l
    cases l with
    | zero => simp [hideO]
    | succ l =>
      simp only [hideO, List.getElem?_cons_succ]
      rw [ih (i + 1) l, show i + 1 + l = i + (l + 1) by omega]

theorem gam_hide {s : St} {a : Act} (g : GamS E0 E s a) (ts : List Nat) : GamS E0 (E.hide ts) (hideS ts s) a := by
  cases ts with
  | nil => exact g
  | cons t ts =>
    have hl : ∀ l L, (E.hide (t :: ts)).loc l = some L → E.loc l = some L ∧ memB (t :: ts) l = false := by
      intro l L h
      simp only [Env.hide] at h
      split at h
      · cases h
      · rename_i hm; exact ⟨h, hm⟩
    have hm : ∀ l, memB (t :: ts) l = false → (E.hide (t :: ts)).loc l = E.loc l := fun l h => by simp only [Env.hide, h]
    have e : ExtMap (hdN (t :: ts)) E (E.hide (t :: ts)) := ⟨fun _ h => h, fun _ _ => rfl, fun q q' L hq hL => by
      unfold hdN at hq
      split at hq
      · cases hq
      · rename_i h9
        injection hq with hq
        subst hq
        rw [hm _ h9]
        exact hL⟩
    refine ⟨⟨?_, ?_, ?_, ?_, g.lt, g.up, g.down, g.below, ?_, ?_⟩, g.slots.map e⟩
    · intro l o ho
      simp only [hideS, hideO_get, Nat.zero_add] at ho
      rw [Option.map_eq_some_iff] at ho
      obtain ⟨o1, ho1, rfl⟩ := ho
      cases h9 : memB (t :: ts) l with
      | true => exact trivial
      | false => exact (g.objs l o1 ho1).map e (fun L hL => by rw [hm _ h9]; exact hL) (fun L hL hc => rfl)
    · intro l L hL
      have := g.dom l L (hl l L hL).1
      have h2 := hideO_get (t :: ts) s.heap 0 l
      rw [List.getElem?_eq_getElem this] at h2
      exact (List.getElem?_eq_some_iff.1 h2).1
    · intro l L hL hc
      exact g.own l L (hl l L hL).1 hc
    · intro l l' L L' hL hL' hc hc' hb
      exact g.inj l l' L L' (hl l L hL).1 (hl l' L' hL').1 hc hc' hb
    · intro l hl
      simp only [Env.hide]
      split
      · exact .inr rfl
      · exact g.stay l hl
    · have h1 := g.hm
      have : (hideS (t :: ts) s).heap.length = s.heap.length := by
        have key : ∀ (ts : List Nat) (os : List LObj) (i : Nat), (hideO ts i os).length = os.length := by
          intro ts os
          induction os with
          | nil => intro i; rfl
          | cons o os ih => intro i; simp [hideO, ih]
        exact key _ _ _
      rw [this]
      exact h1

/-- Of what was there nothing has turned but the objects ts. -/
def BelT (Es : Env) (ts : List Nat) (w : World) : Prop := ∀ b, b < Es.w.heap.size → (∀ l L, memB ts l = true → Es.loc l = some L → 0 < L.cap → L.b ≠ b) → w.heap[b]? = Es.w.heap[b]?

theorem same_of_belT {H : List LObj} (g : Gam E0 E H) {ts : List Nat} {w : World} (h : BelT E ts w) : Same (E.hide ts) w := by
  intro b hb
  have hh : (∃ l L, (E.hide ts).loc l = some L ∧ 0 < L.cap ∧ L.b = b) ↔ ∃ l L, E.loc l = some L ∧ memB ts l = false ∧ 0 < L.cap ∧ L.b = b := by
    constructor
    · rintro ⟨l, L, hL, hc, he⟩
      simp only [Env.hide] at hL
      split at hL
      · cases hL
      · rename_i hm; exact ⟨l, L, hL, hm, hc, he⟩
    · rintro ⟨l, L, hL, hm, hc, he⟩
      exact ⟨l, L, by simp only [Env.hide, hm]; exact hL, hc, he⟩
  rcases hb with hb | hb
  · exact h b (g.lt b hb) (fun l L _ hL hc he => (g.own l L hL hc).2.2 (he ▸ hb))
  · obtain ⟨l, L, hL, hm, hc, rfl⟩ := hh.1 hb
    exact h L.b (g.own l L hL hc).2.1 (fun l' L' hm' hL' hc' he => by
      have := g.inj l' l L' L hL' hL hc' hc he
      subst this
      rw [hm] at hm'; cases hm')

def tlOk (m : Nat) (ts : List Nat) : List Nat → Bool
  | [] => true
  | l :: ls => (Nat.ble m l || memB ts l) && tlOk m ts ls
theorem tlOk_mem {m : Nat} {ts : List Nat} : ∀ {tl : List Nat}, tlOk m ts tl = true → ∀ l ∈ tl, m ≤ l ∨ memB ts l = true := by
  intro tl
  induction tl with
  | nil => intro _ l hl; cases hl
  | cons c cs ih =>
    intro h l hl
    simp only [tlOk, Bool.and_eq_true, Bool.or_eq_true, Nat.ble_eq] at h
    rcases List.mem_cons.1 hl with rfl | hl
    · exact h.1
    · exact ih h.2 l hl
def dstOf (ops : Array Oper) (i : Nat) : Option Nat := (ops[i]?).bind (·.dst)
def allB : List Nat → (Nat → Prop) → Prop
  | [], _ => True
  | [i], k => k i
  | i :: j :: is, k => k i ∧ allB (j :: is) k
theorem allB_iff : ∀ (l : List Nat) (k : Nat → Prop), allB l k ↔ ∀ i ∈ l, k i
  | [], k => by simp [allB]
  | [i], k => by simp [allB]
  | i :: j :: is, k => by simp only [allB, allB_iff (j :: is) k, List.forall_mem_cons]

def forceBools : List Bool → (List Bool → Prop) → Prop
  | [], k => k []
  | true :: bs, k => forceBools bs fun bs => k (true :: bs)
  | false :: bs, k => forceBools bs fun bs => k (false :: bs)
theorem forceBools_eq : ∀ (l : List Bool) (k : List Bool → Prop), forceBools l k = k l := by
  intro l
  induction l with
  | nil => intro k; rfl
  | cons b l ih => intro k; cases b <;> simp only [forceBools, ih]

def vcDraw (P : Program) (C : Table) (ops : Array Oper) (m : Nat) (ts : List Nat) : Nat → List Bool → Bool → St → Opt → St → Opt → (St → Prop) → Prop
  | 0, listed, _, _, _, s, _, K => match Region.ready .any ops listed.toArray with
    | [] => K s
    | _ :: _ => False
  | fuel + 1, listed, okS, b, ob, s, opt, K => forceBools listed fun listed => forceS b fun b => forceOpt ob fun ob => forceS s fun s => forceOpt opt fun opt =>
    match Region.ready .any ops listed.toArray with
    | [] => K s
    | r :: rs => match takeOne P ops listed.toArray okS b ob s opt (r :: rs) with
      | some tk => match tk.b with
        | some qb => qb.under (tk.q.under (vcDraw P C ops m ts fuel (listed.set tk.i true) okS qb.s qb.opt tk.q.s tk.q.opt K))
        | none => tk.q.under (vcDraw P C ops m ts fuel (listed.set tk.i true) okS (b.put tk.d .any) (delO ob tk.d) tk.q.s tk.q.opt K)
      | none => allB (r :: rs) fun i => match lateB ops i with
        | true => vcOne P C ops i s opt fun s' opt' _ => vcDraw P C ops m ts fuel (listed.set i true) false (b.put (dstOf ops i) .any) (delO ob (dstOf ops i)) s' opt' K
        | false => vcOne P C ops i s opt fun s' opt' tl => match tlOk m ts tl with
          | true => vcDraw P C ops m ts fuel (listed.set i true) okS (putFlat b (dstOf ops i) s') (delO ob (dstOf ops i)) s' opt' K
          | false => False

theorem takeOne_spec {ops : Array Oper} {listed : Array Bool} {okS : Bool} {b : St} {ob : Opt} {s : St} {opt : Opt} : ∀ {l : List Nat} {tk : Take}, takeOne P ops listed okS b ob s opt l = some tk →
    ∃ o, tk.i ∈ l ∧ ops[tk.i]? = some o ∧ tk.d = o.dst ∧ Region.free .any ops listed tk.i = true ∧ pureStep P ops s opt o = some tk.q ∧
      ((isLoad o.op = false ∧ tk.b = dimStep P ops b ob o) ∨ (okS = true ∧ ∃ qb, tk.b = some qb ∧ pureStep P ops b ob o = some qb)) := by
  intro l
  induction l with
  | nil => intro tk h; simp [takeOne] at h
  | cons i is ih =>
    intro tk h
    have rec_ : takeOne P ops listed okS b ob s opt is = some tk → ∃ o, tk.i ∈ i :: is ∧ ops[tk.i]? = some o ∧ tk.d = o.dst ∧ Region.free .any ops listed tk.i = true ∧ pureStep P ops s opt o = some tk.q ∧
      ((isLoad o.op = false ∧ tk.b = dimStep P ops b ob o) ∨ (okS = true ∧ ∃ qb, tk.b = some qb ∧ pureStep P ops b ob o = some qb)) := fun h => by
      obtain ⟨o, h1, h2⟩ := ih h
      exact ⟨o, List.mem_cons_of_mem _ h1, h2⟩
    simp only [takeOne] at h
    split at h
    · exact rec_ h
    · rename_i o ho
      split at h
      · exact rec_ h
      · rename_i hf
        split at h
        · exact rec_ h
        · rename_i q hq
          split at h
          · rename_i hld
            injection h with h
            subst h
            exact ⟨o, List.mem_cons_self, ho, rfl, hf, hq, .inl ⟨hld, rfl⟩⟩
          · split at h
            · exact rec_ h
            · split at h
              · rename_i qb hqb
                injection h with h
                subst h
                exact ⟨o, List.mem_cons_self, ho, rfl, hf, hq, .inr ⟨rfl, qb, rfl, hqb⟩⟩
              · exact rec_ h

theorem repV_flatAV {Es E' : Env} {v : Value} {x : AV} (h : RepV E' v x) : RepV Es v (flatAV x) := by
  unfold flatAV
  split
  · rename_i hf; exact repV_flat h hf Es
  · exact trivial

/-- What is known of the world while a region's operations come up, one behind the other. -/
structure DrawInv (Es : Env) (m : Nat) (ts : List Nat) (okS : Bool) (E : Env) : Prop where
  size : Es.w.heap.size ≤ E.w.heap.size
  fresh : okS = true → ∀ l L, E.loc l = some L → 0 < L.cap → Es.w.heap.size ≤ L.b ∨ ∃ l0 L0, Es.loc l0 = some L0 ∧ 0 < L0.cap ∧ L0.b = L.b ∧ (memB ts l0 = true ∨ (l0 = l ∧ l < m))
  keep : okS = true → BelT Es ts E.w

theorem DrawInv.step {Es E E' : Env} {m : Nat} {ts : List Nat} {okS : Bool} {tl : List Nat} (d : DrawInv Es m ts okS E) (k : Keep tl E E') (ht : tlOk m ts tl = true) : DrawInv Es m ts okS E' where
  size := Nat.le_trans d.size k.size
  fresh := fun ho l L hL hc => by
    rcases k.loc l L hL hc with h | ⟨l1, L1, h0, h1, h2, h3⟩
    · exact .inl (Nat.le_trans d.size h)
    · rcases d.fresh ho l1 L1 h1 h2 with h4 | ⟨l0, L0, h5, h6, h7, h8⟩
      · exact .inl (by rw [← h3]; exact h4)
      · refine .inr ⟨l0, L0, h5, h6, by rw [h7, h3], ?_⟩
        rcases h8 with h8 | ⟨rfl, h9⟩
        · exact .inl h8
        · rcases h0 with rfl | h0
          · exact .inr ⟨rfl, h9⟩
          · rcases tlOk_mem ht _ h0 with h | h
            · omega
            · exact .inl h
  keep := fun ho b hb hne => by
    rw [← d.keep ho b hb hne]
    refine k.block b (Nat.lt_of_lt_of_le hb d.size) (fun l L htl hL hc he => ?_)
    subst he
    rcases d.fresh ho l L hL hc with h4 | ⟨l0, L0, h5, h6, h7, h8⟩
    · omega
    · rcases h8 with h8 | ⟨rfl, h9⟩
      · exact hne l0 L0 h8 h5 h6 h7
      · rcases tlOk_mem ht _ htl with h | h
        · omega
        · exact hne _ L0 h h5 h6 h7

theorem DrawInv.late {Es E E' : Env} {m : Nat} {ts : List Nat} {okS : Bool} {tl : List Nat} (d : DrawInv Es m ts okS E) (k : Keep tl E E') : DrawInv Es m ts false E' where
  size := Nat.le_trans d.size k.size
  fresh := fun ho => by cases ho
  keep := fun ho => by cases ho

theorem lateB_spec {ops : Array Oper} {j i : Nat} {o : Oper} (h : lateB ops j = true) (hi : ops[i]? = some o) (hl : isLoad o.op = true) (hne : j ≠ i) : anc ops ops.size j i = true := by
  unfold lateB at h
  rw [List.all_eq_true] at h
  have := h i (List.mem_range.2 (Array.getElem?_eq_some_iff.1 hi).1)
  rw [hi] at this
  simp only [hl, Bool.not_true, Bool.or_false, Bool.or_eq_true, beq_iff_eq] at this
  rcases this with h1 | h1
  · exact absurd h1.symm hne
  · exact h1

theorem SlotsOk.any_ {a : Act} {b : St} (h : SlotsOk E a.tmps b.slots) (d : Option Nat) (v : Value) : SlotsOk E (a.put d v).tmps (b.put d .any).slots := h.put d (show RepV E v .any from trivial)

theorem draw_sound {C : Table} (hC : TableOk P C) {DP : Env → List Deferred → Prop} (hDP : ∀ {E E' : Env} {tl : List Nat} {ds : List Deferred}, DP E ds → Keep tl E E' → DP E' ds) {n : Nat} {ops : Array Oper} {Q : Exit → Act → World → Prop} {K : St → Prop} {m : Nat} {ts : List Nat} {Et Es : Env} {H : List LObj} (hsel : Region.noSelect ops = true) (g0 : Gam E0 Es H) (hsame : ∀ w, BelT Et ts w → Same Es w) :
    ∀ (fuel : Nat) (listed : List Bool) (okS : Bool) (b : St) (ob : Opt) (s : St) (opt : Opt) (E : Env) (a : Act), GamS E0 E s a → OptOk E a.tmps opt → b.heap = H → SlotsOk Es a.tmps b.slots → OptOk Es a.tmps ob → Closed ops listed.toArray → DrawInv Et m ts okS E → DP E a.defers →
      vcDraw P C ops m ts fuel listed okS b ob s opt K → (∀ s' E' a', K s' → GamS E0 E' s' a' → DP E' a'.defers → Q .normal a' E'.w) →
      anyS n P ops (fun e a w => e = .normal ∧ Q e a w) (BelT Et ts) (lateB ops) fuel okS listed.toArray a E.w := by
  intro fuel
  induction fuel with
  | zero =>
    intro listed okS b ob s opt E a g _ _ _ _ _ _ hd h hK
    simp only [vcDraw] at h
    split at h
    · rename_i hrd
      exact ⟨hrd, rfl, hK s E a h g hd⟩
    · exact h.elim
  | succ fuel ih =>
    intro listed okS b ob s opt E a g hopt hbh hbs hob hcl hinv hd h hK
    simp only [vcDraw, forceBools_eq, forceS_eq, forceOpt_eq] at h
    split at h
    · rename_i hrd
      exact ⟨fun _ => ⟨rfl, hK s E a h g hd⟩, fun i hi => by rw [hrd] at hi; cases hi⟩
    · rename_i r rs hrd
      split at h
      · rename_i tk htk
        obtain ⟨o, hmem, hi, hd', hfree, hq, hcase⟩ := takeOne_spec htk
        rw [← hrd] at hmem
        have gb : GamS E0 Es b a := ⟨by rw [hbh]; exact g0, hbs⟩
        have hset : (listed.toArray.setIfInBounds tk.i true) = (listed.set tk.i true).toArray := by simp
        -- the rest, once v is known
        have go : ∀ (T : World → Prop) (v : Value), ((∀ w, T w) ∨ ((∀ w, BelT Et ts w → T w) ∧ isLoad o.op = true)) → ((∀ w, T w) ∨ (okS = true ∧ BelT Et ts E.w)) → YieldsS P ops T o v a →
            anyS n P ops (fun e a w => e = .normal ∧ Q e a w) (BelT Et ts) (lateB ops) fuel okS (listed.set tk.i true).toArray (a.put o.dst v) E.w →
            anyS n P ops (fun e a w => e = .normal ∧ Q e a w) (BelT Et ts) (lateB ops) (fuel + 1) okS listed.toArray a E.w := by
          intro T v hT hS hy hrest
          rw [← hset] at hrest
          refine anyS_first hi (Region.noSelect_spec hsel) (fun c a w h => by cases h.1) (T := T) (f0 := ops.size) ?_ fuel _ _ a E.w (Region.free_spec hi hfree) hmem hcl hy hS hrest
          rcases hT with hT | ⟨hT, hl⟩
          · exact .inl hT
          · exact .inr ⟨hT, fun j hj hne => lateB_spec hj hi hl hne⟩
        have hcl' : Closed ops (listed.set tk.i true).toArray := by rw [← hset]; exact hcl.list hmem
        rcases hcase with ⟨hld, hb⟩ | ⟨hok, qb, hb, hqb⟩
        · have hT0 : ∀ E1 : Env, isLoad o.op = true → ∀ w, (fun _ : World => True) w → Same E1 w := fun E1 h9 => by rw [hld] at h9; cases h9
          cases hbq0 : dimStep P ops b ob o with
          | none =>
            have hbq := hbq0
            rw [hb, hbq] at h
            simp only at h
            obtain ⟨h1, h2⟩ := (Quiet.under_iff _ _).1 h
            obtain ⟨v, hy, gs, hos⟩ := pureStep_sound (hT0 E) g hopt hq h1
            refine go (fun _ => True) v (.inl fun _ => trivial) (.inl fun _ => trivial) hy ?_
            rw [hd'] at h2
            exact ih _ _ _ _ _ _ E _ gs hos (by cases o.dst <;> exact hbh) (hbs.any_ o.dst v) (hob.del o.dst v) hcl' hinv (by rw [put_defers]; exact hd) h2 hK
          | some qb =>
            have hbq := dimStep_some hbq0
            rw [hb, hbq0] at h
            simp only at h
            obtain ⟨h0, h⟩ := (Quiet.under_iff _ _).1 h
            obtain ⟨h1, h2⟩ := (Quiet.under_iff _ _).1 h
            obtain ⟨v, hy, gs, hos⟩ := pureStep_sound (hT0 E) g hopt hq h1
            obtain ⟨v', hy', gs', hos'⟩ := pureStep_sound (hT0 Es) gb hob hbq h0
            obtain rfl := hy.unique hy' (w := E.w) trivial trivial
            have hh : qb.s.heap = H := by rw [← hbh]; exact quiet_heap hbq
            refine go (fun _ => True) v (.inl fun _ => trivial) (.inl fun _ => trivial) hy ?_
            exact ih _ _ _ _ _ _ E _ gs hos hh gs'.slots hos' hcl' hinv (by rw [put_defers]; exact hd) h2 hK
        · rw [hb] at h
          simp only at h
          obtain ⟨h0, h⟩ := (Quiet.under_iff _ _).1 h
          obtain ⟨h1, h2⟩ := (Quiet.under_iff _ _).1 h
          have hbel := hinv.keep hok
          obtain ⟨v, hy, gs, hos⟩ := pureStep_sound (T := Same E) (fun _ _ h => h) g hopt hq h1
          obtain ⟨v', hy', gs', hos'⟩ := pureStep_sound (T := BelT Et ts) (fun _ => hsame) gb hob hqb h0
          obtain rfl := hy.unique hy' (w := E.w) (Same.refl E) hbel
          have hh : qb.s.heap = H := by rw [← hbh]; exact quiet_heap hqb
          have hrest := ih _ _ _ _ _ _ E _ gs hos hh gs'.slots hos' hcl' hinv (by rw [put_defers]; exact hd) h2 hK
          cases hl : isLoad o.op with
          | true => exact go _ v (.inr ⟨fun _ h => h, hl⟩) (.inr ⟨hok, hbel⟩) hy' hrest
          | false =>
            obtain ⟨v2, hy2, _, _⟩ := pureStep_sound (T := fun _ => True) (fun h9 => by rw [hl] at h9; cases h9) gb hob hqb h0
            obtain rfl := hy.unique hy2 (w := E.w) (Same.refl E) trivial
            exact go (fun _ => True) v (.inl fun _ => trivial) (.inl fun _ => trivial) hy2 hrest
      · rw [allB_iff, ← hrd] at h
        refine ⟨fun h0 => (by rw [h0] at hrd; cases hrd), fun i hi => ?_⟩
        have hset : (listed.toArray.setIfInBounds i true) = (listed.set i true).toArray := by simp
        have hcl' : Closed ops (listed.set i true).toArray := by rw [← hset]; exact hcl.list hi
        obtain ⟨_, oi, hoi, _⟩ := mem_ready.1 hi
        have hdst : dstOf ops i = oi.dst := by simp [dstOf, hoi]
        have h := h i hi
        rw [hset]
        split at h
        · rename_i hlate
          refine one_sound hC g hopt h ?_
          intro s' opt' tl E' d v hdd0 hk g' ho' hkp
          have hdd : d = oi.dst := by rw [hdd0, hoi]; rfl
          subst hdd
          refine ⟨fun _ hh => (by rw [hlate] at hh; cases hh), ?_⟩
          rw [hdst] at hk
          rw [hlate, Bool.not_true, Bool.and_false]
          exact ih _ _ _ _ _ _ E' _ g' ho' (by cases oi.dst <;> exact hbh) (hbs.any_ oi.dst v) (hob.del oi.dst v) hcl' (hinv.late hkp) (by rw [put_defers]; exact hDP hd hkp) hk hK
        · rename_i hlate
          refine one_sound hC g hopt h ?_
          intro s' opt' tl E' d v hdd0 hk g' ho' hkp
          have hdd : d = oi.dst := by rw [hdd0, hoi]; rfl
          subst hdd
          split at hk
          · rename_i htl
            have hinv' := hinv.step hkp htl
            refine ⟨fun hok _ _ => hinv'.keep hok, ?_⟩
            · rw [hdst] at hk
              rw [hlate, Bool.not_false, Bool.and_true]
              refine ih _ _ _ _ _ _ E' _ g' ho' ?_ ?_ (hob.del oi.dst v) hcl' hinv' (by rw [put_defers]; exact hDP hd hkp) hk hK
              · unfold putFlat
                cases oi.dst <;> exact hbh
              · unfold putFlat
                cases hdd : oi.dst with
                | none => exact hbs
                | some d =>
                  rcases Nat.lt_or_ge d a.tmps.size with hlt | hge
                  · refine SlotsOk.put hbs (some d) (repV_flatAV (E' := E') ?_)
                    have := g'.slots.get d
                    rw [hdd] at this
                    have e1 : (a.put (some d) v).tmps.getD d undef = v := by
                      rw [Array.getD_eq_getD_getElem?]
                      simp [Act.put, hlt]
                    rw [e1] at this
                    exact this
                  · have e1 : (a.put (some d) v) = a := by
                      simp only [Act.put]
                      rw [Array.setIfInBounds_eq_of_size_le hge]
                    have e2 : (b.put (some d) (flatAV (s'.get d))).slots = b.slots := by
                      simp only [St.put]
                      rw [List.set_eq_of_length_le (by rw [← hbs.1]; exact hge)]
                    rw [e1, e2]
                    exact hbs
          · exact hk.elim


def Env.drew (E : Env) : Env := { E with w := { E.w with drawn := E.w.drawn + 1 } }

theorem gam_drew {s : St} {a : Act} (g : GamS E0 E s a) : GamS E0 E.drew s a := by
  have e : Ext E E.drew := ⟨fun _ h => h, fun _ _ => rfl, fun _ _ h => h⟩
  refine ⟨⟨fun l o hl => (g.objs l o hl).mono e (fun _ _ _ => rfl), g.dom, g.own, g.inj, g.lt, g.up, g.down, ?_, g.stay, g.hm⟩, g.slots.mono e⟩
  exact g.below.next rfl rfl rfl (Nat.le_refl _) (fun _ _ => rfl)

theorem draw_wp {C : Table} (hC : TableOk P C) {DP : Env → List Deferred → Prop} (hDP : ∀ {E E' : Env} {tl : List Nat} {ds : List Deferred}, DP E ds → Keep tl E E' → DP E' ds) {Q : St → Prop} {s : St} {a : Act} {n : Nat} {id : Nat} {ops : Array Oper} (ts : List Nat) (hm : P.follows .mixedOrders = true) (hsel : Region.noSelect ops = true)
    (g : GamS E0 E s a) (hd : DP E a.defers) (h : vcDraw P C ops s.heap.length ts ops.size (List.replicate ops.size false) true (hideS ts s) [] s [] Q) :
    (Code.region id ops true).wpIn (wideR none) n P (fun e a' w' => e = .normal ∧ ∃ s' E', Q s' ∧ GamS E0 E' s' a' ∧ E'.w = w' ∧ DP E' a'.defers) a E.w := by
  have g' := gam_drew g
  have gh := gam_hide g' ts
  refine wpIn_mono (wpIn_region_any (F := wideR none) (Q := fun e a w => e = .normal ∧ ∃ s' E', Q s' ∧ GamS E0 E' s' a ∧ E'.w = w ∧ DP E' a.defers) hm (anyS_any (S := BelT E.drew ts) (late := lateB ops) _ true _ _ _ ?_)) ?_
  · have := draw_sound hC (DP := DP) hDP (n := n) (Q := fun _ a w => ∃ s' E', Q s' ∧ GamS E0 E' s' a ∧ E'.w = w ∧ DP E' a.defers) (K := Q) (m := s.heap.length) (ts := ts) (Et := E.drew) (Es := E.drew.hide ts) (H := (hideS ts s).heap) hsel gh.toGam (fun w hw => same_of_belT g'.toGam hw) ops.size (List.replicate ops.size false) true (hideS ts s) [] s [] E.drew a g'
      (fun t q b x hm => by simp at hm) rfl gh.slots (fun t q b x hm => by simp at hm) (fun k o _ hk => by
        simp only [Array.getD_eq_getD_getElem?, List.getElem?_toArray, List.getElem?_replicate] at hk
        split at hk <;> simp at hk)
      ⟨Nat.le_refl _, fun _ l L hL hc => .inr ⟨l, L, hL, hc, rfl, .inr ⟨rfl, g'.dom l L hL⟩⟩, fun _ _ _ _ => rfl⟩ (hDP (tl := []) hd ⟨rfl, rfl, rfl, Nat.le_refl _, fun _ _ _ => rfl, fun l L' hL hc => .inr ⟨l, L', .inl rfl, hL, hc, rfl⟩⟩) h (fun s' E' a' hK gg hdd => ⟨s', E', hK, gg, rfl, hdd⟩)
    simpa [Env.drew] using this
  · rintro e a' w' ⟨rfl, s', E', hQ, gg, hw, hdd⟩
    exact ⟨rfl, s', E', hQ, gg, hw, hdd⟩

theorem awp_draw {C : Table} (hC : TableOk P C) {nb : Nat} {Q : Exit → St → Prop} {s : St} {id : Nat} {ops : Array Oper} (ts : List Nat) (hm : P.follows .mixedOrders = true) (hsel : Region.noSelect ops = true)
    (h : vcDraw P C ops s.heap.length ts ops.size (List.replicate ops.size false) true (hideS ts s) [] s [] (Q .normal)) : AWp nb none P (.region id ops true) Q s := by
  intro E0 E a n R hb g hd
  refine wpIn_mono (draw_wp hC (DP := Prot E0 R) (fun h k => h.keep k) ts hm hsel g hd h) ?_
  rintro e a' w' ⟨rfl, h⟩
  exact h

end
end Go.Am

namespace Go.Am
open Go.RowKit

/-- New names for objects: the new name j is the old name q where ks[j] is 'old q'; where it is 'new', a new object that holds nothing; where it is 'gone', none. -/
inductive Nm where
  | old (q : Nat)
  | new
  | gone
abbrev Names := List Nm
def pos : Names → Nat → Option Nat
  | [], _ => none
  | .old k :: ks, q => match Nat.beq q k with
    | true => some 0
    | false => match pos ks q with
      | some j => some (j + 1)
      | none => none
  | _ :: ks, q => match pos ks q with
    | some j => some (j + 1)
    | none => none
def virtB (ks : Names) (j : Nat) : Bool := match ks[j]? with
  | some .new => true
  | _ => false
def virt (ks : Names) (j : Nat) : Prop := match virtB ks j with
  | true => True
  | false => False
theorem virt_iff {ks : Names} {j : Nat} : virt ks j ↔ ks[j]? = some .new := by
  unfold virt virtB
  cases h : ks[j]? with
  | none => simp
  | some x => cases x <;> simp
/-- Equality of plain values, said of what they hold. -/
def plLe (u v : Value) : Prop := match u, v with
  | .int k a, .int k' b => if k = k' then a = b else False
  | .bool a, .bool b => a = b
  | .string a, .string b => a = b
  | u, v => u = v
theorem plLe_eq {u v : Value} (h : plLe u v) : u = v := by
  unfold plLe at h
  split at h
  · split at h
    · rename_i hk; rw [hk, h]
    · exact h.elim
  · rw [h]
  · rw [h]
  · exact h
def nilSl (u : Value) : Prop := match u with
  | .slice none 0 0 => True
  | _ => False
theorem nilSl_eq {u : Value} (h : nilSl u) : u = .slice none 0 0 := by
  unfold nilSl at h
  split at h
  · rfl
  · exact h.elim
def posP (ks : Names) (l l' : Nat) : Prop := match pos ks l with
  | some j => match Nat.beq j l' with
    | true => True
    | false => False
  | none => False
theorem posP_eq {ks : Names} {l l' : Nat} (h : posP ks l l') : pos ks l = some l' := by
  unfold posP at h
  split at h
  · rename_i j hj
    split at h
    · rename_i hb; rw [hj, Nat.eq_of_beq_eq_true hb]
    · exact h.elim
  · exact h.elim

theorem pos_get : ∀ {ks : Names} {q j : Nat}, pos ks q = some j → ks[j]? = some (.old q) := by
  intro ks
  induction ks with
  | nil => intro q j h; simp [pos] at h
  | cons k ks ih =>
    intro q j h
    have rec_ : (match pos ks q with | some j => some (j + 1) | none => none) = some j → (k :: ks)[j]? = some (.old q) := fun h => by
      cases hp : pos ks q with
      | none => rw [hp] at h; cases h
      | some j' =>
        rw [hp] at h
        injection h with h
        subst h
        simpa using ih hp
    cases k with
    | new => exact rec_ h
    | gone => exact rec_ h
    | old k =>
      simp only [pos] at h
      split at h
      · rename_i he
        injection h with h
        subst h
        rw [Nat.eq_of_beq_eq_true he]
        rfl
      · exact rec_ h

mutual
/-- x, its objects renamed, says all that y says. -/
def leA (ks : Names) : AV → AV → Prop
  | .agg cs, y => match y with
    | .agg ds => leL ks cs ds
    | _ => False
  | .iarr k n f, y => match y with
    | .iarr k' n' f' => k = k' ∧ n = n' ∧ ∀ i, i < n → f i = f' i
    | _ => False
  | .tup cs, y => match y with
    | .tup ds => leL ks cs ds
    | _ => False
  | .any, y => match y with
    | .any => True
    | _ => False
  | .pl u, y => match y with
    | .any => True
    | .pl v => plLe u v
    | .own l a b => nilSl u ∧ virt ks l ∧ a = 0 ∧ b = 0
    | .rows _ n _ => nilSl u ∧ n = 0
    | _ => False
  | .rows k n f, y => match y with
    | .any => True
    | .rows k' n' f' => k = k' ∧ n = n' ∧ ∀ i, i < n → f i = f' i
    | _ => False
  | .own l a b, y => match y with
    | .any => True
    | .own l' a' b' => posP ks l l' ∧ a = a' ∧ b = b'
    | _ => False
  | .ptr l i j d, y => match y with
    | .any => True
    | .ptr l' i' j' d' => posP ks l l' ∧ i = i' ∧ j = j' ∧ d = d'
    | _ => False
  | .ipt x j d, y => match y with
    | .any => True
    | .ipt x' j' d' => x = x' ∧ j = j' ∧ d = d'
    | _ => False
  | .clo fn cs, y => match y with
    | .any => True
    | .clo fn' ds => fn = fn' ∧ leL ks cs ds
    | _ => False
  | .ifc t x, y => match y with
    | .any => True
    | .ifc t' x' => t = t' ∧ leA ks x x'
    | _ => False
  | .mp l, y => match y with
    | .any => True
    | .mp l' => posP ks l l'
    | _ => False
  | .emp, y => match y with
    | .any => True
    | .emp => True
    | .own l a b => virt ks l ∧ a = 0 ∧ b = 0
    | .rows _ n _ => n = 0
    | _ => False
def leL (ks : Names) : List AV → List AV → Prop
  | [], [] => True
  | c :: cs, d :: ds => leA ks c d ∧ leL ks cs ds
  | _, _ => False
end

structure ExtRen (ks : Names) (E E' : Env) : Prop where
  F : ∀ b, E.F b → E'.F b
  cell : ∀ a : Addr, E.F a.block → E'.w.cell? a = E.w.cell? a
  loc : ∀ q L q', E.loc q = some L → pos ks q = some q' → E'.loc q' = some L
  virt : ∀ l, virt ks l → ∃ L, E'.loc l = some L ∧ L.cap = 0
theorem own_virt {ks : Names} {E E' : Env} (e : ExtRen ks E E') {l : Nat} (h : virt ks l) (A : Option Addr) : Rep E' [.slice A 0 0] (.own l 0 0) := by
  obtain ⟨L, hL, hc⟩ := e.virt l h
  have := Rep.own (E := E') (l := l) (off := 0) (len := 0) (A := A) hL (by omega) (fun hh => by omega)
  rwa [hc] at this
theorem ExtRen.imm {ks : Names} {E E' : Env} (h : ExtRen ks E E') : Ext E.imm E'.imm := ⟨h.F, h.cell, fun _ _ h => by simp at h⟩

theorem leL_get {ks : Names} : ∀ {cs ds : List AV}, leL ks cs ds → cs.length = ds.length ∧ ∀ (i : Nat) (c d : AV), cs[i]? = some c → ds[i]? = some d → leA ks c d := by
  intro cs
  induction cs with
  | nil =>
    intro ds h
    cases ds with
    | nil => exact ⟨rfl, fun i c d hc => by simp at hc⟩
    | cons d ds => simp [leL] at h
  | cons c cs ih =>
    intro ds h
    cases ds with
    | nil => simp [leL] at h
    | cons d ds =>
      simp only [leL] at h
      obtain ⟨h1, h2⟩ := ih h.2
      refine ⟨by simp [h1], fun i c' d' hc hd => ?_⟩
      cases i with
      | zero => simp at hc hd; subst hc hd; exact h.1
      | succ i => exact h2 i c' d' (by simpa using hc) (by simpa using hd)

theorem cw_le {ks : Names} {c d : AV} (h : leA ks c d) : cw c = cw d := by
  cases c <;> cases d <;> simp only [leA] at h <;> first | rfl | exact h.elim | (obtain ⟨rfl, rfl, _⟩ := h; rfl)

theorem rep_le {ks : Names} {E : Env} {us : List Value} {x : AV} (h : Rep E us x) : ∀ {E' : Env} {y : AV}, ExtRen ks E E' → leA ks x y → Rep E' us y := by
  induction h with
  | any v h =>
    intro E' y _ hl
    cases y <;> simp only [leA] at hl
    exact .any v h
  | pl v h =>
    intro E' y e hl
    cases y <;> simp only [leA] at hl
    · exact .any v h
    · obtain rfl := plLe_eq hl; exact .pl v h
    · obtain ⟨hn, rfl⟩ := hl
      obtain rfl := nilSl_eq hn
      exact .rows (us := fun _ => []) (a := default) (Nat.le_refl _) (by omega) (by omega) (by omega) (by omega) (by omega)
    · obtain ⟨hn, hv, rfl, rfl⟩ := hl
      obtain rfl := nilSl_eq hn
      exact own_virt e hv none
  | iarr hl h =>
    intro E' y _ hy
    cases y <;> simp only [leA] at hy
    obtain ⟨rfl, rfl, hf⟩ := hy
    exact .iarr hl (fun i hi => by rw [← hf i hi]; exact h i hi)
  | nil =>
    intro E' y _ hy
    cases y <;> simp only [leA] at hy
    rename_i ds
    cases ds with
    | nil => exact .nil
    | cons d ds => simp [leL] at hy
  | cons hl _ _ ih1 ih2 =>
    intro E' y e hy
    cases y <;> simp only [leA] at hy
    rename_i ds
    cases ds with
    | nil => simp [leL] at hy
    | cons d ds =>
      simp only [leL] at hy
      exact .cons (by rw [← cw_le hy.1]; exact hl) (ih1 e hy.1) (ih2 e (by simp only [leA]; exact hy.2))
  | rows hc hm ha hl hcell h _ =>
    intro E' y e hy
    cases y <;> simp only [leA] at hy
    · exact .any _ rfl
    · obtain ⟨rfl, rfl, hf⟩ := hy
      refine .rows hc hm (fun h => ⟨(ha h).1, e.F _ (ha h).2⟩) hl (fun i hi j u hu => ?_) (fun i hi => by rw [← hf i hi]; exact (h i hi).mono e.imm)
      rw [e.cell _ (by rw [block_add]; exact (ha (by omega)).2)]
      exact hcell i hi j u hu
  | own hL hb ha =>
    intro E' y e hy
    cases y <;> simp only [leA] at hy
    · exact .any _ rfl
    · obtain ⟨hp, rfl, rfl⟩ := hy
      exact .own (e.loc _ _ _ hL (posP_eq hp)) hb ha
  | ptr hL =>
    intro E' y e hy
    cases y <;> simp only [leA] at hy
    · exact .any _ rfl
    · obtain ⟨hp, rfl, rfl, rfl⟩ := hy
      exact .ptr (e.loc _ _ _ hL (posP_eq hp))
  | ipt hF hcell h _ =>
    intro E' y e hy
    cases y <;> simp only [leA] at hy
    · exact .any _ rfl
    · obtain ⟨rfl, rfl, rfl⟩ := hy
      refine .ipt (e.F _ hF) (fun i u hu => ?_) (h.mono e.imm)
      rw [e.cell _ (by rw [block_add]; exact hF)]
      exact hcell i u hu
  | @clo E fn vs caps hl h ih =>
    intro E' y e hy
    cases y <;> simp only [leA] at hy
    · exact .any _ rfl
    · obtain ⟨rfl, hy⟩ := hy
      obtain ⟨h1, h2⟩ := leL_get hy
      refine .clo (by rw [hl, h1]) (fun i v c hv hc => ?_)
      have hlt : i < caps.length := by rw [← hl]; exact (List.getElem?_eq_some_iff.1 hv).1
      exact ih i v caps[i] hv (List.getElem?_eq_getElem hlt) e (h2 i _ _ (List.getElem?_eq_getElem hlt) hc)
  | ifc hv _ ih =>
    intro E' y e hy
    cases y <;> simp only [leA] at hy
    · exact .any _ rfl
    · obtain ⟨rfl, hy⟩ := hy
      exact .ifc hv (ih e hy)
  | @ifca E t us cs h ih =>
    intro E' y e hy
    cases y <;> simp only [leA] at hy
    · exact .any _ rfl
    · obtain ⟨rfl, hy⟩ := hy
      rename_i y'
      have h9 : leA ks (.agg cs) y' := by simp only [leA]; exact hy
      cases y' <;> simp only at hy
      exact .ifca (ih e h9)
  | mp hL =>
    intro E' y e hy
    cases y <;> simp only [leA] at hy
    · exact .any _ rfl
    · exact .mp (e.loc _ _ _ hL (posP_eq hy))
  | emp A =>
    intro E' y e hy
    cases y <;> simp only [leA] at hy
    · exact .any _ rfl
    · subst hy
      exact .rows (us := fun _ => []) (a := default) (Nat.le_refl _) (by omega) (by omega) (by omega) (by omega) (by omega)
    · obtain ⟨hv, rfl, rfl⟩ := hy
      exact own_virt e hv A
    · exact .emp A

/-- A slot. -/
def leV (ks : Names) : AV → AV → Prop
  | _, .any => True
  | x, y => leA ks x y
def leSlots (ks : Names) : List AV → List AV → Prop
  | [], [] => True
  | _ :: xs, .any :: ys => leSlots ks xs ys
  | x :: xs, y :: ys => leA ks x y ∧ leSlots ks xs ys
  | _, _ => False
def leO (ks : Names) : LObj → LObj → Prop
  | _, .dead => True
  | .raw ob, .raw ob' => ob = ob'
  | .capo q c, .capo q' c' => posP ks q q' ∧ c = c'
  | .mapo kt W has val, .mapo kt' W' has' val' => kt = kt' ∧ W = W' ∧ (∀ v, has v ↔ has' v) ∧ ∀ v, has v → val v = val' v
  | .box t cs, .box t' ds => t = t' ∧ leL ks cs ds
  | .row k t n f, .row k' t' n' f' => k = k' ∧ t = t' ∧ n' ≤ n ∧ ∀ i, i < n' → f i = f' i
  | _, _ => False
/-- An object that holds nothing, of capacity 0. -/
def newO : LObj → Prop
  | .row _ _ n _ => n = 0
  | _ => False
def deadO : LObj → Prop
  | .dead => True
  | _ => False
def leHeap (ks : Names) (H : List LObj) : Names → List LObj → Prop
  | [], [] => True
  | .new :: qs, o' :: os => newO o' ∧ leHeap ks H qs os
  | .gone :: qs, o' :: os => deadO o' ∧ leHeap ks H qs os
  | .old q :: qs, o' :: os => (match H[q]? with
    | some o => leO ks o o'
    | none => leO ks .dead o') ∧ leHeap ks H qs os
  | _, _ => False
/-- No old name twice. -/
def nodupB : Names → Bool
  | [] => true
  | .old k :: ks => (match pos ks k with
    | some _ => false
    | none => true) && nodupB ks
  | _ :: ks => nodupB ks
/-- The first names, of what was handed over, stay, or are gone. -/
def prefB : Nat → Nat → Names → Bool
  | 0, _, _ => true
  | n + 1, i, .old q :: ks => Nat.beq q i && prefB n (i + 1) ks
  | n + 1, i, .gone :: ks => prefB n (i + 1) ks
  | _ + 1, _, _ => false
theorem prefB_get : ∀ {n i : Nat} {ks : Names}, prefB n i ks = true → ∀ j, j < n → ks[j]? = some (.old (i + j)) ∨ ks[j]? = some .gone := by
  intro n
  induction n with
  | zero => intro i ks _ j hj; omega
  | succ n ih =>
    intro i ks h j hj
    cases ks with
    | nil => simp [prefB] at h
    | cons k ks =>
      cases k with
      | new => simp [prefB] at h
      | old q =>
        simp only [prefB, Bool.and_eq_true] at h
        obtain ⟨h1, h2⟩ := h
        have := Nat.eq_of_beq_eq_true h1
        subst this
        cases j with
        | zero => left; simp
        | succ j =>
          have := ih h2 j (by omega)
          rwa [show q + 1 + j = q + (j + 1) by omega] at this
      | gone =>
        simp only [prefB] at h
        cases j with
        | zero => right; simp
        | succ j =>
          have := ih h j (by omega)
          rwa [show i + 1 + j = i + (j + 1) by omega] at this
structure LeS (nb : Nat) (ks : Names) (s s' : St) : Prop where
  nd : nodupB ks = true
  pr : prefB nb 0 ks = true
  slots : leSlots ks s.slots s'.slots
  heap : leHeap ks s.heap ks s'.heap

theorem pos_none : ∀ {ks : Names} {q j : Nat}, pos ks q = none → ks[j]? ≠ some (.old q) := by
  intro ks
  induction ks with
  | nil => intro q j _ h; simp at h
  | cons k ks ih =>
    intro q j hp h
    have rec_ : (match pos ks q with | some j => some (j + 1) | none => none) = none → ∀ j : Nat, ks[j]? ≠ some (Nm.old q) := fun hp j => by
      refine ih (j := j) ?_
      cases hq : pos ks q with
      | none => rfl
      | some x => rw [hq] at hp; cases hp
    cases k with
    | new =>
      simp only [pos] at hp
      cases j with
      | zero => simp at h
      | succ j => exact rec_ hp j (by simpa using h)
    | gone =>
      simp only [pos] at hp
      cases j with
      | zero => simp at h
      | succ j => exact rec_ hp j (by simpa using h)
    | old k =>
      simp only [pos] at hp
      split at hp
      · cases hp
      · rename_i hne
        cases j with
        | zero =>
          simp at h
          subst h
          have h0 : ¬ k = k := Nat.ne_of_beq_eq_false hne
          exact h0 rfl
        | succ j => exact rec_ hp j (by simpa using h)

theorem nodupB_inj : ∀ {ks : Names}, nodupB ks = true → ∀ {i j q : Nat}, ks[i]? = some (.old q) → ks[j]? = some (.old q) → i = j := by
  intro ks
  induction ks with
  | nil => intro _ i j q h; simp at h
  | cons k ks ih =>
    intro hn i j q hi hj
    have rec_ : nodupB ks = true → (∀ r, k ≠ .old r) → i = j := fun hn hk => by
      cases i with
      | zero => simp at hi; exact absurd hi (hk _)
      | succ i =>
        cases j with
        | zero => simp at hj; exact absurd hj (hk _)
        | succ j => exact congrArg (· + 1) (ih hn (by simpa using hi) (by simpa using hj))
    cases k with
    | new => exact rec_ (by simpa [nodupB] using hn) (by intro r h; cases h)
    | gone => exact rec_ (by simpa [nodupB] using hn) (by intro r h; cases h)
    | old k =>
      simp only [nodupB, Bool.and_eq_true] at hn
      obtain ⟨h1, h2⟩ := hn
      have hk : pos ks k = none := by
        cases hq : pos ks k with
        | none => rfl
        | some x => rw [hq] at h1; cases h1
      cases i with
      | zero =>
        cases j with
        | zero => rfl
        | succ j =>
          simp at hi
          subst hi
          exact absurd (by simpa using hj) (pos_none (j := j) hk)
      | succ i =>
        cases j with
        | zero =>
          simp at hj
          subst hj
          exact absurd (by simpa using hi) (pos_none (j := i) hk)
        | succ j => exact congrArg (· + 1) (ih h2 (by simpa using hi) (by simpa using hj))

def newLoc : Option LObj → Option Loc
  | some (.row k t _ _) => some ⟨0, k, 0, t⟩
  | _ => none
def Env.ren (E : Env) (ks : Names) (H' : List LObj) : Env := { w := E.w, F := E.F, m := E.m, loc := fun j => match ks[j]? with
  | some (.old q) => E.loc q
  | some .new => newLoc H'[j]?
  | _ => none }

theorem repV1_le {ks : Names} {E E' : Env} {v : Value} {x y : AV} (h : RepV1 E v x) (e : ExtRen ks E E') (hl : leV ks x y) : RepV1 E' v y := by
  cases y with
  | any => exact trivial
  | agg ds =>
    simp only [leV] at hl
    cases x <;> simp only [leA] at hl
    obtain ⟨us, hv, hr⟩ := h
    exact ⟨us, hv, rep_le hr e (by simp only [leA]; exact hl)⟩
  | iarr k n f =>
    simp only [leV] at hl
    cases x <;> simp only [leA] at hl
    exact h.elim
  | tup ds =>
    simp only [leV] at hl
    cases x <;> simp only [leA] at hl
    exact h.elim
  | _ =>
    simp only [leV] at hl
    cases x <;> first
      | (simp only [leA] at hl; done)
      | exact rep_le (show Rep E [v] _ from h) e hl

theorem repV_le {ks : Names} {E E' : Env} {v : Value} {x y : AV} (h : RepV E v x) (e : ExtRen ks E E') (hl : leV ks x y) : RepV E' v y := by
  cases y with
  | tup ds =>
    simp only [leV] at hl
    cases x <;> simp only [leA] at hl
    obtain ⟨vs, hv, hvl, hr⟩ := h
    obtain ⟨h1, h2⟩ := leL_get hl
    refine ⟨vs, hv, by rw [hvl, h1], fun i u y hu hy => ?_⟩
    rename_i cs
    have hlt : i < cs.length := by rw [h1]; exact (List.getElem?_eq_some_iff.1 hy).1
    have h3 := h2 i _ _ (List.getElem?_eq_getElem hlt) hy
    refine repV1_le (hr i u _ hu (List.getElem?_eq_getElem hlt)) e ?_
    cases y <;> first | exact trivial | exact h3
  | _ =>
    rw [repV_eq _ (by intro xs hh; cases hh)]
    cases x with
    | tup cs => first | exact trivial | (simp only [leV, leA] at hl)
    | _ =>
      rw [repV_eq _ (by intro xs hh; cases hh)] at h
      exact repV1_le h e hl

theorem leSlots_cons {ks : Names} {x y : AV} {xs ys : List AV} (h : leSlots ks (x :: xs) (y :: ys)) : leV ks x y ∧ leSlots ks xs ys := by
  cases y <;> simp only [leSlots] at h <;> first | exact ⟨trivial, h⟩ | exact h

theorem leSlots_get {ks : Names} : ∀ {xs ys : List AV}, leSlots ks xs ys → xs.length = ys.length ∧ ∀ (i : Nat) (x y : AV), xs[i]? = some x → ys[i]? = some y → leV ks x y := by
  intro xs
  induction xs with
  | nil =>
    intro ys h
    cases ys with
    | nil => exact ⟨rfl, fun i c d hc => by simp at hc⟩
    | cons d ds => simp [leSlots] at h
  | cons c cs ih =>
    intro ys h
    cases ys with
    | nil => simp [leSlots] at h
    | cons d ds =>
      obtain ⟨h0, h⟩ := leSlots_cons h
      obtain ⟨h1, h2⟩ := ih h
      refine ⟨by simp [h1], fun i c' d' hc hd => ?_⟩
      cases i with
      | zero => simp at hc hd; subst hc hd; exact h0
      | succ i => exact h2 i c' d' (by simpa using hc) (by simpa using hd)

theorem leHeap_get {ks : Names} {H : List LObj} : ∀ {qs : Names} {os : List LObj}, leHeap ks H qs os → qs.length = os.length ∧ ∀ (i : Nat) (o' : LObj), os[i]? = some o' → (qs[i]? = some .new ∧ newO o') ∨ (qs[i]? = some .gone ∧ o' = .dead) ∨ ∃ q, qs[i]? = some (.old q) ∧ leO ks (H.getD q .dead) o' := by
  intro qs
  induction qs with
  | nil =>
    intro os h
    cases os with
    | nil => exact ⟨rfl, fun i o h => by simp at h⟩
    | cons d ds => simp [leHeap] at h
  | cons q qs ih =>
    intro os h
    cases os with
    | nil => cases q <;> simp [leHeap] at h
    | cons o' os =>
      have hrest : leHeap ks H qs os := by cases q <;> exact h.2
      obtain ⟨h1, h2⟩ := ih hrest
      refine ⟨by simp [h1], fun i o1 ho => ?_⟩
      cases i with
      | succ i => simpa using h2 i o1 (by simpa using ho)
      | zero =>
        simp at ho
        subst ho
        cases q with
        | new => exact .inl ⟨rfl, h.1⟩
        | gone =>
          refine .inr (.inl ⟨rfl, ?_⟩)
          have h3 : deadO o' := h.1
          cases o' <;> first | rfl | exact h3.elim
        | old q =>
          refine .inr (.inr ⟨q, rfl, ?_⟩)
          have h3 := h.1
          rw [List.getD_eq_getElem?_getD]
          split at h3
          · rename_i o hq; rw [hq]; exact h3
          · rename_i hq; rw [hq]; exact h3

theorem ext_ren {E : Env} {ks : Names} {H H' : List LObj} (h : leHeap ks H ks H') : ExtRen ks E (E.ren ks H') := ⟨fun _ h => h, fun _ _ => rfl, fun q L q' hL hq => by
  simp [Env.ren, pos_get hq, hL], fun l hl => by
  obtain ⟨h1, h2⟩ := leHeap_get h
  rw [virt_iff] at hl
  have hlt : l < H'.length := by rw [← h1]; exact (List.getElem?_eq_some_iff.1 hl).1
  rcases h2 l _ (List.getElem?_eq_getElem hlt) with ⟨_, hn⟩ | ⟨hq, _⟩ | ⟨q, hq, _⟩
  · cases ho : H'[l] with
    | row k t n f => exact ⟨⟨0, k, 0, t⟩, by simp [Env.ren, hl, List.getElem?_eq_getElem hlt, ho, newLoc], rfl⟩
    | _ => rw [ho] at hn; exact hn.elim
  · rw [hl] at hq; cases hq
  · rw [hl] at hq; cases hq⟩

theorem ren_old {E : Env} (ks : Names) (H' : List LObj) : ∀ l L, (E.ren ks H').loc l = some L → 0 < L.cap → ∃ l0, E.loc l0 = some L := by
  intro j L hL hc
  simp only [Env.ren] at hL
  split at hL
  · rename_i q hq; exact ⟨q, hL⟩
  · unfold newLoc at hL
    split at hL
    · injection hL with hL
      subst hL
      simp at hc
    · cases hL
  · cases hL

theorem le_sound {nb : Nat} {E0 E : Env} {s s' : St} {a : Act} {ks : Names} (hnb : E0.m = nb) (g : GamS E0 E s a) (h : LeS nb ks s s') : GamS E0 (E.ren ks s'.heap) s' a := by
  obtain ⟨hsl, hsg⟩ := leSlots_get h.slots
  obtain ⟨hhl, hhg⟩ := leHeap_get h.heap
  have e := ext_ren (E := E) h.heap
  have old : ∀ j L, (E.ren ks s'.heap).loc j = some L → 0 < L.cap → ∃ q, ks[j]? = some (.old q) ∧ E.loc q = some L := by
    intro j L hL hc
    simp only [Env.ren] at hL
    split at hL
    · rename_i q hq; exact ⟨q, hq, hL⟩
    · unfold newLoc at hL
      split at hL
      · injection hL with hL
        subst hL
        simp at hc
      · cases hL
    · cases hL
  refine ⟨⟨?_, ?_, ?_, ?_, g.lt, g.up, g.down, g.below, ?_, ?_⟩, ?_⟩
  · intro j o' hj
    rcases hhg j o' hj with ⟨hq, hn⟩ | ⟨_, rfl⟩ | ⟨q, hq, hle⟩
    · cases o' with
      | row k t n f =>
        have hn : n = 0 := hn
        subst hn
        exact ⟨⟨0, k, 0, t⟩, by simp [Env.ren, hq, hj, newLoc], rfl, rfl, Nat.le_refl _, Nat.zero_le _, fun hpos => by simp at hpos⟩
      | _ => exact hn.elim
    · exact trivial
    · have hlocj : (E.ren ks s'.heap).loc j = E.loc q := by simp [Env.ren, hq]
      rw [List.getD_eq_getElem?_getD] at hle
      cases ho : s.heap[q]? with
      | none =>
        rw [ho] at hle
        cases o' <;> simp only [leO, Option.getD_none] at hle
        exact trivial
      | some o =>
        rw [ho, Option.getD_some] at hle
        have hob := g.objs q o ho
        cases o' with
        | dead => exact trivial
        | box t' ds =>
          cases o <;> simp only [leO] at hle
          obtain ⟨rfl, hle⟩ := hle
          obtain ⟨L, us, hL, ht, hc, hg, hr⟩ := hob
          exact ⟨L, us, by rw [hlocj]; exact hL, ht, hc, hg, rep_le hr e (by simp only [leA]; exact hle)⟩
        | row k' t' n' f' =>
          cases o <;> simp only [leO] at hle
          obtain ⟨rfl, rfl, hnn, hf⟩ := hle
          obtain ⟨L, hL, ht, hk, hn, hm, hrow⟩ := hob
          refine ⟨L, by rw [hlocj]; exact hL, ht, hk, Nat.le_trans hnn hn, hm, fun hpos => ?_⟩
          obtain ⟨arr, hg, hsz, hel⟩ := hrow hpos
          refine ⟨arr, hg, hsz, fun i hi => ?_⟩
          obtain ⟨us, h1, h2, h3⟩ := hel i (by omega)
          exact ⟨us, h1, by rw [← hf i hi]; exact h2, h3⟩
        | raw ob' =>
          cases o <;> simp only [leO] at hle
          obtain ⟨L, hL, hc, hg⟩ := hob
          exact ⟨L, by rw [hlocj]; exact hL, hc, by rw [← hle]; exact hg⟩
        | capo q2 c2 =>
          cases o <;> simp only [leO] at hle
          obtain ⟨hp, rfl⟩ := hle
          obtain ⟨L, hL, hc⟩ := hob
          exact ⟨L, e.loc _ _ _ hL (posP_eq hp), hc⟩
        | mapo kt' W' has' val' =>
          cases o <;> simp only [leO] at hle
          obtain ⟨rfl, rfl, hh, hv⟩ := hle
          obtain ⟨L, es, clock, hL, hc, hg, h1, h2, h3, h4⟩ := hob
          exact ⟨L, es, clock, by rw [hlocj]; exact hL, hc, hg, h1, h2, fun v => (hh v).symm.trans (h3 v), fun x hx => by rw [← hv _ ((h3 _).2 ⟨x, hx, rfl⟩)]; exact h4 x hx⟩
  · intro j L hL
    simp only [Env.ren] at hL
    cases hj : ks[j]? with
    | none => rw [hj] at hL; cases hL
    | some q => rw [← hhl]; exact (List.getElem?_eq_some_iff.1 hj).1
  · intro j L hL hc
    obtain ⟨q, _, hL'⟩ := old j L hL hc
    exact g.own q L hL' hc
  · intro j j' L L' hL hL' hc hc' hb
    obtain ⟨q, hq, h1⟩ := old j L hL hc
    obtain ⟨q', hq', h2⟩ := old j' L' hL' hc'
    have hqq := g.inj q q' L L' h1 h2 hc hc' hb
    subst hqq
    exact nodupB_inj h.nd hq hq'
  · intro l hl
    rcases prefB_get h.pr l (by omega) with hk | hk
    · rw [Nat.zero_add] at hk
      have hloc : (E.ren ks s'.heap).loc l = E.loc l := by simp [Env.ren, hk]
      rw [hloc]
      exact g.stay l hl
    · exact .inr (by simp [Env.ren, hk])
  · rw [hnb, ← hhl]
    rcases Nat.eq_zero_or_pos nb with h0 | h0
    · omega
    · rcases prefB_get h.pr (nb - 1) (by omega) with hk | hk
      · have := (List.getElem?_eq_some_iff.1 hk).1; omega
      · have := (List.getElem?_eq_some_iff.1 hk).1; omega
  · refine ⟨by rw [g.slots.1, hsl], fun i v y hv hy => ?_⟩
    have hlt : i < s.slots.length := by rw [hsl]; exact (List.getElem?_eq_some_iff.1 hy).1
    exact repV_le (g.slots.2 i v _ hv (List.getElem?_eq_getElem hlt)) e (hsg i _ y (List.getElem?_eq_getElem hlt) hy)

section
variable {P : Program} {nb : Nat} {r : Option Nat} {Q : Exit → St → Prop}

theorem awp_le {c : Code} {s s' : St} (ks : Names) (h : LeS nb ks s s') (hw : AWp nb r P c Q s') : AWp nb r P c Q s :=
  fun E0 E a n R hb g hd => hw E0 (E.ren ks s'.heap) a n R hb (le_sound hb g h) (hd.same rfl (ren_old ks s'.heap))

theorem loopN_le {c : Code} {s s' : St} (ks : Names) (h : LeS nb ks s s') {m : Nat} (hw : LoopN nb r P c Q m s') : LoopN nb r P c Q m s := by
  cases m with
  | zero => exact hw
  | succ m => exact awp_le ks h hw

/-- A loop by an invariant: a family of states, and how many rounds there are still to be at most. -/
theorem awp_loop_inv {X : Type} (I : X → St) (μ : X → Nat) {c : Code} {s : St} (x0 : X) (ks0 : Names) (h0 : LeS nb ks0 s (I x0))
    (step : ∀ x, AWp nb r P c (thenK (fun s' => ∃ y ks, LeS nb ks s' (I y) ∧ μ y < μ x) Q) (I x)) : AWp nb r P (.loop c) Q s := by
  refine awp_loop (μ x0 + 1) (loopN_le ks0 h0 ?_)
  have key : ∀ (m : Nat) (x : X), μ x < m → LoopN nb r P c Q m (I x) := by
    intro m
    induction m with
    | zero => intro x hx; omega
    | succ m ih =>
      intro x hx
      refine (step x).mono ?_
      intro e s' hs'
      cases e with
      | normal =>
        obtain ⟨y, ks, hle, hlt⟩ := hs'
        exact loopN_le ks hle (ih y (by omega))
      | _ => exact hs'
  exact key _ x0 (by omega)

end
end Go.Am

namespace Go.Am
open Go.RowKit

section
variable {P : Program} {E0 E E' : Env} {H H' : List LObj}

/-- An environment as a base of m names. -/
def Env.base (E : Env) (m : Nat) : Env := { E with m := m }

theorem gam_self (g : Gam E0 E H) (m : Nat) (hm : m ≤ H.length) : Gam (E.base m) E H where
  objs := g.objs
  dom := g.dom
  own := fun l L hL hc => ⟨fun ho => ho.2 ⟨l, L, hL, hc, rfl⟩, (g.own l L hL hc).2⟩
  inj := g.inj
  lt := g.lt
  up := fun _ h => h
  down := fun _ h => .inl h
  below := BelowO.refl (E.base m)
  stay := fun _ _ => .inl rfl
  hm := hm

theorem not_old (g : Gam E0 E H) {m : Nat} {b : Nat} (hb : ¬ (E.base m).old b) : ¬ E0.old b := by
  intro ho
  have h1 : b < E.w.heap.size := Env.old_lt g.below ho
  refine hb ⟨h1, fun hw => ?_⟩
  obtain ⟨l, L, hL, hc, hbb⟩ := hw
  exact (g.own l L hL hc).1 (hbb ▸ ho)
theorem old_base (g : Gam E0 E H) {m : Nat} {b : Nat} (ho : E0.old b) : (E.base m).old b :=
  ⟨Env.old_lt g.below ho, fun ⟨l, L, hL, hc, hbb⟩ => (g.own l L hL hc).1 (hbb ▸ ho)⟩

theorem gam_trans (g : Gam E0 E H) {m : Nat} (hm : E0.m ≤ m) (g' : Gam (E.base m) E' H') : Gam E0 E' H' where
  objs := g'.objs
  dom := g'.dom
  own := fun l L hL hc => ⟨not_old g (g'.own l L hL hc).1, (g'.own l L hL hc).2⟩
  inj := g'.inj
  lt := g'.lt
  up := fun b hb => g'.up b (g.up b hb)
  down := fun b hb => by
    rcases g'.down b hb with h | h
    · exact g.down b h
    · exact .inr (not_old g h)
  below := g.below.next g'.below.os g'.below.tape g'.below.output g'.below.size (fun k hk => g'.below.block k (old_base g hk))
  stay := fun l hl => by
    rcases g'.stay l (Nat.lt_of_lt_of_le hl hm) with h | h
    · rw [h]; exact g.stay l hl
    · exact .inr h
  hm := Nat.le_trans hm g'.hm

/-- The same where the world has turned at blocks that are not owned, not shared, not old. -/
theorem gam_world (g : Gam E0 E H) {w' : World} (hos : w'.os = E.w.os) (htape : w'.tape = E.w.tape) (hout : w'.output = E.w.output) (hsz : E.w.heap.size ≤ w'.heap.size)
    (ho : ∀ b, E.owns b ∨ E.F b ∨ E0.old b → w'.heap[b]? = E.w.heap[b]?) : Gam E0 { E with w := w' } H where
  objs := fun l o hl => (g.objs l o hl).mono (E' := { E with w := w' }) ⟨fun _ h => h, fun a ha => World.cell?_of_block (w := E.w) (ho _ (.inr (.inl ha))), fun _ _ h => h⟩ (fun L hL hc => ho _ (.inl ⟨l, L, hL, hc, rfl⟩))
  dom := g.dom
  own := fun l L hL hc => by have := g.own l L hL hc; exact ⟨this.1, Nat.lt_of_lt_of_le this.2.1 hsz, this.2.2⟩
  inj := g.inj
  lt := fun b hb => Nat.lt_of_lt_of_le (g.lt b hb) hsz
  up := g.up
  down := g.down
  below := g.below.next hos htape hout hsz (fun k hk => ho k (.inr (.inr hk)))
  stay := g.stay
  hm := g.hm

/-- A loop by a relation whose number goes down. -/
theorem wpIn_loop_rel {F : Fence} {n : Nat} {c : Code} {Q : Exit → Act → World → Prop} (U : Nat → Act → World → Prop) {a : Act} {w : World} {m : Nat} (h0 : U m a w)
    (step : ∀ m a w, U m a w → c.wpIn F n P (fun e a' w' => match e with | .normal => ∃ m', m' < m ∧ U m' a' w' | e => Q e a' w') a w) : (Code.loop c).wpIn F n P Q a w := by
  have mu : ∃ μ : Act → World → Nat, ∀ a' w', (∃ m, U m a' w') → U (μ a' w') a' w' ∧ ∀ k, U k a' w' → μ a' w' ≤ k := by
    have : ∀ x : Act × World, ∃ m, (∃ m, U m x.1 x.2) → U m x.1 x.2 ∧ ∀ k, U k x.1 x.2 → m ≤ k := by
      intro x
      by_cases hx : ∃ m, U m x.1 x.2
      · obtain ⟨m, hm, hmin⟩ := exists_min hx
        exact ⟨m, fun _ => ⟨hm, fun k hk => Nat.le_of_not_lt fun hlt => hmin k hlt hk⟩⟩
      · exact ⟨0, fun h => absurd h hx⟩
    exact ⟨fun a' w' => Classical.choose (this (a', w')), fun a' w' hx => Classical.choose_spec (this (a', w')) hx⟩
  obtain ⟨μ, hμ⟩ := mu
  refine wpIn_loop (fun a' w' => ∃ m, U m a' w') μ ⟨m, h0⟩ ?_
  intro a' w' hx
  obtain ⟨h1, h2⟩ := hμ a' w' hx
  refine wpIn_mono (step _ a' w' h1) ?_
  intro e a'' w'' hQ
  cases e with
  | normal =>
    obtain ⟨m', hlt, hU⟩ := hQ
    exact ⟨⟨m', hU⟩, Nat.lt_of_le_of_lt ((hμ a'' w'' ⟨m', hU⟩).2 m' hU) hlt⟩
  | _ => exact hQ

end

/-- Between an iterator's own and its rounds': the blocks of each. -/
structure GI (F0 : Nat → Prop) (s0 : Nat) (E : Env) (Z : Foot) : Prop where
  F0 : ∀ b, E.F b → F0 b ∨ s0 ≤ b
  O0 : ∀ b, E.owns b → s0 ≤ b
  sz : s0 ≤ E.w.heap.size
  own : ∀ l L, E.loc l = some L → 0 < L.cap → ¬ Z.wr L.b ∧ ¬ Z.rd L.b
  F : ∀ b, E.F b → ¬ Z.wr b
  lt : ∀ b, Z.wr b ∨ Z.rd b → b < E.w.heap.size

/-- How far the rounds are: so many, or stopped. -/
def atI (J : Nat → Foot → World → Prop) (JX : Foot → World → Prop) : Option Nat → Foot → World → Prop
  | some i => J i
  | none => JX

structure ItOk (J : Nat → Foot → World → Prop) (JX : Foot → World → Prop) : Prop where
  sJ : ∀ i, StableZ (J i)
  sX : StableZ JX
  bJ : ∀ i, BoundZ (J i)
  bX : BoundZ JX

theorem ItOk.stable {J : Nat → Foot → World → Prop} {JX : Foot → World → Prop} (h : ItOk J JX) (i : Option Nat) : StableZ (atI J JX i) := by
  cases i with
  | none => exact h.sX
  | some i => exact h.sJ i
theorem ItOk.bound {J : Nat → Foot → World → Prop} {JX : Foot → World → Prop} (h : ItOk J JX) (i : Option Nat) : BoundZ (atI J JX i) := by
  cases i with
  | none => exact h.bX
  | some i => exact h.bJ i

/-- From one environment of an iterator to a later one. -/
structure ItStep (E E' : Env) (Z Z' : Foot) : Prop where
  os : E'.w.os = E.w.os
  tape : E'.w.tape = E.w.tape
  output : E'.w.output = E.w.output
  size : E.w.heap.size ≤ E'.w.heap.size
  block : ∀ b, b < E.w.heap.size → ¬ Z.wr b → ¬ E.owns b → E'.w.heap[b]? = E.w.heap[b]?
  zw : ∀ b, Z'.wr b → Z.wr b ∨ E.w.heap.size ≤ b
  owns : ∀ b, E'.owns b → E.owns b ∨ E.w.heap.size ≤ b

theorem ItStep.refl (E : Env) (Z : Foot) : ItStep E E Z Z := ⟨rfl, rfl, rfl, Nat.le_refl _, fun _ _ _ _ => rfl, fun _ h => .inl h, fun _ h => .inl h⟩
theorem ItStep.trans {A B C : Env} {X Y Z : Foot} (h : ItStep A B X Y) (k : ItStep B C Y Z) : ItStep A C X Z where
  os := k.os.trans h.os
  tape := k.tape.trans h.tape
  output := k.output.trans h.output
  size := Nat.le_trans h.size k.size
  block := fun b hb hz ho => by
    rw [k.block b (Nat.lt_of_lt_of_le hb h.size) (fun hy => by
      rcases h.zw b hy with h1 | h1
      · exact hz h1
      · omega) (fun hy => by
      rcases h.owns b hy with h1 | h1
      · exact ho h1
      · omega)]
    exact h.block b hb hz ho
  zw := fun b hb => by
    rcases k.zw b hb with h1 | h1
    · exact h.zw b h1
    · exact .inr (Nat.le_trans h.size h1)
  owns := fun b hb => by
    rcases k.owns b hb with h1 | h1
    · exact h.owns b h1
    · exact .inr (Nat.le_trans h.size h1)

theorem ItStep.frame {E E' : Env} {Z Z' : Foot} (h : ItStep E E' Z Z') (hn : ∀ l, E.loc l = none) : FrameZ E.w Z E'.w Z' :=
  ⟨h.os, h.tape, h.output, h.size, fun b hb hz => h.block b hb hz (fun ⟨l, L, hL, _⟩ => by rw [hn l] at hL; cases hL), h.zw⟩

/-- A step of the iterator's own leaves the rounds' blocks alone. -/
theorem it_own {J : Nat → Foot → World → Prop} {JX : Foot → World → Prop} (hI : ItOk J JX) {i : Option Nat} {E E' : Env} {Z : Foot} {H H' : List LObj} {m : Nat} {F0 : Nat → Prop} {s0 : Nat} (gi : GI F0 s0 E Z) (hj : atI J JX i Z E.w) (g' : Gam (E.base m) E' H') (_ : H = H) :
    GI F0 s0 E' Z ∧ atI J JX i Z E'.w ∧ ItStep E E' Z Z := by
  have hold : ∀ b, b < E.w.heap.size → ¬ E.owns b → E'.w.heap[b]? = E.w.heap[b]? := fun b h1 h2 => g'.below.block b ⟨h1, h2⟩
  have hz : ∀ b, Z.wr b ∨ Z.rd b → ¬ E.owns b := fun b hb ⟨l, L, hL, hc, he⟩ => by
    subst he
    rcases hb with h | h
    · exact (gi.own l L hL hc).1 h
    · exact (gi.own l L hL hc).2 h
  have own' : ∀ b, E'.owns b → E.owns b ∨ E.w.heap.size ≤ b := by
    rintro b ⟨l, L, hL, hc, rfl⟩
    have h1 := (g'.own l L hL hc).1
    by_cases h2 : L.b < E.w.heap.size
    · left
      by_cases h3 : E.owns L.b
      · exact h3
      · exact absurd ⟨h2, h3⟩ h1
    · exact .inr (Nat.le_of_not_lt h2)
  refine ⟨⟨fun b hb => ?_, fun b hb => ?_, Nat.le_trans gi.sz g'.below.size, fun l L hL hc => ?_, fun b hb hw => ?_, fun b hb => Nat.lt_of_lt_of_le (gi.lt b hb) g'.below.size⟩, ?_, g'.below.os, g'.below.tape, g'.below.output, g'.below.size, fun b h1 _ h3 => hold b h1 h3, fun _ h => .inl h, own'⟩
  · rcases g'.down b hb with h | h
    · exact gi.F0 b h
    · right
      by_cases h1 : b < E.w.heap.size
      · by_cases h2 : E.owns b
        · exact gi.O0 b h2
        · exact absurd ⟨h1, h2⟩ h
      · have := gi.sz; omega
  · rcases own' b hb with h | h
    · exact gi.O0 b h
    · exact Nat.le_trans gi.sz h
  · rcases own' L.b ⟨l, L, hL, hc, rfl⟩ with h | h
    · exact ⟨fun hh => hz _ (.inl hh) h, fun hh => hz _ (.inr hh) h⟩
    · exact ⟨fun hh => by have := gi.lt _ (.inl hh); omega, fun hh => by have := gi.lt _ (.inr hh); omega⟩
  · rcases g'.down b hb with h | h
    · exact gi.F b h hw
    · have h1 := gi.lt b (.inl hw)
      exact h ⟨h1, hz b (.inl hw)⟩
  · exact hI.stable i Z E.w E'.w hj g'.below.os g'.below.tape g'.below.output g'.below.size (fun b hb => hold b (gi.lt b hb) (hz b hb))

end Go.Am

namespace Go.Am
open Go.RowKit

/-- Which of the names are still good. -/
def alN (H' : List LObj) (l : Nat) : Option Nat := match isDead H'[l]? with
  | true => none
  | false => some l
def putL : List Nat → List AV → List AV → List AV
  | t :: ts, x :: xs, sl => putL ts xs (sl.set t x)
  | _, _, sl => sl

section
variable {P : Program} {E0 E E' : Env} {H H' : List LObj}

theorem putL_ok : ∀ (ts : List Nat) (us : List Value) (xs : List AV) {tmps : Array Value} {sl : List AV}, us.length = xs.length → (∀ (i : Nat) (v : Value) (x : AV), us[i]? = some v → xs[i]? = some x → RepV E v x) → SlotsOk E tmps sl →
    SlotsOk E ((ts.zip us).foldl (fun t (p, v) => t.setIfInBounds p v) tmps) (putL ts xs sl) := by
  intro ts
  induction ts with
  | nil => intro us xs tmps sl _ _ h; simpa [putL] using h
  | cons t ts ih =>
    intro us xs tmps sl hl hr h
    cases us with
    | nil => cases xs with
      | nil => simpa [putL] using h
      | cons x xs => simp at hl
    | cons u us => cases xs with
      | nil => simp at hl
      | cons x xs =>
        simp only [List.zip_cons_cons, List.foldl_cons, putL]
        refine ih us xs (by simpa using hl) (fun i v y hv hy => hr (i + 1) v y (by simpa using hv) (by simpa using hy)) ?_
        have := SlotsOk.put (a := { tmps := tmps, defers := [] }) (s := ⟨sl, []⟩) h (some t) (hr 0 u x rfl rfl)
        exact this

theorem alN_ext (g : Gam E0 E H) {m : Nat} (hm : m = H.length) (g' : Gam (E.base m) E' H') : ExtMap (alN H') E E' := by
  have hold : ∀ b, b < E.w.heap.size → ¬ E.owns b → E'.w.heap[b]? = E.w.heap[b]? := fun b h1 h2 => g'.below.block b ⟨h1, h2⟩
  refine ⟨g'.up, fun a ha => World.cell?_of_block (w := E.w) (hold _ (g.lt _ ha) (fun ⟨l, L, hL, hc, he⟩ => (g.own l L hL hc).2.2 (he ▸ ha))), fun q q' L hq hL => ?_⟩
  unfold alN at hq
  split at hq
  · cases hq
  · rename_i hd
    injection hq with hq
    subst hq
    have hlt := g.dom q L hL
    rcases g'.stay q (by subst hm; exact hlt) with h | h
    · rw [h]; exact hL
    · obtain ⟨L9, hL9⟩ := loc_of_alive g' hd
      rw [h] at hL9; cases hL9

/-- The state in which a round begins. -/
def roundSt (s : St) (ps : Array Tmp) (args : List AV) (H : List LObj) : St := ⟨putL ps.toList args (mapL (alN H) s.slots), H⟩
/-- The state behind the loop. -/
def behind (s : St) (H : List LObj) : St := ⟨mapL (alN H) s.slots, H⟩
/-- How a round may end. -/
def endR {X : Type} (s : St) (inv : X → Prop) (ix : X → Nat) (I : X → List LObj) (Q : Exit → St → Prop) (x : X) : Exit → St → Prop
  | .normal, s' => ∃ y, (∃ ks, LeS s.heap.length ks ⟨[], s'.heap⟩ ⟨[], I y⟩) ∧ inv y ∧ ix y = ix x + 1
  | .ret, s' => Q .ret (behind s s'.heap)
  | .exit id, s' => Q (.exit id) (behind s s'.heap)
  | _, _ => False

/-- The loop's record. -/
def recOf (fn : FuncId) (tmps : Array Value) (ps : Array Tmp) (assign body : Code) (D : Nat) (st : LoopState) (pend : Option Code) : Loop := { state := st, pending := pend, fn := fn, tmps := tmps, params := ps, assign := assign, body := body, defers := D }

theorem dummy {E0 E : Env} {H : List LObj} (g : Gam E0 E H) : GamS E0 E ⟨[], H⟩ { tmps := #[], defers := [] } := ⟨g, rfl, fun i v x hv => by simp at hv⟩

theorem owns_ren {ks : Names} {H' : List LObj} {b : Nat} (h : (E.ren ks H').owns b) : E.owns b := by
  obtain ⟨l, L, hL, hc, he⟩ := h
  obtain ⟨l0, h0⟩ := ren_old ks H' l L hL hc
  exact ⟨l0, L, h0, hc, he⟩

theorem gam_putObj (g : Gam E0 E H) {b : Nat} {ob ob' : Obj} (hb : E.w.heap[b]? = some ob) (hc : ∀ cs t fr, ob ≠ .cells cs t fr) (hc' : ∀ cs t fr, ob' ≠ .cells cs t fr) (own : ¬ E.owns b) (new : ¬ E0.old b) :
    Gam E0 { E with w := E.w.putObj b ob' } H ∧ Ext E { E with w := E.w.putObj b ob' } := by
  have hlt : b < E.w.heap.size := (Array.getElem?_eq_some_iff.1 hb).1
  have hoth : ∀ k, k ≠ b → (E.w.putObj b ob').heap[k]? = E.w.heap[k]? := fun k hk => World.putObj_heap_other hk
  have hcell : ∀ a : Addr, (E.w.putObj b ob').cell? a = E.w.cell? a := by
    intro a
    by_cases ha : a.block = b
    · simp only [World.cell?, ha]
      rw [show (E.w.putObj b ob').heap[b]? = some ob' from World.putObj_heap_same hlt, hb]
      cases ob <;> cases ob' <;> first | rfl | exact absurd rfl (hc _ _ _) | exact absurd rfl (hc' _ _ _)
    · exact World.cell?_of_block (w := E.w) (hoth _ ha)
  have e : Ext E { E with w := E.w.putObj b ob' } := ⟨fun _ h => h, fun a _ => hcell a, fun _ _ h => h⟩
  have hsz : (E.w.putObj b ob').heap.size = E.w.heap.size := by simp [World.putObj]
  exact ⟨{
    objs := fun l o hl => (g.objs l o hl).mono e (fun L hL hc9 => hoth _ (fun he => own ⟨l, L, hL, hc9, he⟩))
    dom := g.dom
    own := fun l L hL hc9 => by have := g.own l L hL hc9; exact ⟨this.1, by rw [hsz]; exact this.2.1, this.2.2⟩
    inj := g.inj
    lt := fun b hb => by rw [hsz]; exact g.lt b hb
    up := g.up
    down := g.down
    below := g.below.next rfl rfl rfl (by rw [hsz]; exact Nat.le_refl _) (fun k hk => hoth k (fun e => new (e ▸ hk)))
    stay := g.stay
    hm := g.hm }, e⟩

/-- Between rounds: the caller's environment, with the record and the block for deferred calls. -/
structure Mid (B : Env) (D : Nat) (rc : Loop) (Ei : Env) (Hi : List LObj) : Prop where
  g : Gam B Ei Hi
  rec_ : Ei.w.heap[D + 1]? = some (.loop rc)
  def_ : Ei.w.heap[D]? = some (.deferred (some []))
  no : ∀ b, b = D ∨ b = D + 1 → ¬ Ei.owns b ∧ ¬ B.old b
def Mid.foot (B : Env) (D : Nat) (Ei : Env) : Foot := ⟨fun b => Ei.owns b ∨ b = D + 1, fun b => Ei.F b ∨ b = D ∨ B.old b⟩

/-- The foot is all that it minds. -/
theorem Mid.move {B : Env} {D : Nat} {rc : Loop} {Ei : Env} {Hi : List LObj} (m : Mid B D rc Ei Hi) {W' : World} (hos : W'.os = Ei.w.os) (htape : W'.tape = Ei.w.tape) (hout : W'.output = Ei.w.output) (hsz : Ei.w.heap.size ≤ W'.heap.size)
    (hb : ∀ b, (Mid.foot B D Ei).wr b ∨ (Mid.foot B D Ei).rd b → W'.heap[b]? = Ei.w.heap[b]?) : Mid B D rc { Ei with w := W' } Hi where
  g := gam_world m.g hos htape hout hsz (fun b h => hb b (by
    rcases h with h | h | h
    · exact .inl (.inl h)
    · exact .inr (.inl h)
    · exact .inr (.inr (.inr h))))
  rec_ := (hb (D + 1) (.inl (.inr rfl))).trans m.rec_
  def_ := (hb D (.inr (.inr (.inl rfl)))).trans m.def_
  no := m.no

theorem Mid.bound {B : Env} {D : Nat} {rc : Loop} {Ei : Env} {Hi : List LObj} (m : Mid B D rc Ei Hi) {b : Nat} (h : (Mid.foot B D Ei).wr b ∨ (Mid.foot B D Ei).rd b) : b < Ei.w.heap.size := by
  rcases h with (⟨l, L, hL, hc, rfl⟩ | rfl) | (h | rfl | h)
  · exact (m.g.own l L hL hc).2.1
  · exact (Array.getElem?_eq_some_iff.1 m.rec_).1
  · exact m.g.lt b h
  · exact (Array.getElem?_eq_some_iff.1 m.def_).1
  · exact Env.old_lt m.g.below h

def outcome (s : St) (Q : Exit → St → Prop) (c : Code) (Hx : List LObj) : Prop := (c = .ret ∧ Q .ret (behind s Hx)) ∨ ∃ id, c = .exit id ∧ Q (.exit id) (behind s Hx)
def roundsJ {X : Type} (inv : X → Prop) (ix : X → Nat) (I : X → List LObj) (B : Env) (D : Nat) (rc : Loop) (i : Nat) (Z : Foot) (W : World) : Prop :=
  ∃ x Ei, inv x ∧ ix x = i ∧ Ei.w = W ∧ Z = Mid.foot B D Ei ∧ Mid B D rc Ei (I x)
def roundsX (s : St) (Q : Exit → St → Prop) (B : Env) (D : Nat) (rcf : Code → Loop) (Z : Foot) (W : World) : Prop :=
  ∃ c Hx Ei, outcome s Q c Hx ∧ Ei.w = W ∧ Z = Mid.foot B D Ei ∧ Mid B D (rcf c) Ei Hx

variable {X : Type} {inv : X → Prop} {ix : X → Nat} {I : X → List LObj} {s : St} {Q : Exit → St → Prop} {B : Env} {D : Nat}

theorem roundsJ_stable {rc : Loop} (i : Nat) : StableZ (roundsJ inv ix I B D rc i) := by
  rintro Z W W' ⟨x, Ei, hx, hi, rfl, rfl, md⟩ h1 h2 h3 h4 h5
  exact ⟨x, { Ei with w := W' }, hx, hi, rfl, rfl, md.move h1 h2 h3 h4 h5⟩
theorem roundsX_stable {rcf : Code → Loop} : StableZ (roundsX s Q B D rcf) := by
  rintro Z W W' ⟨c, Hx, Ei, ho, rfl, rfl, md⟩ h1 h2 h3 h4 h5
  exact ⟨c, Hx, { Ei with w := W' }, ho, rfl, rfl, md.move h1 h2 h3 h4 h5⟩
theorem roundsJ_bound {rc : Loop} (i : Nat) : BoundZ (roundsJ inv ix I B D rc i) := by
  rintro Z W ⟨x, Ei, hx, hi, rfl, rfl, md⟩ b hb
  exact md.bound hb
theorem roundsX_bound {rcf : Code → Loop} : BoundZ (roundsX s Q B D rcf) := by
  rintro Z W ⟨c, Hx, Ei, ho, rfl, rfl, md⟩ b hb
  exact md.bound hb

theorem zip_fold (ps : Array Tmp) (us : List Value) (tmps : Array Value) : (ps.zip us.toArray).foldl (fun tmps (t, a) => tmps.setIfInBounds t a) tmps = (ps.toList.zip us).foldl (fun t (p, v) => t.setIfInBounds p v) tmps := by
  rw [← Array.foldl_toList]
  simp

/-- A round does what its walk says. -/
theorem round_ok {a : Act} {fn : FuncId} {ps : Array Tmp} {assign body : Code} {n : Nat} {xs : Nat → List AV} (g : Gam E0 E s.heap) (hs : SlotsOk E a.tmps s.slots)
    (hround : ∀ l x, inv x → ix x < n → (xs (ix x)).length = ps.size ∧ AWp s.heap.length (some l) P assign (thenK (AWp s.heap.length (some l) P body (endR s inv ix I Q x)) (fun _ _ => False)) (roundSt s ps (xs (ix x)) (I x))) :
    RoundOk P E.F (E.w.heap.size + 2) (E.w.heap.size + 1) n xs (roundsJ inv ix I (E.base s.heap.length) E.w.heap.size (recOf fn a.tmps ps assign body E.w.heap.size .ready none))
      (roundsX s Q (E.base s.heap.length) E.w.heap.size fun c => recOf fn a.tmps ps assign body E.w.heap.size .done (some c)) := by
  rintro i Z W Fi us hin ⟨x, Ei, hx, rfl, rfl, rfl, md⟩ hF hul hur d
  obtain ⟨hlen, hawp⟩ := hround (E.w.heap.size + 1) x hx hin
  let Ei1 : Env := { Ei with F := fun b => Ei.F b ∨ Fi b }
  have e1 : Ext Ei Ei1 → True := fun _ => trivial
  have hfi : ∀ b, Fi b → b < Ei.w.heap.size ∧ ¬ Ei.owns b ∧ ¬ (E.base s.heap.length).old b ∨ b < Ei.w.heap.size ∧ ¬ Ei.owns b ∧ E.F b := fun b hb => by
    obtain ⟨h1, h2, h3⟩ := hF b hb
    rcases h3 with h3 | h3
    · exact .inr ⟨h1, fun hh => h2 (.inl hh), h3⟩
    · exact .inl ⟨h1, fun hh => h2 (.inl hh), fun ho => by have h9 : b < E.w.heap.size := ho.1; omega⟩
  have g1 : Gam (E.base s.heap.length) Ei1 (I x) := {
    objs := fun l o hl => (md.g.objs l o hl).mono (E' := Ei1) ⟨fun _ h => .inl h, fun _ _ => rfl, fun _ _ h => h⟩ (fun _ _ _ => rfl)
    dom := md.g.dom
    own := fun l L hL hc => by
      have h1 := md.g.own l L hL hc
      refine ⟨h1.1, h1.2.1, fun hh => ?_⟩
      rcases hh with hh | hh
      · exact h1.2.2 hh
      · rcases hfi _ hh with h2 | h2
        · exact h2.2.1 ⟨l, L, hL, hc, rfl⟩
        · exact h2.2.1 ⟨l, L, hL, hc, rfl⟩
    inj := md.g.inj
    lt := fun b hb => by
      rcases hb with hb | hb
      · exact md.g.lt b hb
      · exact (hF b hb).1
    up := fun b hb => .inl (md.g.up b hb)
    down := fun b hb => by
      rcases hb with hb | hb
      · exact md.g.down b hb
      · rcases hfi _ hb with h2 | h2
        · exact .inr h2.2.2
        · exact .inl h2.2.2
    below := md.g.below
    stay := md.g.stay
    hm := md.g.hm }
  have hsl : SlotsOk Ei1 a.tmps (mapL (alN (I x)) s.slots) := (hs.map (alN_ext g rfl md.g)).mono ⟨fun _ h => .inl h, fun _ _ => rfl, fun _ _ h => h⟩
  have hsl2 : SlotsOk Ei1 ((ps.zip us.toArray).foldl (fun tmps (t, a) => tmps.setIfInBounds t a) a.tmps) (roundSt s ps (xs (ix x)) (I x)).slots := by
    rw [zip_fold]
    exact putL_ok ps.toList us (xs (ix x)) hul (fun j v y hv hy => (hur j v y hv hy).mono ⟨fun b hb => .inr hb, fun _ _ => rfl, fun _ _ h => by simp [itEnv] at h⟩) hsl
  have hm : s.heap.length ≤ (I x).length := md.g.hm
  refine ⟨fn, _, assign, body, run_yield (r := recOf fn a.tmps ps assign body E.w.heap.size .ready none) md.rec_ (by simp [recOf, hul, hlen]), ?_⟩
  refine roundIn_of_wpIn (F := Fence.wide) trivial ?_
  have hw0 : Fence.wide.inRound (E.w.heap.size + 1) = wideR (some (E.w.heap.size + 1)) := rfl
  rw [hw0]
  refine wpIn_mono (hawp (Ei1.base s.heap.length) Ei1 { tmps := _, defers := [] } d [] rfl ⟨gam_self g1 _ hm, hsl2⟩ rfl) ?_
  rintro e a1 w1 ⟨s1, E1, hQ1, g1', rfl, hd1⟩
  have hold1 : ∀ b, b < Ei.w.heap.size → ¬ Ei.owns b → E1.w.heap[b]? = Ei.w.heap[b]? := fun b h1 h2 => g1'.below.block b ⟨h1, h2⟩
  have hown1 : ∀ b, E1.owns b → Ei.owns b ∨ Ei.w.heap.size ≤ b := by
    rintro b ⟨l, L, hL, hc, rfl⟩
    have h1 := (g1'.own l L hL hc).1
    by_cases h2 : L.b < Ei.w.heap.size
    · by_cases h3 : Ei.owns L.b
      · exact .inl h3
      · exact absurd ⟨h2, h3⟩ h1
    · exact .inr (Nat.le_of_not_lt h2)
  have hsz1 : Ei.w.heap.size ≤ E1.w.heap.size := g1'.below.size
  have hDlt : E.w.heap.size < Ei.w.heap.size := (Array.getElem?_eq_some_iff.1 md.def_).1
  have hRlt : E.w.heap.size + 1 < Ei.w.heap.size := (Array.getElem?_eq_some_iff.1 md.rec_).1
  have hnD := md.no E.w.heap.size (.inl rfl)
  have hnR := md.no (E.w.heap.size + 1) (.inr rfl)
  have hr1 : E1.w.heap[E.w.heap.size + 1]? = some (.loop (recOf fn a.tmps ps assign body E.w.heap.size .ready none)) := (hold1 _ hRlt hnR.1).trans md.rec_
  have hd1' : E1.w.heap[E.w.heap.size]? = some (.deferred (some [])) := (hold1 _ hDlt hnD.1).trans md.def_
  have hno1 : ∀ b, b = E.w.heap.size ∨ b = E.w.heap.size + 1 → ¬ E1.owns b := fun b hb hh => by
    rcases hown1 b hh with h | h
    · exact (md.no b hb).1 h
    · omega
  have gB1 : Gam (E.base s.heap.length) E1 s1.heap := gam_trans g1 (Nat.le_refl _) g1'.toGam
  cases e with
  | normal =>
    obtain ⟨g2, e2⟩ := gam_putObj (ob' := .loop { (recOf fn a.tmps ps assign body E.w.heap.size .ready none) with state := .busy }) gB1 hr1 (by intros; simp) (by intros; simp) (hno1 _ (.inr rfl)) hnR.2
    refine ⟨_, run_beginRound hr1 rfl, ?_⟩
    let E2 : Env := { E1 with w := E1.w.putObj (E.w.heap.size + 1) (.loop { (recOf fn a.tmps ps assign body E.w.heap.size .ready none) with state := .busy }) }
    have hm1 : s.heap.length ≤ s1.heap.length := g1'.hm
    have hrlt1 : E.w.heap.size + 1 < E1.w.heap.size := Nat.lt_of_lt_of_le hRlt hsz1
    have hd1e : a1.defers = [] := hd1
    refine wpIn_mono (hQ1 (E2.base s.heap.length) E2 a1 d [] rfl ⟨gam_self g2 _ hm1, g1'.slots.mono e2⟩ hd1e) ?_
    rintro e3 a3 w3 ⟨s3, E3, hQ3, g3', rfl, hd3⟩
    have hsz2 : E2.w.heap.size = E1.w.heap.size := by simp [E2, World.putObj]
    have hold3 : ∀ b, b < E1.w.heap.size → ¬ E1.owns b → E3.w.heap[b]? = E2.w.heap[b]? := fun b h1 h2 => g3'.below.block b ⟨by show b < E2.w.heap.size; rw [hsz2]; exact h1, h2⟩
    have hsz3 : E1.w.heap.size ≤ E3.w.heap.size := by
      have : E2.w.heap.size ≤ E3.w.heap.size := g3'.below.size
      omega
    have hown3 : ∀ b, E3.owns b → Ei.owns b ∨ Ei.w.heap.size ≤ b := by
      rintro b ⟨l, L, hL, hc, rfl⟩
      have h1 := (g3'.own l L hL hc).1
      by_cases h2 : L.b < E2.w.heap.size
      · by_cases h3 : E2.owns L.b
        · exact hown1 _ h3
        · exact absurd ⟨h2, h3⟩ h1
      · right; omega
    have hr3 : E3.w.heap[E.w.heap.size + 1]? = some (.loop { (recOf fn a.tmps ps assign body E.w.heap.size .ready none) with state := .busy }) := by
      rw [hold3 _ hrlt1 (hno1 _ (.inr rfl))]
      exact World.putObj_heap_same hrlt1
    have hd3' : E3.w.heap[E.w.heap.size]? = some (.deferred (some [])) := by
      rw [hold3 _ (by omega) (hno1 _ (.inl rfl))]
      rw [show E2.w.heap[E.w.heap.size]? = E1.w.heap[E.w.heap.size]? from World.putObj_heap_other (by omega)]
      exact hd1'
    have hno3 : ∀ b, b = E.w.heap.size ∨ b = E.w.heap.size + 1 → ¬ E3.owns b := fun b hb hh => by
      rcases hown3 b hh with h | h
      · exact (md.no b hb).1 h
      · omega
    have gB3 : Gam (E.base s.heap.length) E3 s3.heap := gam_trans g2 (Nat.le_refl _) g3'.toGam
    have hF3 : ∀ b, E3.F b → Ei.F b ∨ Ei.owns b ∨ Fi b ∨ Ei.w.heap.size ≤ b := by
      intro b hb
      have key : ∀ b, E1.F b → Ei.F b ∨ Ei.owns b ∨ Fi b ∨ Ei.w.heap.size ≤ b := by
        intro b hb
        rcases g1'.down b hb with h | h
        · rcases h with h | h
          · exact .inl h
          · exact .inr (.inr (.inl h))
        · by_cases h2 : b < Ei.w.heap.size
          · by_cases h3 : Ei.owns b
            · exact .inr (.inl h3)
            · exact absurd ⟨h2, h3⟩ h
          · exact .inr (.inr (.inr (Nat.le_of_not_lt h2)))
      rcases g3'.down b hb with h | h
      · exact key b h
      · by_cases h2 : b < E2.w.heap.size
        · by_cases h3 : E2.owns b
          · rcases hown1 b h3 with h4 | h4
            · exact .inr (.inl h4)
            · exact .inr (.inr (.inr h4))
          · exact absurd ⟨h2, h3⟩ h
        · right; right; right; omega
    -- the end: whatever the record becomes
    have fin : ∀ (rc' : Loop), ∃ E4 : Env, E4.w = E3.w.putObj (E.w.heap.size + 1) (.loop rc') ∧ E4.loc = E3.loc ∧ E4.F = E3.F ∧ Mid (E.base s.heap.length) E.w.heap.size rc' E4 s3.heap ∧
        FrameZ Ei.w (Mid.foot (E.base s.heap.length) E.w.heap.size Ei) E4.w (Mid.foot (E.base s.heap.length) E.w.heap.size E4) := by
      intro rc'
      obtain ⟨g4, _⟩ := gam_putObj (ob' := .loop rc') gB3 hr3 (by intros; simp) (by intros; simp) (hno3 _ (.inr rfl)) hnR.2
      have hrlt3 : E.w.heap.size + 1 < E3.w.heap.size := by omega
      refine ⟨{ E3 with w := E3.w.putObj (E.w.heap.size + 1) (.loop rc') }, rfl, rfl, rfl, ⟨g4, World.putObj_heap_same hrlt3, ?_, fun b hb => ⟨hno3 b hb, (md.no b hb).2⟩⟩, ?_⟩
      · show (E3.w.putObj (E.w.heap.size + 1) (.loop rc')).heap[E.w.heap.size]? = _
        rw [World.putObj_heap_other (by omega)]
        exact hd3'
      · refine ⟨?_, ?_, ?_, ?_, fun b h1 h2 => ?_, fun b hb => ?_⟩
        · exact gB3.below.os.trans md.g.below.os.symm
        · exact gB3.below.tape.trans md.g.below.tape.symm
        · exact gB3.below.output.trans md.g.below.output.symm
        · show _ ≤ (E3.w.putObj (E.w.heap.size + 1) (.loop rc')).heap.size
          simp only [World.putObj, Array.size_setIfInBounds]
          omega
        · show (E3.w.putObj (E.w.heap.size + 1) (.loop rc')).heap[b]? = _
          have hbR : b ≠ E.w.heap.size + 1 := fun he => h2 (.inr he)
          have hbo : ¬ Ei.owns b := fun he => h2 (.inl he)
          have hbo1 : ¬ E1.owns b := fun he => by
            rcases hown1 b he with h | h
            · exact hbo h
            · omega
          rw [World.putObj_heap_other hbR, hold3 b (by omega) hbo1, show E2.w.heap[b]? = E1.w.heap[b]? from World.putObj_heap_other hbR]
          exact hold1 b h1 hbo
        · rcases hb with hb | hb
          · rcases hown3 b hb with h | h
            · exact .inl (.inl h)
            · exact .inr h
          · exact .inl (.inr hb)
    have hzr : ∀ (E4 : Env), (∀ b, E4.F b → E3.F b) → ∀ b, (Mid.foot (E.base s.heap.length) E.w.heap.size E4).rd b → (Mid.foot (E.base s.heap.length) E.w.heap.size Ei).rd b ∨ (Mid.foot (E.base s.heap.length) E.w.heap.size Ei).wr b ∨ Fi b ∨ Ei.w.heap.size ≤ b := by
      intro E4 hE4 b hb
      rcases hb with hb | hb
      · rcases hF3 b (hE4 b hb) with h | h | h | h
        · exact .inl (.inl h)
        · exact .inr (.inl (.inl h))
        · exact .inr (.inr (.inl h))
        · exact .inr (.inr (.inr h))
      · exact .inl (.inr hb)
    have hX : ∀ c, outcome s Q c s3.heap → ∃ v w', (Instr.endRound (E.w.heap.size + 1) (some c)).run P E3.w = .ok v w' ∧ ∃ Z', FrameZ Ei.w (Mid.foot (E.base s.heap.length) E.w.heap.size Ei) w' Z' ∧
        (∀ b, Z'.rd b → (Mid.foot (E.base s.heap.length) E.w.heap.size Ei).rd b ∨ (Mid.foot (E.base s.heap.length) E.w.heap.size Ei).wr b ∨ Fi b ∨ Ei.w.heap.size ≤ b) ∧
        ((Ending.returned v = .returned (.bool true) ∧ roundsJ inv ix I (E.base s.heap.length) E.w.heap.size (recOf fn a.tmps ps assign body E.w.heap.size .ready none) (ix x + 1) Z' w') ∨
         (Ending.returned v = .returned (.bool false) ∧ roundsX s Q (E.base s.heap.length) E.w.heap.size (fun c => recOf fn a.tmps ps assign body E.w.heap.size .done (some c)) Z' w')) := by
      intro c hc
      obtain ⟨E4, hw4, hl4, hF4, md4, fr4⟩ := fin (recOf fn a.tmps ps assign body E.w.heap.size .done (some c))
      refine ⟨_, _, run_endRound (some c) hr3, Mid.foot (E.base s.heap.length) E.w.heap.size E4, ?_, hzr E4 (fun b hb => by rw [← hF4]; exact hb), .inr ⟨rfl, c, s3.heap, E4, hc, ?_, rfl, md4⟩⟩
      · have : E3.w.putObj (E.w.heap.size + 1) (.loop (recOf fn a.tmps ps assign body E.w.heap.size .done (some c))) = E4.w := hw4.symm
        exact this ▸ fr4
      · rw [hw4]; rfl
    cases e3 with
    | normal =>
      obtain ⟨y, ⟨ks, hle⟩, hy, hiy⟩ := hQ3
      obtain ⟨E4, hw4, hl4, hF4, md4, fr4⟩ := fin (recOf fn a.tmps ps assign body E.w.heap.size .ready none)
      have gr := le_sound (nb := s.heap.length) rfl (dummy md4.g) hle
      refine ⟨_, _, run_endRound none hr3, Mid.foot (E.base s.heap.length) E.w.heap.size (E4.ren ks (I y)), ?_, hzr (E4.ren ks (I y)) (fun b hb => by rw [← hF4]; exact hb), .inl ⟨rfl, y, E4.ren ks (I y), hy, hiy, ?_, rfl, ?_⟩⟩
      · have h9 : FrameZ Ei.w (Mid.foot (E.base s.heap.length) E.w.heap.size Ei) E4.w (Mid.foot (E.base s.heap.length) E.w.heap.size (E4.ren ks (I y))) :=
          ⟨fr4.os, fr4.tape, fr4.output, fr4.size, fr4.block, fun b hb => fr4.zw b (by
            rcases hb with hb | hb
            · exact .inl (owns_ren hb)
            · exact .inr hb)⟩
        have : E3.w.putObj (E.w.heap.size + 1) (.loop (recOf fn a.tmps ps assign body E.w.heap.size .ready none)) = E4.w := hw4.symm
        exact this ▸ h9
      · show E4.w = _
        rw [hw4]; rfl
      · exact ⟨gr.toGam, md4.rec_, md4.def_, fun b hb => ⟨fun hh => (md4.no b hb).1 (owns_ren hh), (md4.no b hb).2⟩⟩
    | ret => exact hX .ret (.inl ⟨rfl, hQ3⟩)
    | exit id => exact hX (.exit id) (.inr ⟨id, rfl, hQ3⟩)
    | goto t => exact hQ3.elim
    | panic c => exact hQ3.elim
    | outgrown => exact hQ3.elim
  | exit id => exact hQ1.elim
  | goto t => exact hQ1.elim
  | ret => exact hQ1.elim
  | panic c => exact hQ1.elim
  | outgrown => exact hQ1.elim

/-- Behind the loop: the record is worn out, the mark is laid. -/
theorem behind_ok {a : Act} {E Ei : Env} {rc rc' : Loop} {Hx : List LObj} {R : List (Nat × Obj)} (gs : GamS E0 E s a) (hd : Prot E0 R E a.defers) (md : Mid (E.base s.heap.length) E.w.heap.size rc Ei Hx) :
    ∃ E' : Env, E'.w = Ei.w.putObj (E.w.heap.size + 1) (.loop rc') ∧ GamS E0 E' (behind s Hx) { a with defers := mark E.w.heap.size :: a.defers } ∧ Prot E0 R E' (mark E.w.heap.size :: a.defers) := by
  have hnR := md.no (E.w.heap.size + 1) (.inr rfl)
  have hnD := md.no E.w.heap.size (.inl rfl)
  obtain ⟨g4, e4⟩ := gam_putObj (ob' := .loop rc') md.g md.rec_ (by intros; simp) (by intros; simp) hnR.1 hnR.2
  let E' : Env := { Ei with w := Ei.w.putObj (E.w.heap.size + 1) (.loop rc') }
  have gt : Gam E0 E' Hx := gam_trans gs.toGam gs.hm g4
  have hkeep : ∀ (D' : Nat) (ob : Obj), (E.w.heap[D']? = some ob ∧ ∀ l L, E.loc l = some L → 0 < L.cap → L.b ≠ D') → E'.w.heap[D']? = some ob ∧ ∀ l L, E'.loc l = some L → 0 < L.cap → L.b ≠ D' := by
    intro D' ob h
    have hlt : D' < E.w.heap.size := (Array.getElem?_eq_some_iff.1 h.1).1
    have hold : (E.base s.heap.length).old D' := ⟨hlt, fun ⟨l, L, hL, hc, he⟩ => h.2 l L hL hc he⟩
    refine ⟨?_, fun l L hL hc he => ?_⟩
    · show (Ei.w.putObj (E.w.heap.size + 1) (.loop rc')).heap[D']? = _
      rw [World.putObj_heap_other (by omega), md.g.below.block D' hold]
      exact h.1
    · exact (md.g.own l L hL hc).1 (he ▸ hold)
  refine ⟨E', rfl, ⟨gt, gs.slots.map (alN_ext gs.toGam rfl g4)⟩, ⟨?_, fun p hp => hkeep p.1 p.2 (hd.res p hp)⟩⟩
  obtain ⟨Ds, hn, hds, hok⟩ := hd.marks
  refine ⟨E.w.heap.size :: Ds, List.nodup_cons.2 ⟨fun hin => ?_, hn⟩, by rw [hds]; rfl, fun D' hD' => ?_⟩
  · have := (hok _ hin).at_
    have := (Array.getElem?_eq_some_iff.1 this).1
    omega
  · rcases List.mem_cons.1 hD' with rfl | hD'
    · refine ⟨?_, fun l L hL hc he => hnD.1 ⟨l, L, hL, hc, he⟩, fun ho => ?_⟩
      · show (Ei.w.putObj (E.w.heap.size + 1) (.loop rc')).heap[E.w.heap.size]? = _
        rw [World.putObj_heap_other (by omega)]
        exact md.def_
      · have := Env.old_lt gs.below ho
        omega
    · have h := hok D' hD'
      have := hkeep D' _ ⟨h.at_, h.own⟩
      exact ⟨this.1, this.2, h.new⟩

/-- A RANGE OVER A FUNCTION, by a family of heaps at the rounds' heads. -/
theorem awp_rangeFunc {nb : Nat} {f : FuncId} {caps : List AV} {n : Nat} {xs : Nat → List AV} (hseq : SeqSpec P f caps n xs) (hent : Enters P f) {g : Operand} {ps : Array Tmp} {assign body : Code} (hg : s.ev g = .clo (.func f) caps) (him : immL caps = true) (hgood : caps.all goodCap = true)
    (h0 : ∃ x, (∃ ks, LeS s.heap.length ks ⟨[], s.heap⟩ ⟨[], I x⟩) ∧ inv x ∧ ix x = 0)
    (hround : ∀ l x, inv x → ix x < n → (xs (ix x)).length = ps.size ∧ AWp s.heap.length (some l) P assign (thenK (AWp s.heap.length (some l) P body (endR s inv ix I Q x)) (fun _ _ => False)) (roundSt s ps (xs (ix x)) (I x)))
    (hdone : ∀ x, inv x → ix x = n → Q .normal (behind s (I x))) : AWp nb none P (.rangeFunc g ps assign body) Q s := by
  intro E0 E a d R hb gs hd
  refine wpIn_rangeFunc (fun fn _ => ?_)
  have hev := gs.slots.ev g
  rw [hg] at hev
  obtain ⟨vs, hfv, hvl, hvr⟩ := callee_spec (f := f) (caps := caps) hev (by simp only [calleeOf, hgood])
  let rc := recOf fn a.tmps ps assign body E.w.heap.size .ready none
  let w1 : World := (E.w.alloc (.deferred (some []))).alloc (.loop rc)
  have hs1 : w1.heap.size = E.w.heap.size + 2 := by simp [w1]
  have hold1 : ∀ b, b < E.w.heap.size → w1.heap[b]? = E.w.heap[b]? := fun b hb => by
    rw [show w1.heap[b]? = (E.w.alloc (.deferred (some []))).heap[b]? from Below.heap_alloc _ _ _ (by simp; omega)]
    exact Below.heap_alloc _ _ _ hb
  refine ⟨E.w.heap.size + 1, [mark E.w.heap.size], w1, { target := .fn (.func f) vs.toArray, args := #[.func (.yield (E.w.heap.size + 1)) #[] #[]] }, w1, f, #[.func (.yield (E.w.heap.size + 1)) #[] #[]] ++ vs.toArray, w1,
    run_enterLoop_outer fn a.tmps ps assign body, ?_, fun _ _ => trivial, ?_, fun hh => by simp [wideR, Fence.wide] at hh, ?_⟩
  · simp only [resolve, Deferred.ofValue]
    rw [hfv]
    simp [Sem.run_pure, Act.eval]
  · simp only [invoke]
    exact hent _ _
  · have gB : Gam (E.base s.heap.length) { E with w := w1 } s.heap := gam_world (gam_self gs.toGam _ (Nat.le_refl _)) rfl rfl rfl (by rw [hs1]; show E.w.heap.size ≤ _; omega) (fun b hb => hold1 b (by
      rcases hb with ⟨l, L, hL, hc, rfl⟩ | hb | hb
      · exact (gs.own l L hL hc).2.1
      · exact gs.lt b hb
      · exact hb.1))
    obtain ⟨x0, ⟨ks, hle⟩, hx0, hi0⟩ := h0
    have gr := le_sound (nb := s.heap.length) rfl (dummy gB) hle
    let Er : Env := ({ E with w := w1 } : Env).ren ks (I x0)
    have howr : ∀ b, Er.owns b → E.owns b := fun b hh => owns_ren (E := { E with w := w1 }) hh
    have hDlt : ∀ b, b = E.w.heap.size ∨ b = E.w.heap.size + 1 → ¬ E.owns b := fun b hb ⟨l, L, hL, hc, he⟩ => by
      have := (gs.own l L hL hc).2.1
      omega
    have md0 : Mid (E.base s.heap.length) E.w.heap.size rc Er (I x0) := ⟨gr.toGam, by
      show w1.heap[E.w.heap.size + 1]? = _
      have := World.alloc_heap_new (E.w.alloc (.deferred (some []))) (.loop rc)
      rwa [World.size_alloc] at this, by
      show w1.heap[E.w.heap.size]? = _
      rw [show w1.heap[E.w.heap.size]? = (E.w.alloc (.deferred (some []))).heap[E.w.heap.size]? from Below.heap_alloc _ _ _ (by simp)]
      exact World.alloc_heap_new E.w _, fun b hb => ⟨fun hh => hDlt b hb (howr b hh), fun ho => by have h9 : b < E.w.heap.size := ho.1; omega⟩⟩
    have hcall := hseq (itEnv w1 E.F) vs (E.w.heap.size + 1) (roundsJ inv ix I (E.base s.heap.length) E.w.heap.size rc) (roundsX s Q (E.base s.heap.length) E.w.heap.size fun c => recOf fn a.tmps ps assign body E.w.heap.size .done (some c))
      (Mid.foot (E.base s.heap.length) E.w.heap.size Er) (fun _ => rfl) rfl (fun b hb => ⟨by show b < w1.heap.size; have := gs.lt b hb; omega, fun hh => by
        rcases hh with hh | hh
        · obtain ⟨l, L, hL, hc, rfl⟩ := howr b hh
          exact (gs.own l L hL hc).2.2 hb
        · have := gs.lt b hb; omega⟩) hvl
      (fun i v x hv hx => (repV_imm (hvr i v x hv hx) (immL_get him hx)).mono ⟨fun _ h => h, fun a' ha => World.cell?_of_block (w := E.w) (hold1 _ (gs.lt _ ha)), fun _ _ h => by simp at h⟩)
      (fun i => roundsJ_stable i) roundsX_stable (fun i => roundsJ_bound i) roundsX_bound (by
        have := round_ok (P := P) (n := n) (xs := xs) (fn := fn) gs.toGam gs.slots hround
        have e1 : (itEnv w1 E.F).w.heap.size = E.w.heap.size + 2 := hs1
        rw [e1]
        exact this) ⟨x0, Er, hx0, hi0, rfl, rfl, md0⟩
    have hw0 : wideR none = Fence.wide := rfl
    rw [hw0]
    refine callsIn_wide.2 (hcall.mono ?_)
    rintro e w' ⟨⟨v, rfl⟩, Z', fr, hJ⟩
    have hd0 : Prot E0 R E a.defers := hd
    rcases hJ with ⟨x, Ei, hx, hix, rfl, _, md⟩ | ⟨c, Hx, Ei, ho, rfl, _, md⟩
    · obtain ⟨E', hw', g', hp'⟩ := behind_ok (rc' := { rc with state := .exhausted }) gs hd0 md
      refine ⟨none, _, run_endLoop md.rec_ (by simp [rc, recOf]), ?_⟩
      exact ⟨_, E', hdone x hx hix, g', hw', hp'⟩
    · obtain ⟨E', hw', g', hp'⟩ := behind_ok (rc' := { (recOf fn a.tmps ps assign body E.w.heap.size .done (some c)) with state := .exhausted }) gs hd0 md
      refine ⟨some c, _, run_endLoop md.rec_ (by simp [recOf]), ?_⟩
      rcases ho with ⟨rfl, hQ⟩ | ⟨id, rfl, hQ⟩
      · exact wpIn_ret ⟨_, E', hQ, g', hw', hp'⟩
      · exact wpIn_exit ⟨_, E', hQ, g', hw', hp'⟩

end
end Go.Am

namespace Go.Am
open Go.RowKit

/-- For a loop (by the number of the first region in it): the family of states at its head, when it may be there, how many rounds at most; what belongs to the inside. For a cut ahead of a region: the family of states there; what belongs to the rest. -/
inductive Ann : Type 1 where
  | loop (id : Nat) (X : Type) (inv : X → Prop) (I : X → St) (μ : X → Nat) (inner : X → List Ann)
  | cut (id : Nat) (X : Type) (inv : X → Prop) (I : X → St) (rest : X → List Ann)
  | range (id : Nat) (X : Type) (inv : X → Prop) (ix : X → Nat) (I : X → List LObj) (inner : X → List Ann)

def firstReg : Code → Option Nat
  | .region id _ _ => some id
  | .seq a b => match firstReg a with
    | some i => some i
    | none => firstReg b
  | .cond _ a b => match firstReg a with
    | some i => some i
    | none => firstReg b
  | .block _ c => firstReg c
  | .loop c => firstReg c
  | .scope c => firstReg c
  | .rangeFunc _ _ a b => match firstReg a with
    | some i => some i
    | none => firstReg b
  | _ => none

def findCut : List Ann → Option Nat → Option Ann
  | _, none => none
  | [], some _ => none
  | .cut id X inv I rest :: an, some i => match Nat.beq id i with
    | true => some (.cut id X inv I rest)
    | false => findCut an (some i)
  | _ :: an, some i => findCut an (some i)
def findLoop : List Ann → Option Nat → Option Ann
  | _, none => none
  | [], some _ => none
  | .loop id X inv I μ inner :: an, some i => match Nat.beq id i with
    | true => some (.loop id X inv I μ inner)
    | false => findLoop an (some i)
  | _ :: an, some i => findLoop an (some i)

def findRange : List Ann → Option Nat → Option Ann
  | _, none => none
  | [], some _ => none
  | .range id X inv ix I inner :: an, some i => match Nat.beq id i with
    | true => some (.range id X inv ix I inner)
    | false => findRange an (some i)
  | _ :: an, some i => findRange an (some i)

/- Which names are which: read off the slots, and off the objects that these lead to. -/
mutual
def pairA : AV → AV → List (Nat × Nm)
  | .own l _ _, y => match y with
    | .own l' _ _ => [(l', .old l)]
    | _ => []
  | .ptr l _ _ _, y => match y with
    | .ptr l' _ _ _ => [(l', .old l)]
    | _ => []
  | .mp l, y => match y with
    | .mp l' => [(l', .old l)]
    | _ => []
  | .pl _, y => match y with
    | .own l' _ _ => [(l', .new)]
    | _ => []
  | .emp, y => match y with
    | .own l' _ _ => [(l', .new)]
    | _ => []
  | .agg cs, y => match y with
    | .agg ds => pairL cs ds
    | _ => []
  | .tup cs, y => match y with
    | .tup ds => pairL cs ds
    | _ => []
  | .clo _ cs, y => match y with
    | .clo _ ds => pairL cs ds
    | _ => []
  | .ifc _ x, y => match y with
    | .ifc _ z => pairA x z
    | _ => []
  | _, _ => []
def pairL : List AV → List AV → List (Nat × Nm)
  | c :: cs, d :: ds => pairA c d ++ pairL cs ds
  | _, _ => []
end
def hasKey (j : Nat) : List (Nat × Nm) → Bool
  | [] => false
  | (i, _) :: r => match Nat.beq i j with
    | true => true
    | false => hasKey j r
def pairGo (H H' : List LObj) : Nat → List (Nat × Nm) → List (Nat × Nm) → List (Nat × Nm)
  | 0, _, acc => acc
  | _ + 1, [], acc => acc
  | n + 1, (j, k) :: todo, acc => match hasKey j acc with
    | true => pairGo H H' n todo acc
    | false => match k with
      | .old q => match H[q]?, H'[j]? with
        | some (.box _ cs), some (.box _ ds) => pairGo H H' n (pairL cs ds ++ todo) ((j, k) :: acc)
        | _, _ => pairGo H H' n todo ((j, k) :: acc)
      | _ => pairGo H H' n todo ((j, k) :: acc)
def keyOf (j : Nat) : List (Nat × Nm) → Option Nm
  | [] => none
  | (i, k) :: r => match Nat.beq i j with
    | true => some k
    | false => keyOf j r
def namesGo (nb : Nat) (ps : List (Nat × Nm)) : Nat → List LObj → List Nm
  | _, [] => []
  | j, o :: os => (match o with
    | .dead => .gone
    | _ => match Nat.blt j nb with
      | true => .old j
      | false => match keyOf j ps with
        | some k => k
        | none => .new) :: namesGo nb ps (j + 1) os
/-- What was handed over is found under its own name. -/
def ownPairs : Nat → Nat → List (Nat × Nm)
  | 0, _ => []
  | n + 1, j => (j, .old j) :: ownPairs n (j + 1)
def inferN (nb : Nat) (s s' : St) : Names := namesGo nb (pairGo s.heap s'.heap 1000 (ownPairs nb 0 ++ pairL s.slots s'.slots) []) 0 s'.heap

def forceNm : Names → (Names → Prop) → Prop
  | [], k => k []
  | .old q :: ks, k => forceN q fun q => forceNm ks fun ks => k (.old q :: ks)
  | .new :: ks, k => forceNm ks fun ks => k (.new :: ks)
  | .gone :: ks, k => forceNm ks fun ks => k (.gone :: ks)
theorem forceNm_eq : ∀ (ks : Names) (k : Names → Prop), forceNm ks k = k ks := by
  intro ks
  induction ks with
  | nil => intro k; rfl
  | cons c ks ih => intro k; cases c <;> simp only [forceNm, forceN_eq, ih]

def leSt (nb : Nat) (s s' : St) (R : Prop) : Prop := forceS s fun s => forceNm (inferN nb s s') fun ks => match nodupB ks && prefB nb 0 ks with
  | true => leSlots ks s.slots s'.slots ∧ leHeap ks s.heap ks s'.heap ∧ R
  | false => False

theorem leSt_spec {nb : Nat} {s s' : St} {R : Prop} (h : leSt nb s s' R) : (∃ ks, LeS nb ks s s') ∧ R := by
  unfold leSt at h
  rw [forceS_eq, forceNm_eq] at h
  split at h
  · rename_i hn
    rw [Bool.and_eq_true] at hn
    exact ⟨⟨_, hn.1, hn.2, h.1, h.2.1⟩, h.2.2⟩
  · exact h.elim

/-- A state of slots: how many, and which are known. -/
def slotsOf : Nat → Nat → List (Nat × AV) → List AV
  | 0, _, _ => []
  | n + 1, i, kv => look1 i kv :: slotsOf n (i + 1) kv
where look1 (i : Nat) : List (Nat × AV) → AV
  | [] => .any
  | (j, x) :: r => match Nat.beq i j with
    | true => x
    | false => look1 i r

/-- Regions that call nothing leave everything in sight. -/
def callsAny : List Oper → Bool
  | [] => false
  | o :: os => match o.op with
    | .call { callee := .builtin _, .. } => callsAny os
    | .call _ => true
    | .store _ _ _ => true
    | _ => callsAny os

/-- How a round may end. -/
def endV {X : Type} (s : St) (inv : X → Prop) (ix : X → Nat) (I : X → List LObj) (Q : Exit → St → Prop) (x : X) : Exit → St → Prop
  | .normal, s' => ∃ y, leSt s.heap.length ⟨[], s'.heap⟩ ⟨[], I y⟩ (inv y ∧ ix y = ix x + 1)
  | .ret, s' => Q .ret (behind s s'.heap)
  | .exit id, s' => Q (.exit id) (behind s s'.heap)
  | _, _ => False
theorem endV_endR {X : Type} {s : St} {inv : X → Prop} {ix : X → Nat} {I : X → List LObj} {Q : Exit → St → Prop} {x : X} {e : Exit} {s' : St} (h : endV s inv ix I Q x e s') : endR s inv ix I Q x e s' := by
  cases e with
  | normal =>
    obtain ⟨y, hy⟩ := h
    exact ⟨y, leSt_spec hy⟩
  | _ => exact h

/-- rd: in a round of a range over a function. -/
def vcA (rd : Bool) (nb : Nat) (ts : List Nat) (P : Program) (C : Table) : Code → List Ann → (Exit → St → Prop) → St → Prop
  | .skip, _, K, s => K .normal s
  | .ret, _, K, s => K .ret s
  | .exit id, _, K, s => K (.exit id) s
  | .region _ ops draw, _, K, s => match draw with
    | false => vcOps P C ops (List.range ops.size) s [] fun s _ => K .normal s
    | true => match Region.noSelect ops && !rd with
      | true => match callsAny ops.toList with
        | true => forceS (hideS ts s) fun b => vcDraw P C ops s.heap.length ts ops.size (List.replicate ops.size false) true b [] s [] (K .normal)
        | false => vcDraw P C ops s.heap.length [] ops.size (List.replicate ops.size false) true s [] s [] (K .normal)
      | false => False
  | .seq a b, an, K, s => match findCut an (firstReg b) with
    | some (.cut _ _ inv I rest) => vcA rd nb ts P C a an (thenK (fun s' => ∃ x, leSt nb s' (I x) (inv x)) K) s ∧ ∀ x, inv x → vcA rd nb ts P C b (rest x) K (I x)
    | _ => vcA rd nb ts P C a an (thenK (vcA rd nb ts P C b an K) K) s
  | .block id c, an, K, s => vcA rd nb ts P C c an (blockK id K) s
  | .cond c x y, an, K, s => match s.ev c with
    | .pl (.bool b) => (b = true → vcA rd nb ts P C x an K (condSt c s true)) ∧ (b = false → vcA rd nb ts P C y an K (condSt c s false))
    | _ => False
  | .loop c, an, K, s => match findLoop an (firstReg c) with
    | some (.loop _ _ inv I μ inner) => (∃ x, leSt nb s (I x) (inv x)) ∧ ∀ x, inv x → vcA rd nb ts P C c (inner x) (thenK (fun s' => ∃ y, leSt nb s' (I y) (inv y ∧ μ y < μ x)) K) (I x)
    | _ => False
  | .rangeFunc g ps assign body, an, K, s => match rd with
    | true => False
    | false => match s.ev g with
      | .clo (.func f) caps => match immL caps && caps.all goodCap, C.fn f, findRange an (firstReg (.seq assign body)) with
        | true, some (.seq F), some (.range _ _ inv ix I inner) => match F caps with
          | some (p, n, xs) => p ∧ (∃ x, leSt s.heap.length ⟨[], s.heap⟩ ⟨[], I x⟩ (inv x ∧ ix x = 0)) ∧
              (∀ x, inv x → ix x < n → match Nat.beq (xs (ix x)).length ps.size with
                | true => forceS (roundSt s ps (xs (ix x)) (I x)) fun s1 => vcA true s.heap.length ts P C assign [] (thenK (vcA true s.heap.length ts P C body (inner x) (endV s inv ix I K x)) (fun _ _ => False)) s1
                | false => False) ∧
              (∀ x, inv x → ix x = n → forceS (behind s (I x)) fun s1 => K .normal s1)
          | none => False
        | _, _, _ => False
      | _ => False
  | _, _, _, _ => False

section
variable {P : Program} {nb : Nat} {r : Option Nat} {Q : Exit → St → Prop}

theorem awp_loop_at {X : Type} (inv : X → Prop) (I : X → St) (μ : X → Nat) {c : Code} {s : St} (h0 : ∃ x, (∃ ks, LeS nb ks s (I x)) ∧ inv x)
    (step : ∀ x, inv x → AWp nb r P c (thenK (fun s' => ∃ y, (∃ ks, LeS nb ks s' (I y)) ∧ inv y ∧ μ y < μ x) Q) (I x)) : AWp nb r P (.loop c) Q s := by
  obtain ⟨x0, ⟨ks0, hle⟩, hi⟩ := h0
  refine awp_loop_inv (X := { x : X // inv x }) (fun x => I x.1) (fun x => μ x.1) ⟨x0, hi⟩ ks0 hle (fun x => (step x.1 x.2).mono ?_)
  intro e s' hs'
  cases e with
  | normal =>
    obtain ⟨y, ⟨ks, h1⟩, h2, h3⟩ := hs'
    exact ⟨⟨y, h2⟩, ks, h1, h3⟩
  | _ => exact hs'

theorem vcA_sound {C : Table} (hC : TableOk P C) {ts : List Nat} (hm : P.follows .mixedOrders = true) : ∀ (c : Code) {rd : Bool} {nb : Nat} {r : Option Nat} {an : List Ann} {K : Exit → St → Prop} {s : St}, (rd = false → r = none) → vcA rd nb ts P C c an K s → AWp nb r P c K s := by
  intro c
  induction c with
  | skip => intro rd nb r an K s _ h; exact awp_skip h
  | ret => intro rd nb r an K s _ h; exact awp_ret h
  | exit id => intro rd nb r an K s _ h; exact awp_exit h
  | region id ops draw =>
    intro rd nb r an K s hr h
    cases draw with
    | false => exact awp_region hC h
    | true =>
      simp only [vcA] at h
      split at h
      · rename_i hs
        rw [Bool.and_eq_true] at hs
        have hrd : rd = false := by simpa using hs.2
        obtain rfl := hr hrd
        split at h
        · rw [forceS_eq] at h; exact awp_draw hC ts hm hs.1 h
        · exact awp_draw hC [] hm hs.1 h
      · exact h.elim
  | seq a b iha ihb =>
    intro rd nb r an K s hr h
    simp only [vcA] at h
    split at h
    · rename_i id X inv I rest hf
      refine awp_seq ((iha hr h.1).mono ?_)
      intro e s' hs'
      cases e with
      | normal =>
        obtain ⟨x, hx⟩ := hs'
        obtain ⟨⟨ks, h1⟩, h2⟩ := leSt_spec hx
        exact awp_le ks h1 (ihb hr (h.2 x h2))
      | _ => exact hs'
    · refine awp_seq ((iha hr h).mono ?_)
      intro e s' hs'
      cases e with
      | normal => exact ihb hr hs'
      | _ => exact hs'
  | block id c ih => intro rd nb r an K s hr h; exact awp_block (ih hr h)
  | cond c x y ihx ihy =>
    intro rd nb r an K s hr h
    simp only [vcA] at h
    split at h
    · rename_i b hc
      exact awp_cond hc (fun hb => ihx hr (h.1 hb)) (fun hb => ihy hr (h.2 hb))
    · exact h.elim
  | loop c ih =>
    intro rd nb r an K s hr h
    simp only [vcA] at h
    split at h
    · rename_i id X inv I μ inner hf
      obtain ⟨⟨x0, h0⟩, hst⟩ := h
      refine awp_loop_at inv I μ ⟨x0, leSt_spec h0⟩ (fun x hx => (ih hr (hst x hx)).mono ?_)
      intro e s' hs'
      cases e with
      | normal =>
        obtain ⟨y, hy⟩ := hs'
        exact ⟨y, leSt_spec hy⟩
      | _ => exact hs'
    · exact h.elim
  | rangeFunc g ps assign body iha ihb =>
    intro rd nb r an K s hr h
    simp only [vcA] at h
    split at h
    · exact h.elim
    · obtain rfl := hr rfl
      split at h
      · rename_i f caps hg
        split at h
        · rename_i F id X inv ix I inner him hC9 hf
          rw [Bool.and_eq_true] at him
          split at h
          · rename_i p n xs hF
            obtain ⟨hp, ⟨x0, h0⟩, hround, hdone⟩ := h
            obtain ⟨hent, hseq⟩ := hC.seq f F hC9
            refine awp_rangeFunc (inv := inv) (ix := ix) (I := I) (hseq caps p n xs hF hp) hent hg him.1 him.2 ⟨x0, leSt_spec h0⟩ (fun l x hx hlt => ?_) (fun x hx hn => by have := hdone x hx hn; rwa [forceS_eq] at this)
            have h1 := hround x hx hlt
            split at h1
            · rename_i hb
              refine ⟨Nat.eq_of_beq_eq_true hb, ?_⟩
              rw [forceS_eq] at h1
              refine (iha (rd := true) (fun h => by cases h) h1).mono ?_
              intro e s' hs'
              cases e with
              | normal => exact (ihb (rd := true) (fun h => by cases h) hs').mono fun e s2 h2 => endV_endR h2
              | _ => exact hs'
            · exact h1.elim
          · exact h.elim
        · exact h.elim
      · exact h.elim
  | _ => intro rd nb r an K s _ h; exact h.elim

end
end Go.Am

namespace Go.Am
open Go.RowKit

theorem gam_foreign {E0 E : Env} {H : List LObj} (g : Gam E0 E H) {w' : World} (hsz : E.w.heap.size ≤ w'.heap.size) (ho : ∀ b, E.owns b ∨ E.F b → w'.heap[b]? = E.w.heap[b]?) : Gam (({ E with w := w' } : Env).base 0) { E with w := w' } H where
  objs := fun l o hl => (g.objs l o hl).mono (E' := { E with w := w' }) ⟨fun _ h => h, fun _ ha => World.cell?_of_block (w := E.w) (ho _ (.inr ha)), fun _ _ h => h⟩ (fun L hL hc => ho _ (.inl ⟨l, L, hL, hc, rfl⟩))
  dom := g.dom
  own := fun l L hL hc => ⟨fun hh => hh.2 ⟨l, L, hL, hc, rfl⟩, Nat.lt_of_lt_of_le (g.own l L hL hc).2.1 hsz, (g.own l L hL hc).2.2⟩
  inj := g.inj
  lt := fun b hb => Nat.lt_of_lt_of_le (g.lt b hb) hsz
  up := fun _ h => h
  down := fun _ h => .inl h
  below := BelowO.refl (({ E with w := w' } : Env).base 0)
  stay := fun _ _ => .inl rfl
  hm := Nat.zero_le _

section
variable {P : Program} {F0 : Nat → Prop} {s0 : Nat} {J : Nat → Foot → World → Prop} {JX : Foot → World → Prop}

/-- The code of an iterator, from a state and so many rounds (none: stopped). -/
def AI (P : Program) (F0 : Nat → Prop) (s0 : Nat) (J : Nat → Foot → World → Prop) (JX : Foot → World → Prop) (c : Code) (Q : Exit → St → Option Nat → Prop) (s : St) (i : Option Nat) : Prop :=
  ∀ (E : Env) (Z : Foot) (a : Act) (d : Nat), GamS (E.base 0) E s a → GI F0 s0 E Z → atI J JX i Z E.w → a.defers = [] →
    c.wpIn (wideR none) d P (fun e a' w' => ∃ s' i' E' Z', Q e s' i' ∧ GamS (E'.base 0) E' s' a' ∧ GI F0 s0 E' Z' ∧ atI J JX i' Z' E'.w ∧ E'.w = w' ∧ a'.defers = [] ∧ ItStep E E' Z Z') a E.w

variable {Q Q' : Exit → St → Option Nat → Prop} {s : St} {i : Option Nat}

theorem AI.mono {c : Code} (h : AI P F0 s0 J JX c Q s i) (hq : ∀ e s' i', Q e s' i' → Q' e s' i') : AI P F0 s0 J JX c Q' s i :=
  fun E Z a d g gi hj hd => wpIn_mono (h E Z a d g gi hj hd) fun _ _ _ ⟨s', i', E', Z', hQ, rest⟩ => ⟨s', i', E', Z', hq _ _ _ hQ, rest⟩

def thenI (K : St → Option Nat → Prop) (Q : Exit → St → Option Nat → Prop) : Exit → St → Option Nat → Prop
  | .normal, s, i => K s i
  | e, s, i => Q e s i

theorem ai_seq {x y : Code} (h : AI P F0 s0 J JX x (thenI (AI P F0 s0 J JX y Q) Q) s i) : AI P F0 s0 J JX (.seq x y) Q s i := by
  intro E Z a d g gi hj hd
  refine wpIn_seq (wpIn_mono (h E Z a d g gi hj hd) ?_)
  rintro e a' w' ⟨s', i', E', Z', hQ, g', gi', hj', rfl, hd', st⟩
  cases e with
  | normal =>
    refine wpIn_mono (hQ E' Z' a' d g' gi' hj' hd') ?_
    rintro e2 a2 w2 ⟨s2, i2, E2, Z2, hQ2, g2, gi2, hj2, rfl, hd2, st2⟩
    exact ⟨s2, i2, E2, Z2, hQ2, g2, gi2, hj2, rfl, hd2, st.trans st2⟩
  | _ => exact ⟨s', i', E', Z', hQ, g', gi', hj', rfl, hd', st⟩

theorem ai_skip (h : Q .normal s i) : AI P F0 s0 J JX .skip Q s i := fun E Z _ _ g gi hj hd => wpIn_skip ⟨s, i, E, Z, h, g, gi, hj, rfl, hd, ItStep.refl _ _⟩
theorem ai_ret (h : Q .ret s i) : AI P F0 s0 J JX .ret Q s i := fun E Z _ _ g gi hj hd => wpIn_ret ⟨s, i, E, Z, h, g, gi, hj, rfl, hd, ItStep.refl _ _⟩
theorem ai_exit {id : Nat} (h : Q (.exit id) s i) : AI P F0 s0 J JX (.exit id) Q s i := fun E Z _ _ g gi hj hd => wpIn_exit ⟨s, i, E, Z, h, g, gi, hj, rfl, hd, ItStep.refl _ _⟩

def blockI (id : Nat) (Q : Exit → St → Option Nat → Prop) : Exit → St → Option Nat → Prop
  | .exit k, s, i => if k = id then Q .normal s i else Q (.exit k) s i
  | e, s, i => Q e s i
theorem ai_block {id : Nat} {c : Code} (h : AI P F0 s0 J JX c (blockI id Q) s i) : AI P F0 s0 J JX (.block id c) Q s i := by
  intro E Z a d g gi hj hd
  refine wpIn_block (wpIn_mono (h E Z a d g gi hj hd) ?_)
  rintro e a' w' ⟨s', i', E', Z', hQ, rest⟩
  cases e with
  | exit k =>
    simp only [Exit.inBlock, blockI] at hQ ⊢
    split at hQ
    · rename_i he; rw [if_pos he]; exact ⟨s', i', E', Z', hQ, rest⟩
    · rename_i he; rw [if_neg he]; exact ⟨s', i', E', Z', hQ, rest⟩
  | _ => exact ⟨s', i', E', Z', hQ, rest⟩

theorem ai_cond {c : Operand} {x y : Code} {b : Bool} (hc : s.ev c = .pl (.bool b)) (ht : b = true → AI P F0 s0 J JX x Q (condSt c s true) i) (hf : b = false → AI P F0 s0 J JX y Q (condSt c s false) i) : AI P F0 s0 J JX (.cond c x y) Q s i := by
  intro E Z a d g gi hj hd
  have hev := g.slots.ev c
  rw [hc] at hev
  have hv := repV_pl hev
  have hs : ∀ b', b = b' → GamS (E.base 0) E (condSt c s b') a := by
    rintro b' rfl
    cases c with
    | tmp t => exact g.refine_ hc
    | _ => exact g
  cases b with
  | true => exact wpIn_cond_true hv (ht rfl E Z a d (hs _ rfl) gi hj hd)
  | false => exact wpIn_cond_false hv (hf rfl E Z a d (hs _ rfl) gi hj hd)

theorem ai_le {c : Code} {s' : St} {ks : Names} (h : LeS 0 ks s s') (hw : AI P F0 s0 J JX c Q s' i) : AI P F0 s0 J JX c Q s i := by
  intro E Z a d g gi hj hd
  have g1 := le_sound (nb := 0) rfl g h
  have hold := ren_old (E := E) ks s'.heap
  have g2 : GamS ((E.ren ks s'.heap).base 0) (E.ren ks s'.heap) s' a := ⟨gam_self g1.toGam 0 (Nat.zero_le _), g1.slots⟩
  refine wpIn_mono (hw (E.ren ks s'.heap) Z a d g2 ⟨gi.F0, fun b ⟨l, L, hL, hc, he⟩ => gi.O0 b (by
    obtain ⟨l0, h0⟩ := hold l L hL hc
    exact ⟨l0, L, h0, hc, he⟩), gi.sz, fun l L hL hc => ?_, gi.F, gi.lt⟩ hj hd) ?_
  · obtain ⟨l0, h0⟩ := hold l L hL hc
    exact gi.own l0 L h0 hc
  · rintro e a' w' ⟨s2, i2, E2, Z2, hQ, gg, gi2, hj2, rfl, hd2, st⟩
    refine ⟨s2, i2, E2, Z2, hQ, gg, gi2, hj2, rfl, hd2, st.os, st.tape, st.output, st.size, fun b h1 h2 h3 => st.block b h1 h2 (fun ⟨l, L, hL, hc, he⟩ => ?_), st.zw, fun b hb => ?_⟩
    · obtain ⟨l0, h0⟩ := hold l L hL hc
      exact h3 ⟨l0, L, h0, hc, he⟩
    · rcases st.owns b hb with ⟨l, L, hL, hc, he⟩ | h1
      · obtain ⟨l0, h0⟩ := hold l L hL hc
        exact .inl ⟨l0, L, h0, hc, he⟩
      · exact .inr h1

theorem ai_loop {X : Type} (inv : X → Prop) (I : X → St) (ph : X → Option Nat) (μ : X → Nat) {c : Code} {x0 : X} (h0 : inv x0)
    (step : ∀ x, inv x → AI P F0 s0 J JX c (thenI (fun s' i' => ∃ y, (∃ ks, LeS 0 ks s' (I y)) ∧ inv y ∧ ph y = i' ∧ μ y < μ x) Q) (I x) (ph x)) : AI P F0 s0 J JX (.loop c) Q (I x0) (ph x0) := by
  intro E Z a d g gi hj hd
  refine wpIn_loop_rel (fun m a w => ∃ x E1 Z1, μ x = m ∧ inv x ∧ GamS (E1.base 0) E1 (I x) a ∧ GI F0 s0 E1 Z1 ∧ atI J JX (ph x) Z1 E1.w ∧ E1.w = w ∧ a.defers = [] ∧ ItStep E E1 Z Z1) (m := μ x0)
    ⟨x0, E, Z, rfl, h0, g, gi, hj, rfl, hd, ItStep.refl _ _⟩ ?_
  rintro m a w ⟨x, E1, Z1, rfl, hx, g1, gi1, hj1, rfl, hd1, st1⟩
  refine wpIn_mono (step x hx E1 Z1 a d g1 gi1 hj1 hd1) ?_
  rintro e a' w' ⟨s', i', E', Z', hQ, g', gi', hj', rfl, hd', st'⟩
  cases e with
  | normal =>
    obtain ⟨y, ⟨ks, hle⟩, hy, hph, hlt⟩ := hQ
    subst hph
    have g2 := le_sound (nb := 0) rfl g' hle
    have hold := ren_old (E := E') ks (I y).heap
    have st2 : ItStep E' (E'.ren ks (I y).heap) Z' Z' := ⟨rfl, rfl, rfl, Nat.le_refl _, fun _ _ _ _ => rfl, fun _ h => .inl h, fun b ⟨l, L, hL, hc, he⟩ => by
      obtain ⟨l0, h0⟩ := hold l L hL hc
      exact .inl ⟨l0, L, h0, hc, he⟩⟩
    refine ⟨μ y, hlt, y, E'.ren ks (I y).heap, Z', rfl, hy, ⟨gam_self g2.toGam 0 (Nat.zero_le _), g2.slots⟩, ⟨gi'.F0, fun b ⟨l, L, hL, hc, he⟩ => gi'.O0 b (by
      obtain ⟨l0, h0⟩ := hold l L hL hc
      exact ⟨l0, L, h0, hc, he⟩), gi'.sz, fun l L hL hc => ?_, gi'.F, gi'.lt⟩, hj', rfl, hd', (st1.trans st').trans st2⟩
    obtain ⟨l0, h0⟩ := hold l L hL hc
    exact gi'.own l0 L h0 hc
  | _ => exact ⟨s', i', E', Z', hQ, g', gi', hj', rfl, hd', st1.trans st'⟩

/-- Which loop's yield does an operation call? -/
def yieldOf (s : St) (o : Oper) : Option (Nat × List AV) := match o.guard with
  | some _ => none
  | none => match o.op with
    | .call { callee := .value fo, args, .. } => match s.ev fo with
      | .pl (.func (.yield l) first caps) => match first.toList, caps.toList with
        | [], [] => some (l, args.toList.map s.ev)
        | _, _ => none
      | _ => none
    | _ => none

def vcOpsI (P : Program) (C : Table) (l n : Nat) (xs : Nat → List AV) (ops : Array Oper) : List Nat → St → Opt → Option Nat → (St → Opt → Option Nat → Prop) → Prop
  | [], s, opt, i, K => K s opt i
  | k :: ks, s, opt, i, K => match (ops[k]?).bind (yieldOf s) with
    | some (l', args) => match i with
      | some j => match immVs args with
        | true => l' = l ∧ j < n ∧ leL [] args (xs j) ∧ vcOpsI P C l n xs ops ks (s.put (dstOf ops k) (.pl (.bool true))) (delO (flatOpt opt) (dstOf ops k)) (some (j + 1)) K ∧
            vcOpsI P C l n xs ops ks (s.put (dstOf ops k) (.pl (.bool false))) (delO (flatOpt opt) (dstOf ops k)) none K
        | false => False
      | none => False
    | none => vcOne P C ops k s opt fun s opt _ => vcOpsI P C l n xs ops ks s opt i K

theorem yieldOf_spec {o : Oper} {l : Nat} {args : List AV} (h : yieldOf s o = some (l, args)) : o.guard = none ∧ ∃ fo as tys, o.op = .call { callee := .value fo, args := as, argTypes := tys } ∧ s.ev fo = .pl (.func (.yield l) #[] #[]) ∧ args = as.toList.map s.ev := by
  unfold yieldOf at h
  split at h
  · cases h
  · rename_i hg
    split at h
    · rename_i fo as tys ho
      split at h
      · rename_i l' first caps hev
        split at h
        · rename_i h1 h2
          simp only [Option.some.injEq, Prod.mk.injEq] at h
          obtain ⟨rfl, rfl⟩ := h
          have e1 : first = #[] := Array.toList_eq_nil_iff.1 h1
          have e2 : caps = #[] := Array.toList_eq_nil_iff.1 h2
          subst e1 e2
          exact ⟨hg, fo, as, tys, ho, hev, rfl⟩
        · cases h
      · cases h
    · cases h

theorem opsI_sound {C : Table} (hC : TableOk P C) (hI : ItOk J JX) {l n : Nat} {xs : Nat → List AV} (hR : RoundOk P F0 s0 l n xs J JX) {d : Nat} {ops : Array Oper} {Q : Exit → Act → World → Prop} {K : St → Opt → Option Nat → Prop} {E00 : Env} {Z00 : Foot} :
    ∀ (is : List Nat) (s : St) (opt : Opt) (i : Option Nat) (E : Env) (Z : Foot) (a : Act), GamS (E.base 0) E s a → OptOk E a.tmps opt → GI F0 s0 E Z → atI J JX i Z E.w → a.defers = [] → ItStep E00 E Z00 Z → vcOpsI P C l n xs ops is s opt i K →
    (∀ s' opt' i' E' Z' a', K s' opt' i' → GamS (E'.base 0) E' s' a' → OptOk E' a'.tmps opt' → GI F0 s0 E' Z' → atI J JX i' Z' E'.w → a'.defers = [] → ItStep E00 E' Z00 Z' → Q .normal a' E'.w) → wpOpsIn (wideR none) d P ops Q is a E.w := by
  intro is
  induction is with
  | nil => intro s opt i E Z a g ho gi hj hd st h hK; exact hK s opt i E Z a h g ho gi hj hd st
  | cons k is ih =>
    intro s opt i E Z a g hopt gi hj hd st h hK
    simp only [vcOpsI] at h
    rw [wpOpsIn_cons]
    split at h
    · rename_i l' args hy
      obtain ⟨o, hok, hyo⟩ := Option.bind_eq_some_iff.1 hy
      obtain ⟨hg, fo, as, tys, hop, hev, rfl⟩ := yieldOf_spec hyo
      have hdst : dstOf ops k = o.dst := by simp [dstOf, hok]
      rw [hdst] at h
      split at h
      · rename_i j
        split at h
        · rename_i him
          obtain ⟨rfl, hjn, hle, hT, hF⟩ := h
          have hfv : a.eval fo = .func (.yield l') #[] #[] := by
            have := g.slots.ev fo
            rw [hev] at this
            exact repV_pl this
          have hnd : ∀ c, o.op ≠ .defer c := by intro c hc; rw [hc] at hop; cases hop
          have hsem : o.semAt (wideR none).round a.eval = execOp a.eval o := Oper.semAt_eq _ _ o hnd
          obtain ⟨hll, hlg⟩ := leL_get hle
          have e0 : ExtRen [] E.imm (itEnv E.w E.F) := ⟨fun _ h => h, fun _ _ => rfl, fun q L q' hL hq => by simp [pos] at hq, fun q hq => by rw [virt_iff] at hq; simp at hq⟩
          obtain ⟨fn, tmps, assign, body, hrun, hround⟩ := hR j Z E.w E.F (as.toList.map a.eval) hjn hj (fun b hb => ⟨g.lt b hb, gi.F b hb, gi.F0 b hb⟩) (by rw [← hll]; simp) (fun q v x hv hx => by
            rw [List.getElem?_map, Option.map_eq_some_iff] at hv
            obtain ⟨op, hop2, rfl⟩ := hv
            have hx0 : (as.toList.map s.ev)[q]? = some (s.ev op) := by rw [List.getElem?_map, hop2]; rfl
            have hr := repV_imm (g.slots.ev op) (immVs_get him hx0)
            have hl9 := hlg q _ x hx0 hx
            exact repV_le hr e0 (by cases x <;> first | exact trivial | exact hl9)) (d - 1)
          unfold wpOpIn
          simp only [hok]
          rw [if_pos (by simp [Region.wanted, hg])]
          refine ⟨fun _ _ => trivial, ?_⟩
          have hexec : (execOp a.eval o).run P E.w = .ok (.round l' fn tmps assign body) E.w := by
            simp only [execOp, hop, resolve, Deferred.ofValue, hfv, Sem.run_bind, Sem.run_pure, Result.andThen_ok, invoke]
            have e1 : as.map a.eval = (as.toList.map a.eval).toArray := by apply Array.ext'; simp
            simp only [Array.empty_append, e1]
            exact hrun
          rw [hsem, hexec, Oper.uponIn_round]
          refine ⟨fun hh => by simp [wideR, Fence.wide] at hh, hround.mono ?_⟩
          rintro e W' ⟨Z', fr, hzr, hend⟩
          have hz : ∀ b, E.owns b ∨ E.F b → W'.heap[b]? = E.w.heap[b]? := fun b hb => by
            rcases hb with ⟨q, L, hL, hc, rfl⟩ | hb
            · exact fr.block _ (g.own q L hL hc).2.1 (gi.own q L hL hc).1
            · exact fr.block _ (g.lt b hb) (gi.F b hb)
          have g1 := gam_foreign g.toGam fr.size hz
          have e : Ext E { E with w := W' } := ⟨fun _ h => h, fun a' ha => World.cell?_of_block (w := E.w) (hz _ (.inr ha)), fun _ _ h => h⟩
          have st1 : ItStep E { E with w := W' } Z Z' := ⟨fr.os, fr.tape, fr.output, fr.size, fun b h1 h2 _ => fr.block b h1 h2, fr.zw, fun _ h => .inl h⟩
          have hgi : (∀ b, Z'.wr b ∨ Z'.rd b → b < W'.heap.size) → GI F0 s0 { E with w := W' } Z' := fun hlt => ⟨gi.F0, fun b ⟨q, L, hL, hc, he⟩ => gi.O0 b ⟨q, L, hL, hc, he⟩, Nat.le_trans gi.sz fr.size, fun q L hL hc => by
              have h1 := g.own q L hL hc
              have h2 := gi.own q L hL hc
              refine ⟨fun hh => ?_, fun hh => ?_⟩
              · rcases fr.zw _ hh with h3 | h3
                · exact h2.1 h3
                · omega
              · rcases hzr _ hh with h3 | h3 | h3 | h3
                · exact h2.2 h3
                · exact h2.1 h3
                · exact h1.2.2 h3
                · omega, fun b hb hh => by
              rcases fr.zw _ hh with h3 | h3
              · exact gi.F b hb h3
              · have := g.lt b hb; omega, hlt⟩
          have fin : ∀ (b : Bool) (i' : Option Nat), atI J JX i' Z' W' → vcOpsI P C l' n xs ops is (s.put o.dst (.pl (.bool b))) (delO (flatOpt opt) o.dst) i' K → wpOpsIn (wideR none) d P ops Q is (a.put o.dst (.bool b)) W' := by
            intro b i' hj' hvc
            refine ih _ _ i' { E with w := W' } Z' (a.put o.dst (.bool b)) ⟨?_, ?_⟩ ?_ (hgi (hI.bound i' Z' W' hj')) hj' (by rw [put_defers]; exact hd) (st.trans st1) hvc hK
            · cases o.dst <;> exact g1
            · exact SlotsOk.put (s := s) (g.slots.mono e) o.dst (Rep.pl _ rfl)
            · exact OptOk.del (OptOk.flat hopt) o.dst _
          rcases hend with ⟨rfl, hj'⟩ | ⟨rfl, hj'⟩
          · exact fin true (some (j + 1)) hj' hT
          · exact fin false none hj' hF
        · exact h.elim
      · exact h.elim
    · refine one_sound hC g hopt h fun s' opt' tl E' d' v hd' hs g' ho' hkp => ?_
      obtain ⟨gi', hj', st'⟩ := it_own hI gi hj g'.toGam (rfl : s.heap = s.heap)
      exact ih s' opt' i E' Z _ ⟨gam_self g'.toGam 0 (Nat.zero_le _), g'.slots⟩ ho' gi' hj' (by rw [put_defers]; exact hd) (st.trans st') hs hK

theorem ai_region {C : Table} (hC : TableOk P C) (hI : ItOk J JX) {l n : Nat} {xs : Nat → List AV} (hR : RoundOk P F0 s0 l n xs J JX) {id : Nat} {ops : Array Oper} (h : vcOpsI P C l n xs ops (List.range ops.size) s [] i fun s _ i => Q .normal s i) : AI P F0 s0 J JX (.region id ops false) Q s i :=
  fun E Z a _ g gi hj hd => wpIn_region (opsI_sound hC hI hR _ s [] i E Z a g (fun t q b x hm => by simp at hm) gi hj hd (ItStep.refl _ _) h fun s' _ i' E' Z' _ hK g' _ gi' hj' hd' st => ⟨s', i', E', Z', hK, g', gi', hj', rfl, hd', st⟩)

theorem ai_draw {C : Table} (hC : TableOk P C) (hI : ItOk J JX) {id : Nat} {ops : Array Oper} (hm : P.follows .mixedOrders = true) (hsel : Region.noSelect ops = true)
    (h : vcDraw P C ops s.heap.length [] ops.size (List.replicate ops.size false) true s [] s [] fun s => Q .normal s i) : AI P F0 s0 J JX (.region id ops true) Q s i := by
  intro E Z a d g gi hj hd
  refine wpIn_mono (draw_wp hC (DP := fun _ ds => ds = []) (fun h _ => h) [] hm hsel g hd h) ?_
  rintro e a' w' ⟨rfl, s', E', hQ, g', rfl, hd'⟩
  obtain ⟨gi', hj', st'⟩ := it_own hI gi hj g'.toGam (rfl : s.heap = s.heap)
  exact ⟨s', i, E', Z, hQ, ⟨gam_self g'.toGam 0 (Nat.zero_le _), g'.slots⟩, gi', hj', rfl, hd', st'⟩

end

/-- For a loop of an iterator: the family of states at its head, with how far the rounds are. -/
inductive AnnI : Type 1 where
  | loop (id : Nat) (X : Type) (inv : X → Prop) (I : X → St) (ph : X → Option Nat) (μ : X → Nat) (inner : X → List AnnI)
def findLoopI : List AnnI → Option Nat → Option AnnI
  | _, none => none
  | [], some _ => none
  | .loop id X inv I ph μ inner :: an, some i => match Nat.beq id i with
    | true => some (.loop id X inv I ph μ inner)
    | false => findLoopI an (some i)

def vcI (P : Program) (C : Table) (l n : Nat) (xs : Nat → List AV) : Code → List AnnI → (Exit → St → Option Nat → Prop) → St → Option Nat → Prop
  | .skip, _, K, s, i => K .normal s i
  | .ret, _, K, s, i => K .ret s i
  | .exit id, _, K, s, i => K (.exit id) s i
  | .region _ ops draw, _, K, s, i => match draw with
    | false => vcOpsI P C l n xs ops (List.range ops.size) s [] i fun s _ i => K .normal s i
    | true => match Region.noSelect ops with
      | true => vcDraw P C ops s.heap.length [] ops.size (List.replicate ops.size false) true s [] s [] fun s => K .normal s i
      | false => False
  | .seq a b, an, K, s, i => vcI P C l n xs a an (thenI (vcI P C l n xs b an K) K) s i
  | .block id c, an, K, s, i => vcI P C l n xs c an (blockI id K) s i
  | .cond c x y, an, K, s, i => match s.ev c with
    | .pl (.bool b) => (b = true → vcI P C l n xs x an K (condSt c s true) i) ∧ (b = false → vcI P C l n xs y an K (condSt c s false) i)
    | _ => False
  | .loop c, an, K, s, i => match findLoopI an (firstReg c) with
    | some (.loop _ _ inv I ph μ inner) => (∃ x, leSt 0 s (I x) (inv x ∧ ph x = i)) ∧ ∀ x, inv x → vcI P C l n xs c (inner x) (thenI (fun s' i' => ∃ y, leSt 0 s' (I y) (inv y ∧ ph y = i' ∧ μ y < μ x)) K) (I x) (ph x)
    | _ => False
  | _, _, _, _, _ => False

theorem vcI_sound {P : Program} {C : Table} (hC : TableOk P C) (hm : P.follows .mixedOrders = true) {F0 : Nat → Prop} {s0 : Nat} {J : Nat → Foot → World → Prop} {JX : Foot → World → Prop} (hI : ItOk J JX) {l n : Nat} {xs : Nat → List AV} (hR : RoundOk P F0 s0 l n xs J JX) :
    ∀ (c : Code) {an : List AnnI} {K : Exit → St → Option Nat → Prop} {s : St} {i : Option Nat}, vcI P C l n xs c an K s i → AI P F0 s0 J JX c K s i := by
  intro c
  induction c with
  | skip => intro an K s i h; exact ai_skip h
  | ret => intro an K s i h; exact ai_ret h
  | exit id => intro an K s i h; exact ai_exit h
  | region id ops draw =>
    intro an K s i h
    cases draw with
    | false => exact ai_region hC hI hR h
    | true =>
      simp only [vcI] at h
      split at h
      · rename_i hs
        exact ai_draw hC hI hm hs h
      · exact h.elim
  | seq a b iha ihb =>
    intro an K s i h
    refine ai_seq ((iha h).mono ?_)
    intro e s' i' hs'
    cases e with
    | normal => exact ihb hs'
    | _ => exact hs'
  | block id c ih => intro an K s i h; exact ai_block (ih h)
  | cond c x y ihx ihy =>
    intro an K s i h
    simp only [vcI] at h
    split at h
    · rename_i b hc
      exact ai_cond hc (fun hb => ihx (h.1 hb)) (fun hb => ihy (h.2 hb))
    · exact h.elim
  | loop c ih =>
    intro an K s i h
    simp only [vcI] at h
    split at h
    · rename_i id X inv I ph μ inner hf
      obtain ⟨⟨x0, h0⟩, hst⟩ := h
      obtain ⟨⟨ks, hle⟩, hi0, hp0⟩ := leSt_spec h0
      subst hp0
      refine ai_le hle (ai_loop inv I ph μ hi0 (fun x hx => (ih (hst x hx)).mono ?_))
      intro e s' i' hs'
      cases e with
      | normal =>
        obtain ⟨y, hy⟩ := hs'
        exact ⟨y, leSt_spec hy⟩
      | _ => exact hs'
    · exact h.elim
  | _ => intro an K s i h; exact h.elim

def RetI (P : Program) (fn : Func) (n : Nat) (s : St) (i : Option Nat) : Prop := match allRes P s fn.results.toList with
  | some (p, _) => match i with
    | some j => p ∧ j = n
    | none => p
  | none => False
def finalKI (P : Program) (fn : Func) (n : Nat) : Exit → St → Option Nat → Prop
  | .normal, s, i => RetI P fn n s i
  | .ret, s, i => RetI P fn n s i
  | _, _, _ => False

theorem seq_of_code {P : Program} {C : Table} (hC : TableOk P C) (hm : P.follows .mixedOrders = true) {f : FuncId} {fn : Func} {c : Code} {caps : List AV} {n : Nat} {xs : Nat → List AV} {an : Nat → List AnnI} (hf : P.funcs[f]? = some fn) (hb : fn.body = some c)
    (h : ∀ l, vcI P C l n xs c (an l) (finalKI P fn n) (startSt fn (.pl (.func (.yield l) #[] #[]) :: caps)) (some 0)) : SeqSpec P f caps n xs := by
  intro E0 vs l J JX Z0 hloc hm0 hF hl hr sJ sX bJ bX hR hj
  have g0 : Gam E0 E0 [] := {
    objs := fun l o hl => by simp at hl
    dom := fun l L hL => by rw [hloc] at hL; cases hL
    own := fun l L hL => by rw [hloc] at hL; cases hL
    inj := fun l l' L L' hL => by rw [hloc] at hL; cases hL
    lt := fun b hb => (hF b hb).1
    up := fun _ h => h
    down := fun _ h => .inl h
    below := BelowO.refl _
    stay := fun l hl => .inl rfl
    hm := by rw [hm0]; exact Nat.zero_le _ }
  have gs := start_slots (fn := fn) (args := .pl (.func (.yield l) #[] #[]) :: caps) (vs := .func (.yield l) #[] #[] :: vs) g0 (by simp [hl]) (fun i v x hv hx => by
    cases i with
    | zero => simp at hv hx; subst hv hx; exact Rep.pl _ rfl
    | succ i => exact hr i v x (by simpa using hv) (by simpa using hx))
  have hI : ItOk J JX := ⟨sJ, sX, bJ, bX⟩
  refine callsIn_wide.1 (callsIn_of_wp_marks (F := Fence.wide) (n := 0) hf hb trivial ?_)
  have e1 : (#[.func (.yield l) #[] #[]] ++ vs.toArray : Array Value) = (.func (.yield l) #[] #[] :: vs).toArray := by simp
  rw [e1]
  refine wpIn_mono (vcI_sound hC hm hI hR c (h l) E0 Z0 _ 0 ⟨gam_self gs.toGam 0 (Nat.zero_le _), gs.slots⟩ ⟨fun b hb => .inl hb, fun b ⟨q, L, hL, _⟩ => (by rw [hloc] at hL; cases hL), Nat.le_refl _, fun q L hL => (by rw [hloc] at hL; cases hL), fun b hb => (hF b hb).2, fun b hb => bJ 0 Z0 _ hj b hb⟩ hj rfl) ?_
  rintro e a' w' ⟨s', i', E', Z', hQ, g', gi', hj', rfl, hd, st⟩
  have hret : RetI P fn n s' i' → LeavesInM Fence.wide 0 P fn a'.tmps (fun e w' => (∃ v, e = .returned v) ∧ ∃ Z', FrameZ E0.w Z0 w' Z' ∧ (J n Z' w' ∨ JX Z' w')) a'.defers .returning E'.w := by
    intro hk
    unfold RetI at hk
    rw [hd]
    split at hk
    · rename_i p ys hall
      have hp : p := by cases i' with | none => exact hk | some j => exact hk.1
      obtain ⟨v, h1, _⟩ := run_results g' hall hp
      refine ⟨v, h1, ⟨v, rfl⟩, Z', st.frame hloc, ?_⟩
      cases i' with
      | none => exact .inr hj'
      | some j =>
        obtain ⟨_, rfl⟩ := hk
        exact .inl hj'
    · exact hk.elim
  cases e with
  | normal => exact hret hQ
  | ret => exact hret hQ
  | _ => exact hQ.elim

end Go.Am

namespace Go.Am
open Go.RowKit

def EntOk (P : Program) (f : FuncId) : Ent → Prop
  | .lend T => Enters P f ∧ ∀ args R, T args R → Spec P f args R
  | .hand _ T => Enters P f ∧ ∀ H0 args R, T H0 args R → SpecH P f H0 args R
  | .ext F => ExtOk P f F
  | .seq F => Enters P f ∧ ∀ caps p n xs, F caps = some (p, n, xs) → p → SeqSpec P f caps n xs

def lookE : List (FuncId × Ent) → FuncId → Option Ent
  | [], _ => none
  | (g, e) :: r, f => match Nat.beq g f with
    | true => some e
    | false => lookE r f
def lookT : List (TypeId × (Value → Prop)) → TypeId → Option (Value → Prop)
  | [], _ => none
  | (g, e) :: r, f => match Nat.beq g f with
    | true => some e
    | false => lookT r f
def mkTab (L : List (FuncId × Ent)) (K : List (TypeId × (Value → Prop)) := []) : Table := ⟨lookE L, lookT K⟩

theorem lookE_mem {f : FuncId} {e : Ent} : ∀ {L : List (FuncId × Ent)}, lookE L f = some e → (f, e) ∈ L := by
  intro L
  induction L with
  | nil => intro h; cases h
  | cons p r ih =>
    intro h
    obtain ⟨g, e'⟩ := p
    simp only [lookE] at h
    split at h
    · rename_i hb
      injection h with h
      rw [Nat.eq_of_beq_eq_true hb, h]
      exact List.mem_cons_self
    · exact List.mem_cons_of_mem _ (ih h)
theorem lookT_mem {f : TypeId} {e : Value → Prop} : ∀ {L : List (TypeId × (Value → Prop))}, lookT L f = some e → (f, e) ∈ L := by
  intro L
  induction L with
  | nil => intro h; cases h
  | cons p r ih =>
    intro h
    obtain ⟨g, e'⟩ := p
    simp only [lookT] at h
    split at h
    · rename_i hb
      injection h with h
      rw [Nat.eq_of_beq_eq_true hb, h]
      exact List.mem_cons_self
    · exact List.mem_cons_of_mem _ (ih h)

def AllE (P : Program) : List (FuncId × Ent) → Prop
  | [] => True
  | (f, e) :: r => EntOk P f e ∧ AllE P r
def AllT (P : Program) : List (TypeId × (Value → Prop)) → Prop
  | [] => True
  | (t, W) :: r => KLaw P t W ∧ AllT P r
theorem AllE.mem {P : Program} {f : FuncId} {e : Ent} : ∀ {L : List (FuncId × Ent)}, AllE P L → (f, e) ∈ L → EntOk P f e := by
  intro L
  induction L with
  | nil => intro _ h; cases h
  | cons p r ih =>
    intro h hm
    rcases List.mem_cons.1 hm with rfl | hm
    · exact h.1
    · exact ih h.2 hm
theorem AllT.mem {P : Program} {f : TypeId} {e : Value → Prop} : ∀ {L : List (TypeId × (Value → Prop))}, AllT P L → (f, e) ∈ L → KLaw P f e := by
  intro L
  induction L with
  | nil => intro _ h; cases h
  | cons p r ih =>
    intro h hm
    rcases List.mem_cons.1 hm with rfl | hm
    · exact h.1
    · exact ih h.2 hm

theorem mkTab_ok {P : Program} {L : List (FuncId × Ent)} {K : List (TypeId × (Value → Prop))} (h : AllE P L) (k : AllT P K) : TableOk P (mkTab L K) where
  lend := fun _ _ hf => h.mem (lookE_mem hf)
  hand := fun _ _ _ hf => h.mem (lookE_mem hf)
  ext := fun _ _ hf => h.mem (lookE_mem hf)
  seq := fun _ _ hf => h.mem (lookE_mem hf)
  keys := fun _ _ hf => k.mem (lookT_mem hf)

theorem enters_of {P : Program} {f : FuncId} {fn : Func} (hf : P.funcs[f]? = some fn) (hb : fn.body.isNone = false) (hn : (fn.name == "runtime.NumGoroutine") = false) : Enters P f := by
  intro args w
  have h1 : fn.name ≠ "runtime.NumGoroutine" := by simpa using hn
  have h2 : fn.body ≠ none := fun h => by rw [h] at hb; cases hb
  simp [callFunc, hf, h1, h2]

/-- What is so of every argument that there is. -/
def given : List AV → Prop
  | [] => True
  | .rows _ n _ :: xs => n ≤ maxLen ∧ given xs
  | _ :: xs => given xs

theorem given_of {E : Env} : ∀ {args : List AV} {vs : List Value}, vs.length = args.length → (∀ (i : Nat) (v : Value) (x : AV), vs[i]? = some v → args[i]? = some x → RepV E v x) → given args := by
  intro args
  induction args with
  | nil => intro vs _ _; trivial
  | cons x xs ih =>
    intro vs hl h
    cases vs with
    | nil => simp at hl
    | cons v vs =>
      have hr := ih (vs := vs) (by simpa using hl) (fun i u y hu hy => h (i + 1) u y (by simpa using hu) (by simpa using hy))
      cases x with
      | rows k n f =>
        refine ⟨?_, hr⟩
        obtain ⟨A, cap, ws, a, h1, h2, _⟩ := Rep.rows_inv (show Rep E [v] (.rows k n f) from h 0 v _ rfl rfl)
        omega
      | _ => exact hr

theorem Spec.given {P : Program} {f : FuncId} {args : List AV} {R : AV → List LObj → Prop} (h : given args → Spec P f args R) : Spec P f args R :=
  fun E0 vs h1 h0 h2 h3 h4 => h (given_of h3 h4) E0 vs h1 h0 h2 h3 h4

/-- Known less. -/
theorem Spec.weak {P : Program} {f : FuncId} {args : List AV} {Z : Type} {X : Z → AV} {HH : Z → List LObj} {R : AV → List LObj → Prop} (h : Spec P f args fun y H => ∃ z, leSt 0 ⟨[y], H⟩ ⟨[X z], HH z⟩ (R (X z) (HH z))) : Spec P f args R := by
  intro E0 vs h1 h0 h2 h3 h4
  refine (h E0 vs h1 h0 h2 h3 h4).mono ?_
  rintro e w' ⟨v, x, H, E', he, ⟨z, hle⟩, hw, g, hv⟩
  obtain ⟨⟨ks, hks⟩, hR⟩ := leSt_spec hle
  have gs : GamS E0 E' ⟨[x], H⟩ { tmps := #[v], defers := [] } := ⟨g, rfl, fun i u y hu hy => by
    cases i with
    | zero => simp at hu hy; subst hu hy; exact hv
    | succ i => simp at hu⟩
  have g2 := le_sound (nb := 0) h0 gs hks
  exact ⟨v, X z, HH z, E'.ren ks (HH z), he, hR, hw, g2.toGam, by simpa using g2.slots.2 0 v (X z) rfl rfl⟩

theorem SpecH.weak {P : Program} {f : FuncId} {H0 : List LObj} {args : List AV} {Z : Type} {X : Z → AV} {HH : Z → List LObj} {R : AV → List LObj → Prop} (h : SpecH P f H0 args fun y H => ∃ z, leSt H0.length ⟨[y], H⟩ ⟨[X z], HH z⟩ (R (X z) (HH z))) : SpecH P f H0 args R := by
  intro E0 vs g0 h0 h3 h4
  refine (h E0 vs g0 h0 h3 h4).mono ?_
  rintro e w' ⟨v, x, H, E', he, ⟨z, hle⟩, hw, g, hv⟩
  obtain ⟨⟨ks, hks⟩, hR⟩ := leSt_spec hle
  have gs : GamS E0 E' ⟨[x], H⟩ { tmps := #[v], defers := [] } := ⟨g, rfl, fun i u y hu hy => by
    cases i with
    | zero => simp at hu hy; subst hu hy; exact hv
    | succ i => simp at hu⟩
  have g2 := le_sound (nb := H0.length) h0 gs hks
  exact ⟨v, X z, HH z, E'.ren ks (HH z), he, hR, hw, g2.toGam, by simpa using g2.slots.2 0 v (X z) rfl rfl⟩

/-- Known less, in one of two forms. -/
theorem SpecH.weak2 {P : Program} {f : FuncId} {H0 : List LObj} {args : List AV} {x1 x2 : AV} {h1 h2 : List LObj} {R : AV → List LObj → Prop} (h : SpecH P f H0 args fun y H => leSt H0.length ⟨[y], H⟩ ⟨[x1], h1⟩ (R x1 h1) ∨ leSt H0.length ⟨[y], H⟩ ⟨[x2], h2⟩ (R x2 h2)) : SpecH P f H0 args R :=
  SpecH.weak (Z := Bool) (X := fun b => bif b then x1 else x2) (HH := fun b => bif b then h1 else h2) (h.mono fun _ _ hh => hh.elim (fun hh => ⟨true, hh⟩) (fun hh => ⟨false, hh⟩))

/-- The names as they are. -/
def idN (n : Nat) : Names := (List.range n).map .old
theorem pos_range : ∀ (n k q q' : Nat), pos ((List.range' k n).map .old) q = some q' → q = k + q' := by
  intro n
  induction n with
  | zero => intro k q q' h; cases h
  | succ n ih =>
    intro k q q' h
    simp only [List.range'_succ, List.map_cons, pos] at h
    split at h
    · rename_i hb
      injection h with h
      subst h
      exact Nat.eq_of_beq_eq_true hb
    · split at h
      · rename_i j hj
        injection h with h
        subst h
        have := ih (k + 1) q j hj
        omega
      · cases h
theorem extRen_id (n : Nat) (E : Env) : ExtRen (idN n) E E :=
  ⟨fun _ h => h, fun _ _ => rfl, fun q L q' hL hp => by
    have := pos_range n 0 q q' (by rw [← List.range_eq_range']; exact hp)
    rw [show q' = q by omega]; exact hL, fun l h => by
    rw [virt_iff] at h
    simp [idN] at h⟩
theorem leV_of_leA {ks : Names} {x y : AV} (h : leA ks x y) : leV ks x y := by
  cases y <;> first | trivial | exact h

/-- Arguments that say more. -/
theorem Spec.args {P : Program} {f : FuncId} {args args' : List AV} {R : AV → List LObj → Prop} (h : leL (idN 0) args args') (k : Spec P f args' R) : Spec P f args R := by
  intro E0 vs h1 h0 h2 h3 h4
  obtain ⟨e1, e2⟩ := leL_get h
  refine k E0 vs h1 h0 h2 (by rw [h3, e1]) fun i v y hv hy => ?_
  have hlt : i < args.length := by rw [e1]; exact (List.getElem?_eq_some_iff.1 hy).1
  exact repV_le (h4 i v _ hv (List.getElem?_eq_getElem hlt)) (extRen_id 0 E0) (leV_of_leA (e2 i _ _ (List.getElem?_eq_getElem hlt) hy))
theorem SpecH.args {P : Program} {f : FuncId} {H0 : List LObj} {args args' : List AV} {R : AV → List LObj → Prop} (n : Nat) (h : leL (idN n) args args') (k : SpecH P f H0 args' R) : SpecH P f H0 args R := by
  intro E0 vs g0 h0 h3 h4
  obtain ⟨e1, e2⟩ := leL_get h
  refine k E0 vs g0 h0 (by rw [h3, e1]) fun i v y hv hy => ?_
  have hlt : i < args.length := by rw [e1]; exact (List.getElem?_eq_some_iff.1 hy).1
  exact repV_le (h4 i v _ hv (List.getElem?_eq_getElem hlt)) (extRen_id n E0) (leV_of_leA (e2 i _ _ (List.getElem?_eq_getElem hlt) hy))
/-- A row that is read: each element may be known better. -/
def leR (x : AV) : AV → Prop
  | .rows k n f => match x with
    | .rows k' n' f' => k' = k ∧ n' = n ∧ ∀ i, i < n → leA [] (f' i) (f i)
    | _ => False
  | y => leA (idN 0) x y
def leRs : List AV → List AV → Prop
  | [], [] => True
  | c :: cs, d :: ds => leR c d ∧ leRs cs ds
  | _, _ => False
theorem leRs_get : ∀ {cs ds : List AV}, leRs cs ds → cs.length = ds.length ∧ ∀ (i : Nat) (c d : AV), cs[i]? = some c → ds[i]? = some d → leR c d := by
  intro cs
  induction cs with
  | nil =>
    intro ds h
    cases ds with
    | nil => exact ⟨rfl, fun i c d hc => by simp at hc⟩
    | cons d ds => simp [leRs] at h
  | cons c cs ih =>
    intro ds h
    cases ds with
    | nil => simp [leRs] at h
    | cons d ds =>
      simp only [leRs] at h
      obtain ⟨h1, h2⟩ := ih h.2
      refine ⟨by simp [h1], fun i c' d' hc hd => ?_⟩
      cases i with
      | zero => simp at hc hd; subst hc hd; exact h.1
      | succ i => exact h2 i c' d' (by simpa using hc) (by simpa using hd)
theorem extRen_nil (E : Env) : ExtRen [] E E := ⟨fun _ h => h, fun _ _ => rfl, fun q L q' _ hp => by simp [pos] at hp, fun l h => by rw [virt_iff] at h; simp at h⟩
theorem rep_rows_le {E : Env} {us : List Value} {x : AV} (h : Rep E us x) {k n : Nat} {f f' : Nat → AV} (hx : x = .rows k n f) (hf : ∀ i, i < n → leA [] (f i) (f' i)) : Rep E us (.rows k n f') := by
  cases h with
  | rows hc hm ha hl hcell h =>
    cases hx
    exact Rep.rows hc hm ha hl hcell (fun i hi => rep_le (h i hi) (extRen_nil _) (hf i hi))
  | _ => cases hx
theorem repV_leR {E : Env} {v : Value} {x y : AV} (h : RepV E v x) (hl : leR x y) : RepV E v y := by
  cases y with
  | rows k n f =>
    cases x <;> simp only [leR] at hl
    obtain ⟨rfl, rfl, hf⟩ := hl
    exact rep_rows_le (show Rep E [v] _ from h) rfl hf
  | _ => exact repV_le h (extRen_id 0 E) (leV_of_leA (by simpa only [leR] using hl))
theorem Spec.argsR {P : Program} {f : FuncId} {args args' : List AV} {R : AV → List LObj → Prop} (h : leRs args args') (k : Spec P f args' R) : Spec P f args R := by
  intro E0 vs h1 h0 h2 h3 h4
  obtain ⟨e1, e2⟩ := leRs_get h
  refine k E0 vs h1 h0 h2 (by rw [h3, e1]) fun i v y hv hy => ?_
  have hlt : i < args.length := by rw [e1]; exact (List.getElem?_eq_some_iff.1 hy).1
  exact repV_leR (h4 i v _ hv (List.getElem?_eq_getElem hlt)) (e2 i _ _ (List.getElem?_eq_getElem hlt) hy)

end Go.Am

namespace Go.Am
open Go.RowKit

theorem run_overlaps_zero {P : Program} (w : World) (tS tR e : TypeId) (ht : P.underlying tS = some (.slice e)) (size : Nat) (hz : ∀ w, (Go.sizeOf e).run P w = .ok size w)
    (A B : Option Addr) (la ca lb cb : Nat) (h0 : la = 0 ∨ lb = 0) :
    (Extern.SlicesOverlaps.overlaps #[tS, tS] #[tR] #[.slice A la ca, .slice B lb cb]).run P w = .ok (.bool false) w := by
  have h1 : la = 0 ∨ lb = 0 ∨ size = 0 := by rcases h0 with h | h <;> simp [h]
  change Sem.run P (α := Value) (do
    let some t := (#[tS, tS] : Array TypeId)[0]? | stuck "slices.overlaps: no parameter types"
    let .slice elem ← underlying t | stuck "slices.overlaps: slice type expected"
    let size ← sizeOf elem
    match A, B with
    | some a, some b =>
      if la = 0 ∨ lb = 0 ∨ size = 0 then pure (Value.bool false)
      else if a.block != b.block && (← frozen a) && (← frozen b) then unsupported .addressObserved
      else do
        if a.block != b.block then do
          noView a; noView b
          if ← mayBeOne a b then return Value.bool ((← choose (.extern "sameAddr.stringBytes" 2)) == 1)
        pure (Value.bool (a.block == b.block && a.off < b.off + lb * size && b.off < a.off + la * size))
    | _, _ => pure (Value.bool false)) w = _
  cases A with
  | none => simp [run_underlying ht, hz]
  | some a => cases B with
    | none => simp [run_underlying ht, hz]
    | some b => simp [run_underlying ht, hz, h1]

theorem run_overlaps_own {P : Program} {E0 E : Env} {H : List LObj} (g : Gam E0 E H) {tS tR e : TypeId} (ht : P.underlying tS = some (.slice e)) {size : Nat} (hz : ∀ w, (Go.sizeOf e).run P w = .ok size w)
    {l l' off off' len len' k k' n n' : Nat} {t t' : TypeId} {f f' : Nat → AV} (hk : 0 < k') (h1 : H[l]? = some (.row k t n f)) (h2 : H[l']? = some (.row k' t' n' f')) (hne : l ≠ l') {v v' : Value} (hv : RepV E v (.own l off len)) (hv' : RepV E v' (.own l' off' len')) :
    (Extern.SlicesOverlaps.overlaps #[tS, tS] #[tR] #[v, v']).run P E.w = .ok (.bool false) E.w := by
  obtain ⟨L, A, hL, hb, hA, rfl⟩ := Rep.own_inv (show Rep E [v] _ from hv)
  obtain ⟨L', A', hL', hb', hA', rfl⟩ := Rep.own_inv (show Rep E [v'] _ from hv')
  by_cases h0 : len = 0 ∨ len' = 0
  · exact run_overlaps_zero _ _ _ _ ht _ hz _ _ _ _ _ _ h0
  · have c1 : 0 < L.cap := by omega
    have c2 : 0 < L'.cap := by omega
    rw [hA (by omega), hA' (by omega)]
    obtain ⟨M, hM, _, hMk, _, _, hm⟩ := g.objs l _ h1
    obtain ⟨M', hM', _, hMk', _, _, hm'⟩ := g.objs l' _ h2
    obtain rfl : L = M := by rw [hL] at hM; injection hM
    obtain rfl : L' = M' := by rw [hL'] at hM'; injection hM'
    obtain ⟨arr, ha, hsz, _⟩ := hm c1
    obtain ⟨arr', ha', hsz', _⟩ := hm' c2
    refine Lib.run_overlaps_apart E.w tS tR e ht size hz _ _ _ _ _ _ (fun hh => hne (g.inj l l' L L' hL hL' c1 c2 hh)) t t' arr.size arr'.size ?_ ?_ ?_ ?_ ?_
    · simp [World.shape?, ha]
    · simp [World.shape?, ha']
    · rw [hsz']; exact Nat.ne_of_gt (Nat.mul_pos c2 hk)
    · simp [World.frozen?, ha]
    · simp [World.frozen?, ha]
end Go.Am

namespace Go.Am
open Go.RowKit Go.MapKept

theorem klaw_plain {P : Program} {k : TypeId} {d : TypeDesc} (hd : P.underlying k = some d) : KLaw P k (IsKey d) where
  check := fun w em v hv => MapKept.run_checkKey hd hv em 9999
  find := fun w x hx es hes => by
    rcases findNow_spec hx es 0 hes with ⟨h1, h2⟩ | ⟨j, e, h1, h2, h3⟩
    · exact .inl ⟨MapKept.run_findKey hd h1, h2⟩
    · exact .inr ⟨j, e, by simpa using MapKept.run_findKey hd h1, h2, h3⟩
  stays := fun w v hv => MapKept.run_keyThatStays hv

/-- A struct of two numbers. -/
def Two (k1 k2 : IntKind) (v : Value) : Prop := ∃ a b : Int, v = .agg #[.int k1 a, .int k2 b]

theorem klaw_two {P : Program} {k : TypeId} {f g : Field} {k1 k2 : IntKind} (hu : P.underlying k = some (.struct #[f, g])) (hf0 : decide (f.name = "_") = false) (hg0 : decide (g.name = "_") = false) (of : f.offset = 0) (og : g.offset = 1)
    (uf : P.underlying f.type = some (.int k1)) (ug : P.underlying g.type = some (.int k2)) (zf : szOf P f.type = some 1) (zg : szOf P g.type = some 1) (af : aggB P f.type = some false) (ag : aggB P g.type = some false) (ak : aggB P k = some true) (hs : P.stoodInHeld k = false) : KLaw P k (Two k1 k2) where
  check := fun w em v hv => by
    have hf : f.name ≠ "_" := of_decide_eq_false hf0
    have hg : g.name ≠ "_" := of_decide_eq_false hg0
    obtain ⟨a, b, rfl⟩ := hv
    have p1 := fun w => run_part_cell (P := P) (w := w) af [.int k1 a, .int k2 b] 0 (.int k1 a) rfl
    have p2 := fun w => run_part_cell (P := P) (w := w) ag [.int k1 a, .int k2 b] 1 (.int k2 b) rfl
    have c1 := fun w n => MapKept.run_checkKey (P := P) (w := w) (k := .int k1 a) uf (by rfl) em n
    have c2 := fun w n => MapKept.run_checkKey (P := P) (w := w) (k := .int k2 b) ug (by rfl) em n
    have d1 := c1 w 9998
    have d2 := c2 w 9998
    rw [show (10000 : Nat) = 9999 + 1 from rfl, Instr.checkKey]
    simp only [Sem.run_bind, run_underlying hu, Result.andThen_ok, ← Array.forIn_toList, List.forIn_cons, List.forIn_nil, hf, hg, ne_eq, not_false_eq_true, if_true, of, og, p1, p2, d1, d2, Sem.run_pure]
  find := fun w x hx es hes => by
    have hf : f.name ≠ "_" := of_decide_eq_false hf0
    have hg : g.name ≠ "_" := of_decide_eq_false hg0
    have eqs : ∀ a b c d : Int, (Op.equal k (.agg #[.int k1 a, .int k2 b]) (.agg #[.int k1 c, .int k2 d])).run P w = .ok (a == c && (b == d && true)) w := by
      intro a b c d
      let E : Env := ⟨w, fun _ => False, fun _ => none, 0⟩
      have r1 : ∀ a b : Int, Rep E [.int k1 a, .int k2 b] (.agg [.pl (.int k1 a), .pl (.int k2 b)]) := fun a b => Rep.cons (us := [.int k1 a]) rfl (.pl _ rfl) (Rep.cons (us := [.int k2 b]) rfl (.pl _ rfl) .nil)
      have he : eqT P 8 k [.pl (.int k1 a), .pl (.int k2 b)] [.pl (.int k1 c), .pl (.int k2 d)] = some (a == c && (b == d && true)) := by
        simp [eqT, hu, hs, hf, hg, zf, zg, of, og, subC, dropC, takeC, uf, ug, eqOne, eqLeaf, cw]
      exact run_eqT he (r1 a b) (r1 c d) (by rw [if_pos ak]; exact ⟨rfl, rfl⟩) 10000 w (by omega)
    obtain ⟨a, b, rfl⟩ := hx
    have asking : ∀ (es : List MapEntry) (i : Nat), (∀ e ∈ es, Two k1 k2 e.key) → ((Instr.findAsking k (.agg #[.int k1 a, .int k2 b]) es i).run P w = .ok none w ∧ ∀ e ∈ es, e.key ≠ .agg #[.int k1 a, .int k2 b]) ∨
        ∃ j e, (Instr.findAsking k (.agg #[.int k1 a, .int k2 b]) es i).run P w = .ok (some (i + j, e.val)) w ∧ es[j]? = some e ∧ e.key = .agg #[.int k1 a, .int k2 b] := by
      intro es
      induction es with
      | nil => intro i _; exact .inl ⟨by simp [Instr.findAsking], by simp⟩
      | cons e es ih =>
        intro i h
        obtain ⟨c, d, hcd⟩ := h e (by simp)
        have he := eqs a b c d
        by_cases hab : a = c ∧ b = d
        · obtain ⟨rfl, rfl⟩ := hab
          exact .inr ⟨0, e, by simp [Instr.findAsking, hcd, he], rfl, hcd⟩
        · have hne : (a == c && (b == d && true)) = false := by
            cases h1 : (a == c) <;> cases h2 : (b == d) <;> simp_all
          rw [hne] at he
          rcases ih (i + 1) (fun y hy => h y (by simp [hy])) with ⟨h1, h2⟩ | ⟨j, e', h1, h2, h3⟩
          · refine .inl ⟨by simp [Instr.findAsking, hcd, he, h1], fun y hy => ?_⟩
            rcases List.mem_cons.1 hy with rfl | hy
            · rw [hcd]
              intro hh
              injection hh with hh
              simp at hh
              exact hab ⟨hh.1.symm, hh.2.symm⟩
            · exact h2 y hy
          · exact .inr ⟨j + 1, e', by simp [Instr.findAsking, hcd, he, h1, Nat.add_assoc, Nat.add_comm 1 j], by simpa using h2, h3⟩
    have hfk := run_findKey_eq (P := P) w (k := k) (by rw [hu]) (.agg #[.int k1 a, .int k2 b]) es
    rw [hfk]
    rcases asking es 0 hes with ⟨h1, h2⟩ | ⟨j, e, h1, h2, h3⟩
    · exact .inl ⟨h1, h2⟩
    · exact .inr ⟨j, e, by simpa using h1, h2, h3⟩
  stays := fun w v hv => by
    obtain ⟨a, b, rfl⟩ := hv
    simp [Instr.keyThatStays, Instr.sameBits]
end Go.Am

namespace Go.Am
open Go.RowKit

section
variable {P : Program}

def partsAll (g : TypeId → List AV → Prop) : List Field → List AV → Prop
  | [], Xs => Xs = []
  | f :: fs, Xs => ∃ A B, Xs = A ++ B ∧ g f.type A ∧ partsAll g fs B
/-- A value of a type, in one. -/
def wrapE (P : Program) (t : TypeId) (Xs : List AV) : AV := match P.underlying t with
  | some (.struct _) => .agg Xs
  | _ => Xs.headD .any
/-- The abstract values of a type, in parts. -/
def Parts (P : Program) : Nat → TypeId → List AV → Prop
  | 0, _, _ => False
  | n + 1, t, Xs => match P.underlying t with
    | some .bool => ∃ b, Xs = [.pl (.bool b)]
    | some (.int k) => ∃ z, Xs = [.pl (.int k z)] ∧ (Lit.int k z).wf = true
    | some .string => ∃ s : ByteArray, Xs = [.pl (.string s)] ∧ s.size ≤ maxLen
    | some (.slice e) => ∃ m f, Xs = [.rows (P.cellsOf e) m f] ∧ m ≤ maxLen ∧ ∀ i, i < m → ∃ Ys, Parts P n e Ys ∧ f i = wrapE P e Ys
    | some (.array m e) => match P.underlying e with
      | some (.int k) => ∃ f, Xs = [.iarr k m f] ∧ ∀ i, i < m → (Lit.int k (f i)).wf = true
      | _ => False
    | some (.struct fs) => partsAll (Parts P n) fs.toList Xs
    | _ => False

/-- Where the fields lie. -/
def offsOk (P : Program) : List Field → Nat → Option Nat
  | [], k => some k
  | f :: fs, k => if f.offset = k then offsOk P fs (k + P.cellsOf f.type) else none
/-- The types that are read so. -/
def goodT (P : Program) : Nat → TypeId → Bool
  | 0, _ => false
  | n + 1, t => match P.underlying t with
    | some .bool => Nat.beq (P.cellsOf t) 1
    | some (.int _) => Nat.beq (P.cellsOf t) 1
    | some .string => Nat.beq (P.cellsOf t) 1
    | some (.slice e) => Nat.beq (P.cellsOf t) 1 && goodT P n e && Nat.blt 0 (P.cellsOf e)
    | some (.array m e) => match P.underlying e with
      | some (.int _) => Nat.beq (P.cellsOf e) 1 && Nat.beq (P.cellsOf t) m
      | _ => false
    | some (.struct fs) => fs.toList.all (fun f => goodT P n f.type) && (match offsOk P fs.toList 0 with
      | some k => Nat.beq k (P.cellsOf t)
      | none => false)
    | _ => false

theorem rep_one {E : Env} {us : List Value} {x : AV} (hl : us.length = cw x) (h : Rep E us x) : Rep E us (.agg [x]) := by
  have := Rep.cons hl h (Rep.nil (E := E))
  rwa [List.append_nil] at this
theorem rep_agg_inv {E : Env} {us : List Value} {c : AV} {cs : List AV} (h : Rep E us (.agg (c :: cs))) : ∃ A B, us = A ++ B ∧ A.length = cw c ∧ Rep E A c ∧ Rep E B (.agg cs) := by
  generalize hx : AV.agg (c :: cs) = x at h
  cases h <;> cases hx
  rename_i A B hl h ht
  exact ⟨A, B, rfl, hl, h, ht⟩
theorem rep_nil_inv {E : Env} {us : List Value} (h : Rep E us (.agg [])) : us = [] := by
  generalize hx : AV.agg [] = x at h
  cases h <;> cases hx
  rfl
theorem rep_of_one {E : Env} {us : List Value} {x : AV} (h : Rep E us (.agg [x])) : Rep E us x := by
  obtain ⟨A, B, rfl, _, hA, hB⟩ := rep_agg_inv h
  rw [rep_nil_inv hB, List.append_nil]
  exact hA
theorem rep_agg_append {E : Env} : ∀ {as : List AV} {us vs : List Value} {bs : List AV}, Rep E us (.agg as) → Rep E vs (.agg bs) → Rep E (us ++ vs) (.agg (as ++ bs)) := by
  intro as
  induction as with
  | nil => intro us vs bs h h2; rw [rep_nil_inv h]; exact h2
  | cons a as ih =>
    intro us vs bs h h2
    obtain ⟨A, B, rfl, hl, hA, hB⟩ := rep_agg_inv h
    rw [List.append_assoc, List.cons_append]
    exact Rep.cons hl hA (ih hB h2)

variable {H : Type} {enc : TypeId × Value → H} {w : World} {sp : Nat → Bool} {held : Bool}

/-- The parts of a value that lies in a row of cells, by its fields. -/
theorem fields_rep {E : Env} {cs : List Value} {n : Nat} {fuel : Nat} (ih : ∀ (t : TypeId) (us : List Value) (x : DataW H × List MemPlace), goodT P n t = true → DataW.trod enc P w 0 sp held fuel t us = some x → ∃ Xs, us.length = P.cellsOf t ∧ Rep E us (.agg Xs) ∧ Parts P n t Xs) :
    ∀ (fs : List Field) (k : Nat) {m : Nat}, fs.all (fun f => goodT P n f.type) = true → offsOk P fs k = some m → m = cs.length → (∀ f ∈ fs, ∃ x, DataW.trod enc P w 0 sp held fuel f.type ((cs.drop f.offset).take (P.cellsOf f.type)) = some x) →
      ∃ Xs, Rep E (cs.drop k) (.agg Xs) ∧ partsAll (Parts P n) fs Xs := by
  intro fs
  induction fs with
  | nil =>
    intro k m _ ho hm _
    simp only [offsOk, Option.some.injEq] at ho
    subst ho
    subst hm
    refine ⟨[], ?_, rfl⟩
    rw [List.drop_length]
    exact Rep.nil
  | cons f fs ihf =>
    intro k m hg ho hm hx
    simp only [List.all_cons, Bool.and_eq_true] at hg
    simp only [offsOk] at ho
    split at ho
    · rename_i hk
      obtain ⟨x, hxf⟩ := hx f List.mem_cons_self
      obtain ⟨A, hlA, hA, pA⟩ := ih _ _ x hg.1 hxf
      obtain ⟨B, hB, pB⟩ := ihf (k + P.cellsOf f.type) hg.2 ho hm (fun g hgm => hx g (List.mem_cons_of_mem _ hgm))
      refine ⟨A ++ B, ?_, A, B, rfl, pA, pB⟩
      have := rep_agg_append hA hB
      rw [hk, ← List.drop_drop, List.take_append_drop] at this
      exact this
    · cases ho

theorem trod_parts : ∀ (n : Nat) (E : Env), E.w = w → (∀ b, b < w.heap.size → E.F b) → ∀ (fuel : Nat) (t : TypeId) (us : List Value) (x : DataW H × List MemPlace), goodT P n t = true → DataW.trod enc P w 0 sp held fuel t us = some x → ∃ Xs, us.length = P.cellsOf t ∧ Rep E us (.agg Xs) ∧ Parts P n t Xs := by
  intro n
  induction n with
  | zero => intro E _ _ fuel t us x hg; simp [goodT] at hg
  | succ n ih =>
    intro E hE hF fuel t us x hg h
    cases hu : P.underlying t with
    | none => simp [goodT, hu] at hg
    | some T =>
      cases T with
      | bool =>
        simp only [goodT, hu, Nat.beq_eq] at hg
        obtain ⟨b, rfl, _⟩ := DataW.trod_bool hu h
        exact ⟨[.pl (.bool b)], by rw [hg]; rfl, rep_one rfl (Rep.pl _ rfl), by simp only [Parts, hu]; exact ⟨b, rfl⟩⟩
      | int k =>
        simp only [goodT, hu, Nat.beq_eq] at hg
        obtain ⟨z, rfl, _, hw⟩ := DataW.trod_int hu h
        exact ⟨[.pl (.int k z)], by rw [hg]; rfl, rep_one rfl (Rep.pl _ rfl), by simp only [Parts, hu]; exact ⟨z, rfl, hw⟩⟩
      | string =>
        simp only [goodT, hu, Nat.beq_eq] at hg
        obtain ⟨s, rfl, _, hs⟩ := DataW.trod_string hu h
        exact ⟨[.pl (.string s)], by rw [hg]; rfl, rep_one rfl (Rep.pl _ rfl), by simp only [Parts, hu]; exact ⟨s, rfl, hs⟩⟩
      | slice e =>
        simp only [goodT, hu, Bool.and_eq_true, Nat.beq_eq, Nat.blt_eq] at hg
        obtain ⟨⟨h1, hge⟩, hpos⟩ := hg
        rcases DataW.trod_slice hu h with ⟨rfl, _⟩ | ⟨a, len, cap, elems, rest, n', _, rfl, _, _, hlc, hcm, hlen, hel, _, _⟩
        · refine ⟨[.rows (P.cellsOf e) 0 fun _ => .any], by rw [h1]; rfl, rep_one rfl (.rows (us := fun _ => []) (a := default) (Nat.le_refl _) (by omega) (by omega) (by omega) (by omega) (by omega)), ?_⟩
          simp only [Parts, hu]
          exact ⟨0, _, rfl, Nat.zero_le _, fun i hi => by omega⟩
        · have key : ∀ i, i < len → ∃ (cs : List Value) (Ys : List AV), w.cells? 0 (a.add (i * P.cellsOf e)) (P.cellsOf e) = some cs ∧ cs.length = P.cellsOf e ∧ Rep E.imm cs (.agg Ys) ∧ Parts P n e Ys := by
            intro i hi
            have hh := hel i hi
            rw [List.getElem?_eq_getElem (by omega)] at hh
            obtain ⟨cs, hc, ht⟩ := Option.bind_eq_some_iff.1 hh
            obtain ⟨Ys, hl, hr, hp⟩ := ih E.imm hE hF n' e cs _ hge ht
            exact ⟨cs, Ys, hc, hl, hr, hp⟩
          have key2 : ∃ (us : Nat → List Value) (Y : Nat → List AV), ∀ i, i < len → w.cells? 0 (a.add (i * P.cellsOf e)) (P.cellsOf e) = some (us i) ∧ (us i).length = P.cellsOf e ∧ Rep E.imm (us i) (.agg (Y i)) ∧ Parts P n e (Y i) := by
            refine ⟨fun i => if h : i < len then (key i h).choose else [], fun i => if h : i < len then (key i h).choose_spec.choose else [], fun i hi => ?_⟩
            simp only [hi, dif_pos]
            exact (key i hi).choose_spec.choose_spec
          obtain ⟨us, Y, hY⟩ := key2
          refine ⟨[.rows (P.cellsOf e) len fun i => wrapE P e (Y i)], by rw [h1]; rfl, rep_one rfl ?_, ?_⟩
          · refine .rows (us := us) (a := a) hlc hcm (fun h0 => ⟨rfl, hF _ ?_⟩) (fun i hi => (hY i hi).2.1) (fun i hi j u hu' => ?_) (fun i hi => ?_)
            · have := World.cells?_block (hY 0 h0).1 hpos
              simpa using this
            · rw [hE]
              have h2 := World.cells?_some (hY i hi).1
              have hj : j < P.cellsOf e := by rw [← (hY i hi).2.1]; exact (List.getElem?_eq_some_iff.1 hu').1
              have := h2.2.2 j hj
              rw [hu'] at this
              rw [← this]
              rw [Addr.add_add]
            · have hr := (hY i hi).2.2.1
              have hp := (hY i hi).2.2.2
              unfold wrapE
              split
              · exact hr
              · rename_i hns
                -- one part
                have one : ∃ y, Y i = [y] := by
                  cases n with
                  | zero => simp [Parts] at hp
                  | succ n =>
                    simp only [Parts] at hp
                    split at hp
                    · obtain ⟨b, hb⟩ := hp; exact ⟨_, hb⟩
                    · obtain ⟨b, hb, _⟩ := hp; exact ⟨_, hb⟩
                    · obtain ⟨b, hb, _⟩ := hp; exact ⟨_, hb⟩
                    · obtain ⟨m, f, hb, _⟩ := hp; exact ⟨_, hb⟩
                    · split at hp
                      · obtain ⟨f, hb, _⟩ := hp; exact ⟨_, hb⟩
                      · exact hp.elim
                    · rename_i hst; exact absurd hst (hns _)
                    · exact hp.elim
                obtain ⟨y, hy⟩ := one
                rw [hy] at hr ⊢
                exact rep_of_one hr
          · simp only [Parts, hu]
            exact ⟨len, _, rfl, by omega, fun i hi => ⟨Y i, (hY i hi).2.2.2, rfl⟩⟩
      | array m e =>
        simp only [goodT, hu] at hg
        cases he : P.underlying e with
        | none => rw [he] at hg; cases hg
        | some T' =>
          rw [he] at hg
          cases T' <;> try cases hg
          rename_i k
          simp only [Bool.and_eq_true, Nat.beq_eq] at hg
          obtain ⟨hc1, hcm⟩ := hg
          obtain ⟨xs, m', _, _, hl, hxl, hx⟩ := DataW.trod_array hu h
          have key : ∀ i, i < m → ∃ z, us[i]? = some (.int k z) ∧ (Lit.int k z).wf = true := by
            intro i hi
            have h2 := hx i hi
            rw [hc1, Nat.mul_one, List.getElem?_eq_getElem (by omega)] at h2
            obtain ⟨z, hz, _, hw⟩ := DataW.trod_int he h2
            refine ⟨z, ?_, hw⟩
            have : ((us.drop i).take 1)[0]? = some (.int k z) := by rw [hz]; rfl
            simpa [List.getElem?_take, List.getElem?_drop] using this
          have key2 : ∃ f : Nat → Int, ∀ i, i < m → us[i]? = some (.int k (f i)) ∧ (Lit.int k (f i)).wf = true := by
            refine ⟨fun i => if h : i < m then (key i h).choose else 0, fun i hi => ?_⟩
            simp only [hi, dif_pos]
            exact (key i hi).choose_spec
          obtain ⟨f, hf⟩ := key2
          refine ⟨[.iarr k m f], hl, rep_one (by rw [hl, hcm]; rfl) (.iarr (by rw [hl, hcm]) (fun i hi => (hf i hi).1)), ?_⟩
          simp only [Parts, hu, he]
          exact ⟨f, rfl, fun i hi => (hf i hi).2⟩
      | struct fs =>
        simp only [goodT, hu, Bool.and_eq_true] at hg
        obtain ⟨hga, hgo⟩ := hg
        split at hgo
        · rename_i k hk
          rw [Nat.beq_eq] at hgo
          subst hgo
          obtain ⟨xs, n', _, _, hl, hxl, hx⟩ := DataW.trod_struct hu h
          obtain ⟨Xs, hr, hp⟩ := fields_rep (E := E) (cs := us) (fun t us x => ih E hE hF n' t us x) fs.toList 0 hga hk hl.symm (fun f hf => by
            obtain ⟨i, hi, rfl⟩ := List.mem_iff_getElem.1 hf
            have hi' : i < fs.size := by simpa using hi
            have := hx i fs[i] (Array.getElem?_eq_getElem hi')
            rw [List.getElem?_eq_getElem (by omega)] at this
            exact ⟨_, by simpa using this⟩)
          refine ⟨Xs, hl, by simpa using hr, ?_⟩
          simp only [Parts, hu]
          exact hp
        · cases hgo
      | _ => simp [goodT, hu] at hg

def wrapV (P : Program) (t : TypeId) (Xs : List AV) : AV := match P.underlying t with
  | some (.struct _) => .agg Xs
  | some (.array _ _) => .agg Xs
  | _ => Xs.headD .any
def ArgsOf (P : Program) (n : Nat) : List TypeId → List AV → Prop
  | [], [] => True
  | t :: ts, x :: xs => (∃ Ys, Parts P n t Ys ∧ x = wrapV P t Ys) ∧ ArgsOf P n ts xs
  | _, _ => False
/-- Where a call begins: all that lies there is shared. -/
def startE (w : World) : Env := { w := w, F := fun b => b < w.heap.size, loc := fun _ => none, m := 0 }

theorem arg_rep {n : Nat} {t : TypeId} {v : Value} {d : DataW H} {ps : List MemPlace} {r : Reach} {b0 : Nat} (hg : goodT P n t = true) (hok : Value.okWide P w r b0 t v) (hd : DataW.Trod enc P w 0 sp held t v d ps) :
    ∃ Ys, Parts P n t Ys ∧ RepV (startE w) v (wrapV P t Ys) := by
  obtain ⟨fuel, hf⟩ := hd
  obtain ⟨Xs, hl, hr, hp⟩ := trod_parts n (startE w) rfl (fun b hb => hb) fuel t _ _ hg hf
  refine ⟨Xs, hp, ?_⟩
  cases n with
  | zero => simp [Parts] at hp
  | succ n =>
    have hp' := hp
    simp only [Parts] at hp'
    split at hp' <;> rename_i hu
    · obtain ⟨b, rfl⟩ := hp'
      obtain ⟨b', rfl⟩ := WideShapes.okWide_bool hu hok
      simp only [wrapV, hu]
      exact rep_of_one hr
    · obtain ⟨b, rfl, _⟩ := hp'
      obtain ⟨b', rfl⟩ := WideShapes.okWide_int hu hok
      simp only [wrapV, hu]
      exact rep_of_one hr
    · obtain ⟨b, rfl, _⟩ := hp'
      obtain ⟨b', rfl⟩ := WideShapes.okWide_string hu hok
      simp only [wrapV, hu]
      exact rep_of_one hr
    · obtain ⟨m, f, rfl, _⟩ := hp'
      obtain ⟨a, l, c, rfl⟩ := WideShapes.okWide_slice hu hok
      simp only [wrapV, hu]
      exact rep_of_one hr
    · simp only [wrapV, hu]
      simp only [Value.okWide, hu] at hok
      obtain ⟨cs, rfl, _⟩ := hok
      exact ⟨cs.toList, by simp, hr⟩
    · simp only [wrapV, hu]
      simp only [Value.okWide, hu] at hok
      obtain ⟨cs, rfl, _⟩ := hok
      exact ⟨cs.toList, by simp, hr⟩
    · exact hp'.elim

theorem args_rep {n : Nat} {r : Reach} {b0 : Nat} : ∀ {ts : List TypeId} {vs : List Value} {ds : List (DataW H)} {ps : List MemPlace}, (∀ t ∈ ts, goodT P n t = true) → (∀ (j : Nat) (t : TypeId) (v : Value), ts[j]? = some t → vs[j]? = some v → Value.okWide P w r b0 t v) → DataW.TrodAll enc P w 0 sp held ts vs ds ps →
    ∃ xs, ArgsOf P n ts xs ∧ vs.length = xs.length ∧ ds.length = ts.length ∧ ∀ (i : Nat) (v : Value) (x : AV), vs[i]? = some v → xs[i]? = some x → RepV (startE w) v x := by
  intro ts
  induction ts with
  | nil =>
    intro vs ds ps _ _ h
    cases vs <;> cases ds <;> simp only [DataW.TrodAll] at h
    exact ⟨[], trivial, rfl, rfl, fun i v x hv => by simp at hv⟩
  | cons t ts ih =>
    intro vs ds ps hg hok h
    cases vs <;> cases ds <;> simp only [DataW.TrodAll] at h
    rename_i v vs d ds
    obtain ⟨p, q, h1, h2, _⟩ := h
    obtain ⟨Ys, hp, hr⟩ := arg_rep (hg t List.mem_cons_self) (hok 0 t v rfl rfl) h1
    obtain ⟨xs, ha, hl, hdl, hx⟩ := ih (fun t ht => hg t (List.mem_cons_of_mem _ ht)) (fun j t v ht hv => hok (j + 1) t v (by simpa using ht) (by simpa using hv)) h2
    refine ⟨wrapV P t Ys :: xs, ⟨⟨Ys, hp, rfl⟩, ha⟩, by simp [hl], by simp [hdl], fun i u y hu hy => ?_⟩
    cases i with
    | zero => simp at hu hy; subst hu hy; exact hr
    | succ i => exact hx i u y (by simpa using hu) (by simpa using hy)

theorem trodAll_later (hl : laidOutB P = true) {W W' : World} (hb : Below W.heap.size W W') {sp' : Nat → Bool} : ∀ {ts : List TypeId} {vs : List Value} {ds : List (DataW H)} {ps : List MemPlace}, (∀ t ∈ ts, P.readableRec t = true ∧ t < P.types.size) → DataW.TrodAll enc P W 0 (fun _ => true) true ts vs ds ps → (∀ p ∈ ps, p.block < W.heap.size) → (∀ p ∈ ps, sp' p.block = true) →
    DataW.TrodAll enc P W' 0 sp' true ts vs ds ps := by
  intro ts
  induction ts with
  | nil =>
    intro vs ds ps _ h _ _
    cases vs <;> cases ds <;> simp only [DataW.TrodAll] at h ⊢
    exact h
  | cons t ts ih =>
    intro vs ds ps hg h hlt hs
    cases vs <;> cases ds <;> simp only [DataW.TrodAll] at h ⊢
    obtain ⟨p, q, h1, h2, rfl⟩ := h
    exact ⟨p, q, WideElems.Trod_stays hl (hg t List.mem_cons_self).1 (hg t List.mem_cons_self).2 h1 (fun x hx => hb.same (hlt x (List.mem_append_left _ hx))) (fun x hx => hs x (List.mem_append_left _ hx)),
      ih (fun t ht => hg t (List.mem_cons_of_mem _ ht)) h2 (fun x hx => hlt x (List.mem_append_right _ hx)) (fun x hx => hs x (List.mem_append_right _ hx)), rfl⟩

/-- From a contract to what a law's row asks of the call: it returns true, and each argument reads as it did. -/
theorem law_post {f : FuncId} {fn : Func} {s : ChangeSpec} {n : Nat} {tb : TypeId} {apart fresh handsOn again : Bool} {r : Reach} {b0 : Nat}
    (hl : laidOutB P = true) (hts : ∀ t ∈ fn.params.toList, goodT P n t = true ∧ P.readableRec t = true ∧ t < P.types.size)
    (hv : s.vars = []) (hs : ∀ ds : List (DataW H), ds.length = fn.params.toList.length → s.fn H (ds ++ []) = { results := [.lit (.bool true)], args := ds, vars := [] })
    (hr : fn.resultTypes = #[tb]) (hb : P.underlying tb = some .bool)
    (hc : ∀ xs, ArgsOf P n fn.params.toList xs → Spec P f xs fun y _ => y = .pl (.bool true))
    {W : World} {args : Array Value} {ds gs : List (DataW H)} {before : List MemPlace}
    (hval : ∀ (j : Nat) t v, fn.params[j]? = some t → args[j]? = some v → Value.okWide P W r b0 t v)
    (hW : DataW.Whole enc P fn.params.toList s.vars apart W args.toList ds gs before) :
    Calls P f args W fun e W' => ∃ v, e = .returned v ∧ s.post enc P fn apart fresh handsOn again W args v W' := by
  obtain ⟨p, q, hA, hV, hpq, hfz, hnd⟩ := id hW
  rw [hv] at hV
  obtain ⟨rfl, rfl⟩ := ChangeShapes.trodVars_none hV
  rw [List.append_nil] at hpq
  subst hpq
  have hlt : ∀ x ∈ before, x.block < W.heap.size := fun x hx => hW.lt x hx
  obtain ⟨xs, ha, hlen, hdl, hx⟩ := args_rep (n := n) (fun t ht => (hts t ht).1) (fun j t v ht hv => hval j t v (by simpa using ht) (by simpa using hv)) hA
  have hcall := hc xs ha (startE W) args.toList (fun _ => rfl) rfl (fun b hb => hb) hlen hx
  simp only [Array.toArray_toList] at hcall
  refine Calls.mono hcall ?_
  rintro e W' ⟨v, x, H', E', rfl, rfl, rfl, hg, hrep⟩
  obtain rfl := repV_pl hrep
  have hbel : Below W.heap.size W E'.w := hg.belowN (fun _ => rfl)
  have hfn := hs ds hdl
  have later : ∀ sp : Nat → Bool, (∀ x ∈ before, sp x.block = true) → DataW.TrodAll enc P E'.w 0 sp true fn.params.toList args.toList ds before := fun sp hsp => trodAll_later hl hbel (fun t ht => (hts t ht).2) hA hlt hsp
  have res : ∀ (b : Nat) (sp : Nat → Bool) (hd : Bool), DataW.TrodAll enc P E'.w b sp hd fn.resultTypes.toList ((Value.bool true).resultList fn.resultTypes.size) [.lit (.bool true)] [] := fun b sp hd => by
    rw [hr]
    exact ⟨[], [], shut_bool hb true, rfl, rfl⟩
  have vars : ∀ sp : Nat → Bool, DataW.TrodVars enc P E'.w sp s.vars [] [] := fun sp => by rw [hv]; rfl
  have both : DataW.TrodAll enc P E'.w 0 (fun _ => true) true (fn.resultTypes.toList ++ fn.params.toList) ((Value.bool true).resultList fn.resultTypes.size ++ args.toList) ([.lit (.bool true)] ++ ds) ([] ++ before) := ChangeShapes.trodAll_append (later _ (fun _ _ => rfl)) (res _ _ _)
  refine ⟨.bool true, rfl, ds, [], before, [], before, [], hW, ?_, ?_, ?_, World.keptBut_mono (fun x hx => ⟨hx, .inr (.inl hx)⟩) (hbel.frame (· ∈ before)), fun _ => ⟨ok_one hr rfl (okWide_bool_mk hb true), ?_⟩⟩
  · rw [hfn]; exact res _ _ _
  · rw [hfn]; exact later _ (fun x hx => by simpa using hlt x hx)
  · rw [hfn]; exact vars _
  · refine ⟨_, _, before, ⟨before, [], both, vars _, by simp, fun b off hm => ?_, fun ha => hnd ha⟩, fun x hx _ => by simpa using hx⟩
    rw [hbel.frozen (hlt _ hm)]
    exact hfz b off hm

theorem Parts.int {n : Nat} {t : TypeId} {k : IntKind} {Xs : List AV} (hu : P.underlying t = some (.int k)) (h : Parts P (n + 1) t Xs) : ∃ z, Xs = [.pl (.int k z)] ∧ (Lit.int k z).wf = true := by
  simpa only [Parts, hu] using h
theorem Parts.bool {n : Nat} {t : TypeId} {Xs : List AV} (hu : P.underlying t = some .bool) (h : Parts P (n + 1) t Xs) : ∃ b, Xs = [.pl (.bool b)] := by
  simpa only [Parts, hu] using h
theorem Parts.string {n : Nat} {t : TypeId} {Xs : List AV} (hu : P.underlying t = some .string) (h : Parts P (n + 1) t Xs) : ∃ s : ByteArray, Xs = [.pl (.string s)] ∧ s.size ≤ maxLen := by
  simpa only [Parts, hu] using h
theorem Parts.slice {n : Nat} {t e : TypeId} {Xs : List AV} (hu : P.underlying t = some (.slice e)) (h : Parts P (n + 1) t Xs) : ∃ m f, Xs = [.rows (P.cellsOf e) m f] ∧ m ≤ maxLen ∧ ∀ i, i < m → ∃ Ys, Parts P n e Ys ∧ f i = wrapE P e Ys := by
  simpa only [Parts, hu] using h
theorem Parts.array {n m : Nat} {t e : TypeId} {k : IntKind} {Xs : List AV} (hu : P.underlying t = some (.array m e)) (he : P.underlying e = some (.int k)) (h : Parts P (n + 1) t Xs) : ∃ f, Xs = [.iarr k m f] ∧ ∀ i, i < m → (Lit.int k (f i)).wf = true := by
  simpa only [Parts, hu, he] using h
theorem Parts.struct {n : Nat} {t : TypeId} {fs : Array Field} {Xs : List AV} (hu : P.underlying t = some (.struct fs)) (h : Parts P (n + 1) t Xs) : partsAll (Parts P n) fs.toList Xs := by
  simpa only [Parts, hu] using h
theorem wrapE_struct {t : TypeId} {fs : Array Field} {Xs : List AV} (hu : P.underlying t = some (.struct fs)) : wrapE P t Xs = .agg Xs := by simp only [wrapE, hu]
theorem wrapV_struct {t : TypeId} {fs : Array Field} {Xs : List AV} (hu : P.underlying t = some (.struct fs)) : wrapV P t Xs = .agg Xs := by simp only [wrapV, hu]
theorem wrapE_int {t : TypeId} {k : IntKind} {x : AV} (hu : P.underlying t = some (.int k)) : wrapE P t [x] = x := by simp only [wrapE, hu]; rfl
theorem wrapV_int {t : TypeId} {k : IntKind} {x : AV} (hu : P.underlying t = some (.int k)) : wrapV P t [x] = x := by simp only [wrapV, hu]; rfl
theorem wrapV_slice {t e : TypeId} {x : AV} (hu : P.underlying t = some (.slice e)) : wrapV P t [x] = x := by simp only [wrapV, hu]; rfl
theorem list_of {α : Type} (p : Nat → α → Prop) : ∀ n : Nat, (∀ i, i < n → ∃ a, p i a) → ∃ L : List α, L.length = n ∧ ∀ i (h : i < L.length), p i L[i] := by
  intro n
  induction n with
  | zero => intro _; exact ⟨[], rfl, fun i h => by simp at h⟩
  | succ n ih =>
    intro h
    obtain ⟨L, hl, hL⟩ := ih (fun i hi => h i (by omega))
    obtain ⟨a, ha⟩ := h n (by omega)
    refine ⟨L ++ [a], by simp [hl], fun i hi => ?_⟩
    rcases Nat.lt_or_ge i L.length with h1 | h1
    · rw [List.getElem_append_left h1]; exact hL i h1
    · have : i = n := by simp at hi; omega
      subst this
      rw [List.getElem_append_right h1]
      simpa using ha
theorem args_cons {n : Nat} {t : TypeId} {ts : List TypeId} {xs : List AV} (h : ArgsOf P n (t :: ts) xs) : ∃ Ys rest, xs = wrapV P t Ys :: rest ∧ Parts P n t Ys ∧ ArgsOf P n ts rest := by
  cases xs with
  | nil => exact h.elim
  | cons x xs =>
    obtain ⟨⟨Ys, hp, rfl⟩, h2⟩ := h
    exact ⟨Ys, xs, rfl, hp, h2⟩
theorem args_nil {n : Nat} {xs : List AV} (h : ArgsOf P n [] xs) : xs = [] := by
  cases xs with
  | nil => rfl
  | cons x xs => exact h.elim
end
end Go.Am
