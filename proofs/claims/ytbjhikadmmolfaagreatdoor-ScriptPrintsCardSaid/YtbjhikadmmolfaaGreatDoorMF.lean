/- Arguments whose parts, at any depth, are known better. -/
import Derived.Test.YtbjhikadmmolfaaGreatDoorSF
set_option linter.unusedSectionVars false
set_option linter.unusedVariables false
set_option linter.unusedSimpArgs false
namespace Go.Am
open Go.RowKit
variable [Inhabited GlT]
inductive LeD : AV -> AV -> Prop where
 | le {x y : AV} (h : leA [] x y) : LeD x y
 | rows {k n : Nat} {f f' : Nat -> AV} (h : ∀ i, i < n -> LeD (f i) (f' i)) : LeD (.rows k n f) (.rows k n f')
 | nil : LeD (.agg []) (.agg [])
 | cons {c d : AV} {cs ds : List AV} (h : LeD c d) (hc : cw c = cw d) (t : LeD (.agg cs) (.agg ds)) : LeD (.agg (c :: cs)) (.agg (d :: ds))
theorem rep_leD {x y : AV} (h : LeD x y) : ∀ {E : Env} {us : List Value}, Rep E us x -> Rep E us y := by
 induction h with
 | le h => intro E us hr; exact rep_le hr (extRen_nil E) h
 | rows h ih =>
  intro E us hr
  generalize hx : AV.rows _ _ _ = z at hr
  cases hr with
  | rows hc hm ha hl hcell h2 =>
   cases hx
   exact Rep.rows hc hm ha hl hcell (λ i hi => ih i hi (h2 i hi))
  | _ => cases hx
 | nil => intro E us hr; exact hr
 | cons _ hc _ ih1 ih2 =>
  intro E us hr
  obtain ⟨h1, h2, h3⟩ := hr.cons_inv
  have := Rep.cons (by rw [h1]; exact hc) (ih1 h2) (ih2 h3)
  rwa [List.take_append_drop] at this
theorem repV_leD {E : Env} {v : Value} {x y : AV} (h : LeD x y) (hr : RepV E v x) : RepV E v y := by
 cases h with
 | le h => exact repV_le hr (extRen_nil E) (leV_of_leA h)
 | rows h => exact rep_leD (.rows h) (show Rep E [v] _ from hr)
 | nil => exact hr
 | cons h hc t =>
  obtain ⟨us, rfl, hu⟩ := (show RepV E v (.agg _) from hr)
  exact ⟨us, rfl, rep_leD (.cons h hc t) hu⟩
def LeDs : List AV -> List AV -> Prop
 | [], [] => True
 | c :: cs, d :: ds => LeD c d /\ LeDs cs ds
 | _, _ => False
theorem leDs_get : ∀ {cs ds : List AV}, LeDs cs ds -> cs.length = ds.length /\ ∀ (i : Nat) (c d : AV), cs[i]? = some c -> ds[i]? = some d -> LeD c d := by
 intro cs
 induction cs with
 | nil =>
  intro ds h
  cases ds with
  | nil => exact ⟨rfl, λ i c d hc => by simp at hc⟩
  | cons d ds => simp [LeDs] at h
 | cons c cs ih =>
  intro ds h
  cases ds with
  | nil => simp [LeDs] at h
  | cons d ds =>
   simp only [LeDs] at h
   obtain ⟨h1, h2⟩ := ih h.2
   refine ⟨by simp [h1], λ i c' d' hc hd => ?_⟩
   cases i with
   | zero => simp at hc hd; subst hc hd; exact h.1
   | succ i => exact h2 i c' d' (by simpa using hc) (by simpa using hd)
theorem Spec.argsD {P : Program} {f : FuncId} {args args' : List AV} {R : AV -> List LObj -> Prop} (h : LeDs args args') (k : Spec P f args' R) : Spec P f args R := by
 intro E0 vs h1 h0 h2 hG h3 h4
 obtain ⟨e1, e2⟩ := leDs_get h
 refine k E0 vs h1 h0 h2 hG (by rw [h3, e1]) λ i v y hv hy => ?_
 have hlt : i < args.length := by rw [e1]; exact (List.getElem?_eq_some_iff.1 hy).1
 exact repV_leD (e2 i _ _ (List.getElem?_eq_getElem hlt) hy) (h4 i v _ hv (List.getElem?_eq_getElem hlt))
theorem LeD.pl (v : Value) : LeD (.pl v) (.pl v) := .le (by simp only [leA]; cases v <;> simp [plLe])
theorem LeD.iarr (k : IntKind) (n : Nat) (f : Nat -> Int) : LeD (.iarr k n f) (.iarr k n f) := .le ⟨rfl, rfl, λ _ _ => rfl⟩
theorem LeD.of_leR {x y : AV} (h : leR x y) : LeD x y := by
 cases y with
 | rows k n f =>
  cases x <;> simp only [leR] at h
  obtain ⟨rfl, rfl, hf⟩ := h
  exact .rows λ i hi => .le (hf i hi)
 | _ => exact .le (show leA (idN 0) _ _ by simpa only [leR] using h)
end Go.Am
