/- Scripts: a text that is wrong from a line on is wrong there, whatever stands behind that line. In plain Lean. -/
import Derived.Test.YtbjhikadmmolfaaDoorSE
set_option linter.unusedSectionVars false
set_option linter.unusedVariables false
set_option linter.unusedSimpArgs false
namespace Go.SP
open Go Go.Am
theorem pg_cons (f : Nat) {t : Bs} (ht : t ≠ []) (a n : Nat) (s : Sc) : parseGo (f + 1) t a n s = bif (cutL 10 t).2.2 && (lineR s (cutL 10 t).1 n).2 then parseGo f (cutL 10 t).2.1 (a + (cutL 10 t).1.length + 1) (n + 1) (lineR s (cutL 10 t).1 n).1 else (s, a, n, false) := by
 cases t with
 | nil => exact absurd rfl ht
 | cons c t => rfl
theorem pg_nil (f a n : Nat) (s : Sc) : parseGo f [] a n s = (s, a, n, true) := by cases f <;> rfl
theorem cut_len {l : Bs} {c : UInt8} (h : (cutL c l).2.2 = true) : (cutL c l).1.length + (cutL c l).2.1.length + 1 = l.length := by
 have := congrArg List.length (cutL_found h).1
 simp at this
 omega
theorem nil_or (t : Bs) : t = [] ∨ t ≠ [] := by cases t <;> simp
theorem pg_at : ∀ (f : Nat) (t : Bs) (a n : Nat) (s : Sc), t.length < f -> a <= (parseGo f t a n s).2.1 /\ (parseGo f t a n s).2.1 <= a + t.length /\ (a < (parseGo f t a n s).2.1 -> t.getD ((parseGo f t a n s).2.1 - a - 1) 0 = 10) /\ n <= (parseGo f t a n s).2.2.1 /\ (t ≠ [] -> (parseGo f t a n s).2.2.2 = true -> n < (parseGo f t a n s).2.2.1) := by
 intro f
 induction f with
 | zero => intro t a n s h; omega
 | succ f ih =>
  intro t a n s hf
  rcases nil_or t with rfl | ht
  ·rw [pg_nil]; exact ⟨Nat.le_refl _, Nat.le_refl _, fun h => absurd h (Nat.lt_irrefl _), Nat.le_refl _, fun h => absurd rfl h⟩
  ·rw [pg_cons f ht]
   cases hc : (cutL 10 t).2.2 && (lineR s (cutL 10 t).1 n).2 with
   | false => exact ⟨Nat.le_refl _, Nat.le_add_right _ _, fun h => absurd h (Nat.lt_irrefl _), Nat.le_refl _, fun _ h => by cases h⟩
   | true =>
    rw [Bool.and_eq_true] at hc
    have hl := cut_len hc.1
    obtain ⟨h1, h2, h3, h4, h5⟩ := ih (cutL 10 t).2.1 (a + (cutL 10 t).1.length + 1) (n + 1) (lineR s (cutL 10 t).1 n).1 (by omega)
    rw [cond_true]
    refine ⟨by omega, by omega, fun _ => ?_, by omega, fun _ _ => by omega⟩
    have hf := (cutL_found hc.1).1
    generalize (parseGo f (cutL 10 t).2.1 (a + (cutL 10 t).1.length + 1) (n + 1) (lineR s (cutL 10 t).1 n).1).2.1 = e at h1 h2 h3 ⊢
    generalize (cutL 10 t).1 = x at hf hl h1 h2 h3
    generalize (cutL 10 t).2.1 = y at hf hl h2 h3
    subst hf
    rcases Nat.lt_or_ge (a + x.length + 1) e with hlt | hge
    ·rw [show e - a - 1 = x.length + 1 + (e - (a + x.length + 1) - 1) by omega, List.getD_eq_getElem?_getD, List.getElem?_append_right (by omega)]
     rw [show x.length + 1 + (e - (a + x.length + 1) - 1) - x.length = (e - (a + x.length + 1) - 1) + 1 by omega, List.getElem?_cons_succ, <- List.getD_eq_getElem?_getD]
     exact h3 hlt
    ·rw [show e - a - 1 = x.length by omega, List.getD_eq_getElem?_getD, List.getElem?_append_right (by omega), Nat.sub_self]
     rfl
theorem pg_pre (m : Bs) : ∀ (f g : Nat) (t : Bs) (a n : Nat) (s : Sc), t.length < f -> (parseGo f t a n s).2.2.2 = false -> (cutL 10 (t.drop ((parseGo f t a n s).2.1 - a))).2.2 = true ->
  (t.take ((parseGo f t a n s).2.1 - a + (cutL 10 (t.drop ((parseGo f t a n s).2.1 - a))).1.length + 1) ++ m).length < g ->
  (parseGo g (t.take ((parseGo f t a n s).2.1 - a + (cutL 10 (t.drop ((parseGo f t a n s).2.1 - a))).1.length + 1) ++ m) a n s).2 = (parseGo f t a n s).2 := by
 intro f
 induction f with
 | zero => intro g t a n s h; omega
 | succ f ih =>
  intro g t a n s hf hno hc hg
  rcases nil_or t with rfl | ht
  ·rw [pg_nil] at hno; cases hno
  ·rw [pg_cons f ht] at hno hc hg ⊢
   cases g with
   | zero => omega
   | succ g =>
   cases hb : (cutL 10 t).2.2 && (lineR s (cutL 10 t).1 n).2 with
   | false =>
    rw [hb, cond_false] at hc hg
    rw [cond_false]
    dsimp only at hc hg ⊢
    rw [Nat.sub_self, List.drop_zero] at hc hg ⊢
    have hl := cut_len hc
    obtain ⟨h1, h2⟩ := cutL_found hc
    rw [hc, Bool.true_and] at hb
    have e : t.take (0 + (cutL 10 t).1.length + 1) ++ m = (cutL 10 t).1 ++ 10 :: m := by
     generalize (cutL 10 t).1 = x at h1
     generalize (cutL 10 t).2.1 = y at h1
     subst h1
     rw [Nat.zero_add, show x ++ 10 :: y = (x ++ [10]) ++ y by simp, List.take_append_of_le_length (by simp), List.take_of_length_le (by simp)]
     simp
    rw [e, pg_cons g (by simp), cutL_mid h2, hb]
    rfl
   | true =>
    rw [hb, cond_true] at hno hc hg
    rw [cond_true]
    rw [Bool.and_eq_true] at hb
    have hl := cut_len hb.1
    obtain ⟨h1, h2⟩ := cutL_found hb.1
    have hat := pg_at f (cutL 10 t).2.1 (a + (cutL 10 t).1.length + 1) (n + 1) (lineR s (cutL 10 t).1 n).1 (by omega)
    have hih := ih g (cutL 10 t).2.1 (a + (cutL 10 t).1.length + 1) (n + 1) (lineR s (cutL 10 t).1 n).1 (by omega) hno
    generalize hp : parseGo f (cutL 10 t).2.1 (a + (cutL 10 t).1.length + 1) (n + 1) (lineR s (cutL 10 t).1 n).1 = r at *
    have hd : t.drop (r.2.1 - a) = (cutL 10 t).2.1.drop (r.2.1 - (a + (cutL 10 t).1.length + 1)) := by
     generalize (cutL 10 t).1 = x at h1 hat
     generalize (cutL 10 t).2.1 = y at h1
     subst h1
     rw [show x ++ 10 :: y = (x ++ [10]) ++ y by simp, show r.2.1 - a = (x ++ [10]).length + (r.2.1 - (a + x.length + 1)) by simp; omega, List.drop_length_add_append]
    rw [hd] at hc hg ⊢
    have e : t.take (r.2.1 - a + (cutL 10 ((cutL 10 t).2.1.drop (r.2.1 - (a + (cutL 10 t).1.length + 1)))).1.length + 1) ++ m = (cutL 10 t).1 ++ 10 :: ((cutL 10 t).2.1.take (r.2.1 - (a + (cutL 10 t).1.length + 1) + (cutL 10 ((cutL 10 t).2.1.drop (r.2.1 - (a + (cutL 10 t).1.length + 1)))).1.length + 1) ++ m) := by
     generalize (cutL 10 ((cutL 10 t).2.1.drop (r.2.1 - (a + (cutL 10 t).1.length + 1)))).1.length = k
     generalize (cutL 10 t).1 = x at h1 hat
     generalize (cutL 10 t).2.1 = y at h1
     subst h1
     rw [show x ++ 10 :: y = (x ++ [10]) ++ y by simp, show r.2.1 - a + k + 1 = (x ++ [10]).length + (r.2.1 - (a + x.length + 1) + k + 1) by simp; omega, List.take_length_add_append]
     simp
    rw [e] at hg ⊢
    rw [pg_cons g (by simp), cutL_mid h2, hb.2]
    exact hih hc (by simp at hg; simp; omega)
theorem parseR_go {l : Bs} (h : l.length <= 262144) : parseR l = bif !(parseGo (l.length + 1) l 0 0 sc0).2.2.2 || (parseGo (l.length + 1) l 0 0 sc0).2.2.1 == 0 then (sc0, (parseGo (l.length + 1) l 0 0 sc0).2.1, 360) else ((parseGo (l.length + 1) l 0 0 sc0).1, 0, 0) := by
 have hd : decide (262144 < l.length) = false := by rw [decide_eq_false_iff_not]; omega
 rw [parseR, hd, cond_false]
theorem lines_law {s m : Bs} (hs : s.length <= 20000) (hm : m.length <= 1000) (he : (parseR s).2.2 ≠ 0) :
  (parseR s).2.2 = 360 /\ (parseR s).2.1 <= s.length /\ (0 < (parseR s).2.1 -> s.getD ((parseR s).2.1 - 1) 0 = 10) /\
   ((cutL 10 (s.drop (parseR s).2.1)).2.2 = true -> (parseR (s.take ((parseR s).2.1 + (cutL 10 (s.drop (parseR s).2.1)).1.length + 1) ++ m)).2 = (parseR s).2) := by
 have hat := pg_at (s.length + 1) s 0 0 sc0 (by omega)
 have hpre := pg_pre m (s.length + 1)
 have hR := parseR_go (l := s) (by omega)
 have hpre := fun g => hpre g s 0 0 sc0 (by omega)
 generalize parseGo (s.length + 1) s 0 0 sc0 = r at hat hpre hR
 obtain ⟨h1, h2, h3, h4, h5⟩ := hat
 simp only [Nat.sub_zero, Nat.zero_add] at h2 h3 hpre
 cases hb : !r.2.2.2 || r.2.2.1 == 0 with
 | false => rw [hb, cond_false] at hR; rw [hR] at he; exact absurd rfl he
 | true =>
  rw [hb, cond_true] at hR
  rw [hR]
  refine ⟨rfl, h2, fun h => h3 h, fun hc => ?_⟩
  have hno : r.2.2.2 = false := by
   cases hok : r.2.2.2 with
   | false => rfl
   | true =>
    rw [hok, Bool.not_true, Bool.false_or, beq_iff_eq] at hb
    rcases nil_or s with rfl | hne
    ·simp [cutL] at hc
    ·have := h5 hne hok; omega
  have hlen : (s.take (r.2.1 + (cutL 10 (s.drop r.2.1)).1.length + 1) ++ m).length <= 262144 := by simp; omega
  have hp := hpre ((s.take (r.2.1 + (cutL 10 (s.drop r.2.1)).1.length + 1) ++ m).length + 1) hno hc (Nat.lt_succ_self _)
  rw [parseR_go hlen, hp, hno]
  rfl
end Go.SP
