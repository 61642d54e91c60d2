/- From the arguments of a law, as they are read, to abstract values; and from a contract to what a law asks. -/
import Derived.Test.YtbjhikadmmolfaaDoorMC
import Derived.ProofKit
import Derived.OpenShut
import Derived.Sort.Grow
import Derived.Lib.ConvBytes
import Derived.Lib.LaidTab
import Derived.Lib.Itoa
import Derived.Lib.AtoiAll
import Derived.Lib.ItoaNum
import Derived.Lib.ItoaLen
set_option linter.unusedSectionVars false
set_option linter.unusedVariables false
set_option linter.unusedSimpArgs false
namespace Go.Am
open Go.RowKit
variable [Inhabited GlT]
section
variable {P : Program}
def partsAll (g : TypeId -> List AV -> Prop) : List Field -> List AV -> Prop
 | [], Xs => Xs = []
 | f :: fs, Xs => ∃ A B, Xs = A ++ B /\ g f.type A /\ partsAll g fs B
def wrapE (P : Program) (t : TypeId) (Xs : List AV) : AV := match P.underlying t with
 | some (.struct _) => .agg Xs
 | _ => Xs.headD .any
def Parts (P : Program) : Nat -> TypeId -> List AV -> Prop
 | 0, _, _ => False
 | n + 1, t, Xs => match P.underlying t with
  | some .bool => ∃ b, Xs = [.pl (.bool b)]
  | some (.int k) => ∃ z, Xs = [.pl (.int k z)] /\ (Lit.int k z).wf = true
  | some .string => ∃ s : ByteArray, Xs = [.pl (.string s)] /\ s.size <= maxLen
  | some (.slice e) => ∃ m f, Xs = [.rows (P.cellsOf e) m f] /\ m <= maxLen /\ ∀ i, i < m -> ∃ Ys, Parts P n e Ys /\ f i = wrapE P e Ys
  | some (.array m e) => match P.underlying e with
   | some (.int k) => ∃ f, Xs = [.iarr k m f] /\ ∀ i, i < m -> (Lit.int k (f i)).wf = true
   | _ => False
  | some (.struct fs) => partsAll (Parts P n) fs.toList Xs
  | _ => False
def offsOk (P : Program) : List Field -> Nat -> Option Nat
 | [], k => some k
 | f :: fs, k => if f.offset = k then offsOk P fs (k + P.cellsOf f.type) else none
def goodT (P : Program) : Nat -> TypeId -> Bool
 | 0, _ => false
 | n + 1, t => match P.underlying t with
  | some .bool => Nat.beq (P.cellsOf t) 1
  | some (.int _) => Nat.beq (P.cellsOf t) 1
  | some .string => Nat.beq (P.cellsOf t) 1
  | some (.slice e) => Nat.beq (P.cellsOf t) 1 && goodT P n e && Nat.blt 0 (P.cellsOf e)
  | some (.array m e) => match P.underlying e with
   | some (.int _) => Nat.beq (P.cellsOf e) 1 && Nat.beq (P.cellsOf t) m
   | _ => false
  | some (.struct fs) => fs.toList.all (fun f => goodT P n f.type) && (match offsOk P fs.toList 0 with
   | some k => Nat.beq k (P.cellsOf t)
   | none => false)
  | _ => false
theorem rep_one {E : Env} {us : List Value} {x : AV} (hl : us.length = cw x) (h : Rep E us x) : Rep E us (.agg [x]) := by
 have := Rep.cons hl h (Rep.nil (E := E))
 rwa [List.append_nil] at this
theorem rep_agg_inv {E : Env} {us : List Value} {c : AV} {cs : List AV} (h : Rep E us (.agg (c :: cs))) : ∃ A B, us = A ++ B /\ A.length = cw c /\ Rep E A c /\ Rep E B (.agg cs) := by
 generalize hx : AV.agg (c :: cs) = x at h
 cases h <;> cases hx
 rename_i A B hl h ht
 exact ⟨A, B, rfl, hl, h, ht⟩
theorem rep_nil_inv {E : Env} {us : List Value} (h : Rep E us (.agg [])) : us = [] := by
 generalize hx : AV.agg [] = x at h
 cases h <;> cases hx
 rfl
theorem rep_of_one {E : Env} {us : List Value} {x : AV} (h : Rep E us (.agg [x])) : Rep E us x := by
 obtain ⟨A, B, rfl, _, hA, hB⟩ := rep_agg_inv h
 rw [rep_nil_inv hB, List.append_nil]
 exact hA
theorem rep_agg_append {E : Env} : ∀ {as : List AV} {us vs : List Value} {bs : List AV}, Rep E us (.agg as) -> Rep E vs (.agg bs) -> Rep E (us ++ vs) (.agg (as ++ bs)) := by
 intro as
 induction as with
 | nil => intro us vs bs h h2; rw [rep_nil_inv h]; exact h2
 | cons a as ih =>
  intro us vs bs h h2
  obtain ⟨A, B, rfl, hl, hA, hB⟩ := rep_agg_inv h
  rw [List.append_assoc, List.cons_append]
  exact Rep.cons hl hA (ih hB h2)
variable {H : Type} {enc : TypeId × Value -> H} {w : World} {sp : Nat -> Bool} {held : Bool}
theorem fields_rep {E : Env} {cs : List Value} {n : Nat} {fuel : Nat} (ih : ∀ (t : TypeId) (us : List Value) (x : DataW H × List MemPlace), goodT P n t = true -> DataW.trod enc P w 0 sp held fuel t us = some x -> ∃ Xs, us.length = P.cellsOf t /\ Rep E us (.agg Xs) /\ Parts P n t Xs) :
  ∀ (fs : List Field) (k : Nat) {m : Nat}, fs.all (fun f => goodT P n f.type) = true -> offsOk P fs k = some m -> m = cs.length -> (∀ f ∈ fs, ∃ x, DataW.trod enc P w 0 sp held fuel f.type ((cs.drop f.offset).take (P.cellsOf f.type)) = some x) ->
   ∃ Xs, Rep E (cs.drop k) (.agg Xs) /\ partsAll (Parts P n) fs Xs := by
 intro fs
 induction fs with
 | nil =>
  intro k m _ ho hm _
  simp only [offsOk, Option.some.injEq] at ho
  subst ho
  subst hm
  refine ⟨[], ?_, rfl⟩
  rw [List.drop_length]
  exact Rep.nil
 | cons f fs ihf =>
  intro k m hg ho hm hx
  simp only [List.all_cons, Bool.and_eq_true] at hg
  simp only [offsOk] at ho
  split at ho
  ·rename_i hk
   obtain ⟨x, hxf⟩ := hx f List.mem_cons_self
   obtain ⟨A, hlA, hA, pA⟩ := ih _ _ x hg.1 hxf
   obtain ⟨B, hB, pB⟩ := ihf (k + P.cellsOf f.type) hg.2 ho hm (fun g hgm => hx g (List.mem_cons_of_mem _ hgm))
   refine ⟨A ++ B, ?_, A, B, rfl, pA, pB⟩
   have := rep_agg_append hA hB
   rw [hk, <- List.drop_drop, List.take_append_drop] at this
   exact this
  ·cases ho
theorem trod_parts : ∀ (n : Nat) (E : Env), E.w = w -> (∀ b, b < w.heap.size -> E.F b) -> ∀ (fuel : Nat) (t : TypeId) (us : List Value) (x : DataW H × List MemPlace), goodT P n t = true -> DataW.trod enc P w 0 sp held fuel t us = some x -> ∃ Xs, us.length = P.cellsOf t /\ Rep E us (.agg Xs) /\ Parts P n t Xs := by
 intro n
 induction n with
 | zero => intro E _ _ fuel t us x hg; simp [goodT] at hg
 | succ n ih =>
  intro E hE hF fuel t us x hg h
  cases hu : P.underlying t with
  | none => simp [goodT, hu] at hg
  | some T =>
   cases T with
   | bool =>
    simp only [goodT, hu, Nat.beq_eq] at hg
    obtain ⟨b, rfl, _⟩ := DataW.trod_bool hu h
    exact ⟨[.pl (.bool b)], by rw [hg]; rfl, rep_one rfl (Rep.pl _ rfl), by simp only [Parts, hu]; exact ⟨b, rfl⟩⟩
   | int k =>
    simp only [goodT, hu, Nat.beq_eq] at hg
    obtain ⟨z, rfl, _, hw⟩ := DataW.trod_int hu h
    exact ⟨[.pl (.int k z)], by rw [hg]; rfl, rep_one rfl (Rep.pl _ rfl), by simp only [Parts, hu]; exact ⟨z, rfl, hw⟩⟩
   | string =>
    simp only [goodT, hu, Nat.beq_eq] at hg
    obtain ⟨s, rfl, _, hs⟩ := DataW.trod_string hu h
    exact ⟨[.pl (.string s)], by rw [hg]; rfl, rep_one rfl (Rep.pl _ rfl), by simp only [Parts, hu]; exact ⟨s, rfl, hs⟩⟩
   | slice e =>
    simp only [goodT, hu, Bool.and_eq_true, Nat.beq_eq, Nat.blt_eq] at hg
    obtain ⟨⟨h1, hge⟩, hpos⟩ := hg
    rcases DataW.trod_slice hu h with ⟨rfl, _⟩ | ⟨a, len, cap, elems, rest, n', _, rfl, _, _, hlc, hcm, hlen, hel, _, _⟩
    ·refine ⟨[.rows (P.cellsOf e) 0 fun _ => .any], by rw [h1]; rfl, rep_one rfl (.rows (us := fun _ => []) (a := default) (Nat.le_refl _) (by omega) (by omega) (by omega) (by omega) (by omega)), ?_⟩
     simp only [Parts, hu]
     exact ⟨0, _, rfl, Nat.zero_le _, fun i hi => by omega⟩
    ·have key : ∀ i, i < len -> ∃ (cs : List Value) (Ys : List AV), w.cells? 0 (a.add (i * P.cellsOf e)) (P.cellsOf e) = some cs /\ cs.length = P.cellsOf e /\ Rep E.imm cs (.agg Ys) /\ Parts P n e Ys := by
      intro i hi
      have hh := hel i hi
      rw [List.getElem?_eq_getElem (by omega)] at hh
      obtain ⟨cs, hc, ht⟩ := Option.bind_eq_some_iff.1 hh
      obtain ⟨Ys, hl, hr, hp⟩ := ih E.imm hE hF n' e cs _ hge ht
      exact ⟨cs, Ys, hc, hl, hr, hp⟩
     have key2 : ∃ (us : Nat -> List Value) (Y : Nat -> List AV), ∀ i, i < len -> w.cells? 0 (a.add (i * P.cellsOf e)) (P.cellsOf e) = some (us i) /\ (us i).length = P.cellsOf e /\ Rep E.imm (us i) (.agg (Y i)) /\ Parts P n e (Y i) := by
      refine ⟨fun i => if h : i < len then (key i h).choose else [], fun i => if h : i < len then (key i h).choose_spec.choose else [], fun i hi => ?_⟩
      simp only [hi, dif_pos]
      exact (key i hi).choose_spec.choose_spec
     obtain ⟨us, Y, hY⟩ := key2
     refine ⟨[.rows (P.cellsOf e) len fun i => wrapE P e (Y i)], by rw [h1]; rfl, rep_one rfl ?_, ?_⟩
     ·refine .rows (us := us) (a := a) hlc hcm (fun h0 => ⟨rfl, hF _ ?_⟩) (fun i hi => (hY i hi).2.1) (fun i hi j u hu' => ?_) (fun i hi => ?_)
      ·have := World.cells?_block (hY 0 h0).1 hpos
       simpa using this
      ·rw [hE]
       have h2 := World.cells?_some (hY i hi).1
       have hj : j < P.cellsOf e := by rw [<- (hY i hi).2.1]; exact (List.getElem?_eq_some_iff.1 hu').1
       have := h2.2.2 j hj
       rw [hu'] at this
       rw [<- this]
       rw [Addr.add_add]
      ·have hr := (hY i hi).2.2.1
       have hp := (hY i hi).2.2.2
       unfold wrapE
       split
       ·exact hr
       ·rename_i hns
        have one : ∃ y, Y i = [y] := by
         cases n with
         | zero => simp [Parts] at hp
         | succ n =>
          simp only [Parts] at hp
          split at hp
          ·obtain ⟨b, hb⟩ := hp; exact ⟨_, hb⟩
          ·obtain ⟨b, hb, _⟩ := hp; exact ⟨_, hb⟩
          ·obtain ⟨b, hb, _⟩ := hp; exact ⟨_, hb⟩
          ·obtain ⟨m, f, hb, _⟩ := hp; exact ⟨_, hb⟩
          ·split at hp
           ·obtain ⟨f, hb, _⟩ := hp; exact ⟨_, hb⟩
           ·exact hp.elim
          ·rename_i hst; exact absurd hst (hns _)
          ·exact hp.elim
        obtain ⟨y, hy⟩ := one
        rw [hy] at hr ⊢
        exact rep_of_one hr
     ·simp only [Parts, hu]
      exact ⟨len, _, rfl, by omega, fun i hi => ⟨Y i, (hY i hi).2.2.2, rfl⟩⟩
   | array m e =>
    simp only [goodT, hu] at hg
    cases he : P.underlying e with
    | none => rw [he] at hg; cases hg
    | some T' =>
     rw [he] at hg
     cases T' <;> try cases hg
     rename_i k
     simp only [Bool.and_eq_true, Nat.beq_eq] at hg
     obtain ⟨hc1, hcm⟩ := hg
     obtain ⟨xs, m', _, _, hl, hxl, hx⟩ := DataW.trod_array hu h
     have key : ∀ i, i < m -> ∃ z, us[i]? = some (.int k z) /\ (Lit.int k z).wf = true := by
      intro i hi
      have h2 := hx i hi
      rw [hc1, Nat.mul_one, List.getElem?_eq_getElem (by omega)] at h2
      obtain ⟨z, hz, _, hw⟩ := DataW.trod_int he h2
      refine ⟨z, ?_, hw⟩
      have : ((us.drop i).take 1)[0]? = some (.int k z) := by rw [hz]; rfl
      simpa [List.getElem?_take, List.getElem?_drop] using this
     have key2 : ∃ f : Nat -> Int, ∀ i, i < m -> us[i]? = some (.int k (f i)) /\ (Lit.int k (f i)).wf = true := by
      refine ⟨fun i => if h : i < m then (key i h).choose else 0, fun i hi => ?_⟩
      simp only [hi, dif_pos]
      exact (key i hi).choose_spec
     obtain ⟨f, hf⟩ := key2
     refine ⟨[.iarr k m f], hl, rep_one (by rw [hl, hcm]; rfl) (.iarr (by rw [hl, hcm]) (fun i hi => (hf i hi).1)), ?_⟩
     simp only [Parts, hu, he]
     exact ⟨f, rfl, fun i hi => (hf i hi).2⟩
   | struct fs =>
    simp only [goodT, hu, Bool.and_eq_true] at hg
    obtain ⟨hga, hgo⟩ := hg
    split at hgo
    ·rename_i k hk
     rw [Nat.beq_eq] at hgo
     subst hgo
     obtain ⟨xs, n', _, _, hl, hxl, hx⟩ := DataW.trod_struct hu h
     obtain ⟨Xs, hr, hp⟩ := fields_rep (E := E) (cs := us) (fun t us x => ih E hE hF n' t us x) fs.toList 0 hga hk hl.symm (fun f hf => by
      obtain ⟨i, hi, rfl⟩ := List.mem_iff_getElem.1 hf
      have hi' : i < fs.size := by simpa using hi
      have := hx i fs[i] (Array.getElem?_eq_getElem hi')
      rw [List.getElem?_eq_getElem (by omega)] at this
      exact ⟨_, by simpa using this⟩)
     refine ⟨Xs, hl, by simpa using hr, ?_⟩
     simp only [Parts, hu]
     exact hp
    ·cases hgo
   | _ => simp [goodT, hu] at hg
def wrapV (P : Program) (t : TypeId) (Xs : List AV) : AV := match P.underlying t with
 | some (.struct _) => .agg Xs
 | some (.array _ _) => .agg Xs
 | _ => Xs.headD .any
def ArgsOf (P : Program) (n : Nat) : List TypeId -> List AV -> Prop
 | [], [] => True
 | t :: ts, x :: xs => (∃ Ys, Parts P n t Ys /\ x = wrapV P t Ys) /\ ArgsOf P n ts xs
 | _, _ => False
def startE (w : World) : Env := { w := w, F := fun b => b < w.heap.size, loc := fun _ => none, m := 0 }
theorem arg_rep {n : Nat} {t : TypeId} {v : Value} {d : DataW H} {ps : List MemPlace} {r : Reach} {b0 : Nat} (hg : goodT P n t = true) (hok : Value.okWide P w r b0 t v) (hd : DataW.Trod enc P w 0 sp held t v d ps) :
  ∃ Ys, Parts P n t Ys /\ RepV (startE w) v (wrapV P t Ys) := by
 obtain ⟨fuel, hf⟩ := hd
 obtain ⟨Xs, hl, hr, hp⟩ := trod_parts n (startE w) rfl (fun b hb => hb) fuel t _ _ hg hf
 refine ⟨Xs, hp, ?_⟩
 cases n with
 | zero => simp [Parts] at hp
 | succ n =>
  have hp' := hp
  simp only [Parts] at hp'
  split at hp' <;> rename_i hu
  ·obtain ⟨b, rfl⟩ := hp'
   obtain ⟨b', rfl⟩ := WideShapes.okWide_bool hu hok
   simp only [wrapV, hu]
   exact rep_of_one hr
  ·obtain ⟨b, rfl, _⟩ := hp'
   obtain ⟨b', rfl⟩ := WideShapes.okWide_int hu hok
   simp only [wrapV, hu]
   exact rep_of_one hr
  ·obtain ⟨b, rfl, _⟩ := hp'
   obtain ⟨b', rfl⟩ := WideShapes.okWide_string hu hok
   simp only [wrapV, hu]
   exact rep_of_one hr
  ·obtain ⟨m, f, rfl, _⟩ := hp'
   obtain ⟨a, l, c, rfl⟩ := WideShapes.okWide_slice hu hok
   simp only [wrapV, hu]
   exact rep_of_one hr
  ·simp only [wrapV, hu]
   simp only [Value.okWide, hu] at hok
   obtain ⟨cs, rfl, _⟩ := hok
   exact ⟨cs.toList, by simp, hr⟩
  ·simp only [wrapV, hu]
   simp only [Value.okWide, hu] at hok
   obtain ⟨cs, rfl, _⟩ := hok
   exact ⟨cs.toList, by simp, hr⟩
  ·exact hp'.elim
theorem args_rep {n : Nat} {r : Reach} {b0 : Nat} : ∀ {ts : List TypeId} {vs : List Value} {ds : List (DataW H)} {ps : List MemPlace}, (∀ t ∈ ts, goodT P n t = true) -> (∀ (j : Nat) (t : TypeId) (v : Value), ts[j]? = some t -> vs[j]? = some v -> Value.okWide P w r b0 t v) -> DataW.TrodAll enc P w 0 sp held ts vs ds ps ->
  ∃ xs, ArgsOf P n ts xs /\ vs.length = xs.length /\ ds.length = ts.length /\ ∀ (i : Nat) (v : Value) (x : AV), vs[i]? = some v -> xs[i]? = some x -> RepV (startE w) v x := by
 intro ts
 induction ts with
 | nil =>
  intro vs ds ps _ _ h
  cases vs <;> cases ds <;> simp only [DataW.TrodAll] at h
  exact ⟨[], trivial, rfl, rfl, fun i v x hv => by simp at hv⟩
 | cons t ts ih =>
  intro vs ds ps hg hok h
  cases vs <;> cases ds <;> simp only [DataW.TrodAll] at h
  rename_i v vs d ds
  obtain ⟨p, q, h1, h2, _⟩ := h
  obtain ⟨Ys, hp, hr⟩ := arg_rep (hg t List.mem_cons_self) (hok 0 t v rfl rfl) h1
  obtain ⟨xs, ha, hl, hdl, hx⟩ := ih (fun t ht => hg t (List.mem_cons_of_mem _ ht)) (fun j t v ht hv => hok (j + 1) t v (by simpa using ht) (by simpa using hv)) h2
  refine ⟨wrapV P t Ys :: xs, ⟨⟨Ys, hp, rfl⟩, ha⟩, by simp [hl], by simp [hdl], fun i u y hu hy => ?_⟩
  cases i with
  | zero => simp at hu hy; subst hu hy; exact hr
  | succ i => exact hx i u y (by simpa using hu) (by simpa using hy)
theorem trodAll_later (hl : laidOutB P = true) {W W' : World} (hb : Below W.heap.size W W') {sp' : Nat -> Bool} : ∀ {ts : List TypeId} {vs : List Value} {ds : List (DataW H)} {ps : List MemPlace}, (∀ t ∈ ts, P.readableRec t = true /\ t < P.types.size) -> DataW.TrodAll enc P W 0 (fun _ => true) true ts vs ds ps -> (∀ p ∈ ps, p.block < W.heap.size) -> (∀ p ∈ ps, sp' p.block = true) ->
  DataW.TrodAll enc P W' 0 sp' true ts vs ds ps := by
 intro ts
 induction ts with
 | nil =>
  intro vs ds ps _ h _ _
  cases vs <;> cases ds <;> simp only [DataW.TrodAll] at h ⊢
  exact h
 | cons t ts ih =>
  intro vs ds ps hg h hlt hs
  cases vs <;> cases ds <;> simp only [DataW.TrodAll] at h ⊢
  obtain ⟨p, q, h1, h2, rfl⟩ := h
  exact ⟨p, q, WideElems.Trod_stays hl (hg t List.mem_cons_self).1 (hg t List.mem_cons_self).2 h1 (fun x hx => hb.same (hlt x (List.mem_append_left _ hx))) (fun x hx => hs x (List.mem_append_left _ hx)),
   ih (fun t ht => hg t (List.mem_cons_of_mem _ ht)) h2 (fun x hx => hlt x (List.mem_append_right _ hx)) (fun x hx => hs x (List.mem_append_right _ hx)), rfl⟩
theorem law_post {f : FuncId} {fn : Func} {s : ChangeSpec} {n : Nat} {tb : TypeId} {apart fresh handsOn again : Bool} {r : Reach} {b0 : Nat}
  (hl : laidOutB P = true) (hts : ∀ t ∈ fn.params.toList, goodT P n t = true /\ P.readableRec t = true /\ t < P.types.size)
  (hv : s.vars = []) (hs : ∀ ds : List (DataW H), ds.length = fn.params.toList.length -> s.fn H (ds ++ []) = { results := [.lit (.bool true)], args := ds, vars := [] })
  (hr : fn.resultTypes = #[tb]) (hb : P.underlying tb = some .bool)
  (hc : ∀ xs, ArgsOf P n fn.params.toList xs -> Spec P f xs fun y _ => y = .pl (.bool true))
  {W : World} {args : Array Value} {ds gs : List (DataW H)} {before : List MemPlace}
  (hval : ∀ (j : Nat) t v, fn.params[j]? = some t -> args[j]? = some v -> Value.okWide P W r b0 t v)
  (hW : DataW.Whole enc P fn.params.toList s.vars apart W args.toList ds gs before) (hG : GloE (startE W)) :
  Calls P f args W fun e W' => ∃ v, e = .returned v /\ s.post enc P fn apart fresh handsOn again W args v W' := by
 obtain ⟨p, q, hA, hV, hpq, hfz, hnd⟩ := id hW
 rw [hv] at hV
 obtain ⟨rfl, rfl⟩ := ChangeShapes.trodVars_none hV
 rw [List.append_nil] at hpq
 subst hpq
 have hlt : ∀ x ∈ before, x.block < W.heap.size := fun x hx => hW.lt x hx
 obtain ⟨xs, ha, hlen, hdl, hx⟩ := args_rep (n := n) (fun t ht => (hts t ht).1) (fun j t v ht hv => hval j t v (by simpa using ht) (by simpa using hv)) hA
 have hcall := hc xs ha (startE W) args.toList (fun _ => rfl) rfl (fun b hb => hb) hG hlen hx
 simp only [Array.toArray_toList] at hcall
 refine Calls.mono hcall ?_
 rintro e W' ⟨v, x, H', E', rfl, rfl, rfl, hg, hrep⟩
 obtain rfl := repV_pl hrep
 have hbel : Below W.heap.size W E'.w := hg.belowN (fun _ => rfl)
 have hfn := hs ds hdl
 have later : ∀ sp : Nat -> Bool, (∀ x ∈ before, sp x.block = true) -> DataW.TrodAll enc P E'.w 0 sp true fn.params.toList args.toList ds before := fun sp hsp => trodAll_later hl hbel (fun t ht => (hts t ht).2) hA hlt hsp
 have res : ∀ (b : Nat) (sp : Nat -> Bool) (hd : Bool), DataW.TrodAll enc P E'.w b sp hd fn.resultTypes.toList ((Value.bool true).resultList fn.resultTypes.size) [.lit (.bool true)] [] := fun b sp hd => by
  rw [hr]
  exact ⟨[], [], shut_bool hb true, rfl, rfl⟩
 have vars : ∀ sp : Nat -> Bool, DataW.TrodVars enc P E'.w sp s.vars [] [] := fun sp => by rw [hv]; rfl
 have both : DataW.TrodAll enc P E'.w 0 (fun _ => true) true (fn.resultTypes.toList ++ fn.params.toList) ((Value.bool true).resultList fn.resultTypes.size ++ args.toList) ([.lit (.bool true)] ++ ds) ([] ++ before) := ChangeShapes.trodAll_append (later _ (fun _ _ => rfl)) (res _ _ _)
 refine ⟨.bool true, rfl, ds, [], before, [], before, [], hW, ?_, ?_, ?_, World.keptBut_mono (fun x hx => ⟨hx, .inr (.inl hx)⟩) (hbel.frame (· ∈ before)), fun _ => ⟨ok_one hr rfl (okWide_bool_mk hb true), ?_⟩⟩
 ·rw [hfn]; exact res _ _ _
 ·rw [hfn]; exact later _ (fun x hx => by simpa using hlt x hx)
 ·rw [hfn]; exact vars _
 ·refine ⟨_, _, before, ⟨before, [], both, vars _, by simp, fun b off hm => ?_, fun ha => hnd ha⟩, fun x hx _ => by simpa using hx⟩
  rw [hbel.frozen (hlt _ hm)]
  exact hfz b off hm
theorem Parts.int {n : Nat} {t : TypeId} {k : IntKind} {Xs : List AV} (hu : P.underlying t = some (.int k)) (h : Parts P (n + 1) t Xs) : ∃ z, Xs = [.pl (.int k z)] /\ (Lit.int k z).wf = true := by
 simpa only [Parts, hu] using h
theorem Parts.bool {n : Nat} {t : TypeId} {Xs : List AV} (hu : P.underlying t = some .bool) (h : Parts P (n + 1) t Xs) : ∃ b, Xs = [.pl (.bool b)] := by
 simpa only [Parts, hu] using h
theorem Parts.string {n : Nat} {t : TypeId} {Xs : List AV} (hu : P.underlying t = some .string) (h : Parts P (n + 1) t Xs) : ∃ s : ByteArray, Xs = [.pl (.string s)] /\ s.size <= maxLen := by
 simpa only [Parts, hu] using h
theorem Parts.slice {n : Nat} {t e : TypeId} {Xs : List AV} (hu : P.underlying t = some (.slice e)) (h : Parts P (n + 1) t Xs) : ∃ m f, Xs = [.rows (P.cellsOf e) m f] /\ m <= maxLen /\ ∀ i, i < m -> ∃ Ys, Parts P n e Ys /\ f i = wrapE P e Ys := by
 simpa only [Parts, hu] using h
theorem Parts.array {n m : Nat} {t e : TypeId} {k : IntKind} {Xs : List AV} (hu : P.underlying t = some (.array m e)) (he : P.underlying e = some (.int k)) (h : Parts P (n + 1) t Xs) : ∃ f, Xs = [.iarr k m f] /\ ∀ i, i < m -> (Lit.int k (f i)).wf = true := by
 simpa only [Parts, hu, he] using h
theorem Parts.struct {n : Nat} {t : TypeId} {fs : Array Field} {Xs : List AV} (hu : P.underlying t = some (.struct fs)) (h : Parts P (n + 1) t Xs) : partsAll (Parts P n) fs.toList Xs := by
 simpa only [Parts, hu] using h
theorem args_cons {n : Nat} {t : TypeId} {ts : List TypeId} {xs : List AV} (h : ArgsOf P n (t :: ts) xs) : ∃ Ys rest, xs = wrapV P t Ys :: rest /\ Parts P n t Ys /\ ArgsOf P n ts rest := by
 cases xs with
 | nil => exact h.elim
 | cons x xs =>
  obtain ⟨⟨Ys, hp, rfl⟩, h2⟩ := h
  exact ⟨Ys, xs, rfl, hp, h2⟩
theorem args_nil {n : Nat} {xs : List AV} (h : ArgsOf P n [] xs) : xs = [] := by
 cases xs with
 | nil => rfl
 | cons x xs => exact h.elim
end
end Go.Am

namespace Go.Am
open Go.RowKit
variable [Inhabited GlT]
section
variable {P : Program}
omit [Inhabited GlT] in
theorem gam_below {E0 : Env} (hloc : ∀ l, E0.loc l = none) (hm : E0.m = 0) (hF : ∀ b, E0.F b -> b < E0.w.heap.size) {w' : World} (hb : Below E0.w.heap.size E0.w w') : Gam E0 { E0 with w := w' } [] where
 objs := fun l o hl => by simp at hl
 dom := fun l L hL => by rw [show ({ E0 with w := w' } : Env).loc l = E0.loc l from rfl, hloc] at hL; cases hL
 own := fun l L hL => by rw [show ({ E0 with w := w' } : Env).loc l = E0.loc l from rfl, hloc] at hL; cases hL
 inj := fun l l' L L' hL => by rw [show ({ E0 with w := w' } : Env).loc l = E0.loc l from rfl, hloc] at hL; cases hL
 lt := fun b h => Nat.lt_of_lt_of_le (hF b h) hb.size
 up := fun _ h => h
 down := fun _ h => .inl h
 below := ⟨hb.os, hb.tape, hb.output, hb.size, fun k hk => hb.block k hk.1⟩
 stay := fun l hl => .inl rfl
 hm := by rw [hm]; exact Nat.zero_le _
theorem spec_of_calls {f : FuncId} {args : List AV} {R : AV -> List LObj -> Prop}
  (h : ∀ (E0 : Env) (vs : List Value), GloE E0 -> (∀ b, E0.F b -> b < E0.w.heap.size) -> vs.length = args.length -> (∀ (i : Nat) (v : Value) (x : AV), vs[i]? = some v -> args[i]? = some x -> RepV E0 v x) ->
   Calls P f vs.toArray E0.w fun e w' => ∃ v x, e = .returned v /\ R x [] /\ Below E0.w.heap.size E0.w w' /\ ∀ E, RepV E v x) : Am.Spec P f args R := by
 intro E0 vs hloc hm hF hG hl hr
 refine (h E0 vs hG hF hl hr).mono ?_
 rintro e w' ⟨v, x, rfl, hR, hb, hv⟩
 exact ⟨v, x, [], { E0 with w := w' }, rfl, hR, rfl, gam_below hloc hm hF hb, hv _⟩
omit [Inhabited GlT] in
theorem below_grow {B : Nat} {a w : World} (h : Below B a w) (hB : B <= w.heap.size) (os : Array Obj) : Below B a (Go.Sort.grow w os) :=
 h.trans ⟨rfl, rfl, rfl, by simp [Go.Sort.grow], fun k hk => by
  simp only [Go.Sort.grow]
  rw [Array.getElem?_append, if_pos (by omega)]⟩
omit [Inhabited GlT] in
theorem below_bytes (w : World) (e : TypeId) (t : ByteArray) : Below w.heap.size w (Lib.bytesWorld w e t) :=
 ⟨rfl, rfl, rfl, by rw [Lib.bytesWorld_size]; omega, fun k hk => Lib.bytesWorld_at_old w e t k hk⟩
omit [Inhabited GlT] in
theorem Rep.ifc_inv2 {E : Env} {us : List Value} {t : TypeId} {u : Value} (h : Rep E us (.ifc t (.pl u))) : us = [.iface t u] := by
 cases h with
 | ifc hv h => obtain rfl := h.pl_inv; rfl
omit [Inhabited GlT] in
theorem Rep.ifc_val {E : Env} {v : Value} {t : TypeId} {u : Value} (h : Rep E [v] (.ifc t (.pl u))) : ∃ _ : Unit, v = .iface t u := by
 have := h.ifc_inv2
 injection this with h1
 exact ⟨(), h1⟩
theorem GloE.cell {E : Env} (h : GloE E) {g : Nat} {t : TypeId} {x : AV} (hx : glAv g = some (.ifc t x)) : ∃ v, E.w.cell? ⟨g, 0, none⟩ = some (.iface t v) := by
 obtain ⟨_, us, h2, h3⟩ := h g _ hx
 obtain ⟨v, hv⟩ := h2.ifc_inv'
 exact ⟨v, by rw [h3 0, hv]; rfl⟩
theorem GloE.tab {E : Env} (h : GloE E) {g : Nat} {n : Nat} {k : IntKind} {f : Nat -> Int} {name : String} (hx : glAv g = some (.agg [.iarr k n f])) (hn : P.globalNamed name = some g) (h0 : 0 < n) {zs : List Int} (hz : zs.length = n) (hf : ∀ i, i < n -> zs[i]? = some (f i)) :
  Lib.TabIs P E.w name k zs := by
 obtain ⟨_, us, h2, h3⟩ := h g _ hx
 obtain ⟨us', vs', hus, hl, hr, hnil⟩ := rep_agg_inv h2
 obtain rfl := rep_nil_inv hnil
 rw [List.append_nil] at hus
 subst hus
 have hi := hr.iarr_inv
 have e : us = zs.map fun z => Value.int k z := by
  apply List.ext_getElem?
  intro i
  rw [List.getElem?_map]
  by_cases hlt : i < n
  ·rw [hi.2 i hlt, hf i hlt]; rfl
  ·rw [List.getElem?_eq_none (by rw [hi.1]; omega), List.getElem?_eq_none (by omega)]; rfl
 unfold Lib.TabIs World.var?
 rw [hn]
 simp only [Option.bind_some]
 have hc0 := h3 0
 rw [List.getElem?_eq_getElem (by rw [hi.1]; exact h0)] at hc0
 unfold World.cell? at hc0
 split at hc0
 ·rename_i cs t fr hg
  simp only [hg]
  congr 1
  apply Array.ext_getElem?
  intro i
  have := h3 i
  unfold World.cell? at this
  simp only [hg, Option.isSome_none, Bool.false_eq_true, if_false] at this
  rw [this, e]
  simp
 ·cases hc0
end
end Go.Am

namespace Go.SP
open Go Go.Am
abbrev Bs := List UInt8
def bs (l : Bs) : ByteArray := ⟨l.toArray⟩
@[simp] theorem bs_size (l : Bs) : (bs l).size = l.length := by simp [bs, ByteArray.size]
@[simp] theorem bs_data (l : Bs) : (bs l).data.toList = l := by simp [bs]
@[simp] theorem bs_toList (l : Bs) : (bs l).toList = l := by simp [ByteArray.toList_eq]
theorem bs_of (s : ByteArray) : s = bs s.data.toList := by simp [bs]
theorem bs_append (a b : Bs) : bs a ++ bs b = bs (a ++ b) := by
 apply ByteArray.ext
 simp [bs, ByteArray.data_append]
theorem bs_extract (l : Bs) (i j : Nat) : (bs l).extract i j = bs ((l.take j).drop i) := by
 apply ByteArray.ext
 rw [ByteArray.data_extract]
 apply Array.ext'
 simp [bs, List.extract_eq_take_drop, List.drop_take]
theorem bs_mk (l : Bs) : ByteArray.mk l.toArray = bs l := rfl
theorem bs_nil : (⟨#[]⟩ : ByteArray) = bs [] := rfl
abbrev sl (l : Bs) : AV := .pl (.string (bs l))
abbrev nmV (i : Int) : Value := .int .i64 i
abbrev nm (i : Int) : AV := .pl (.int .i64 i)
abbrev u8 (c : UInt8) : AV := .pl (.int .u8 c.toNat)
abbrev bl (b : Bool) : AV := .pl (.bool b)
abbrev nilErr : AV := .pl .nilIface
abbrev nilS : AV := .pl (.slice none 0 0)
def cutL (c : UInt8) : Bs -> Bs × Bs × Bool
 | [] => ([], [], false)
 | x :: xs => bif x == c then ([], xs, true) else (x :: (cutL c xs).1, (cutL c xs).2.1, (cutL c xs).2.2)
def idxL (c : UInt8) (l : Bs) : Int := bif (cutL c l).2.2 then ((cutL c l).1.length : Int) else -1
theorem cutL_found {c : UInt8} : ∀ {l : Bs}, (cutL c l).2.2 = true -> l = (cutL c l).1 ++ c :: (cutL c l).2.1 /\ c ∉ (cutL c l).1 := by
 intro l
 induction l with
 | nil => intro h; simp [cutL] at h
 | cons x xs ih =>
  intro h
  by_cases hx : x = c
  ·subst hx; simp [cutL]
  ·have hb : (x == c) = false := by simp [hx]
   simp only [cutL, hb, cond_false] at h ⊢
   obtain ⟨h1, h2⟩ := ih h
   refine ⟨by rw [List.cons_append, <- h1], ?_⟩
   intro hm
   rcases List.mem_cons.1 hm with h3 | h3
   ·exact hx h3.symm
   ·exact h2 h3
theorem cutL_none {c : UInt8} : ∀ {l : Bs}, (cutL c l).2.2 = false -> (cutL c l).1 = l /\ (cutL c l).2.1 = [] /\ c ∉ l := by
 intro l
 induction l with
 | nil => intro _; simp [cutL]
 | cons x xs ih =>
  intro h
  by_cases hx : x = c
  ·subst hx; simp [cutL] at h
  ·have hb : (x == c) = false := by simp [hx]
   simp only [cutL, hb, cond_false] at h ⊢
   obtain ⟨h1, h2, h3⟩ := ih h
   refine ⟨by rw [h1], h2, ?_⟩
   intro hm
   rcases List.mem_cons.1 hm with h4 | h4
   ·exact hx h4.symm
   ·exact h3 h4
theorem cutL_mid {c : UInt8} {a b : Bs} (h : c ∉ a) : cutL c (a ++ c :: b) = (a, b, true) := by
 induction a with
 | nil => simp [cutL]
 | cons x a ih =>
  have hx : (x == c) = false := by
   simp only [beq_eq_false_iff_ne, ne_eq]
   exact fun e => h (by simp [e])
  simp only [List.cons_append, cutL, hx, cond_false]
  rw [ih (fun hm => h (List.mem_cons_of_mem _ hm))]
theorem idxL_found {c : UInt8} {l : Bs} (h : (cutL c l).2.2 = true) : idxL c l = ((cutL c l).1.length : Nat) := by simp [idxL, h]
theorem idxL_none {c : UInt8} {l : Bs} (h : (cutL c l).2.2 = false) : idxL c l = -1 := by simp [idxL, h]
theorem find_congr {α : Type} {p q : α -> Bool} : ∀ {l : List α}, (∀ x ∈ l, p x = q x) -> l.find? p = l.find? q := by
 intro l
 induction l with
 | nil => intro _; rfl
 | cons a l ih =>
  intro h
  rw [List.find?_cons, List.find?_cons, h a List.mem_cons_self, ih (fun x hx => h x (List.mem_cons_of_mem _ hx))]
theorem find_idx (c : UInt8) : ∀ l : Bs, (match (List.range l.length).find? (fun i => l.getD i 0 == c) with | some i => (i : Int) | none => -1) = idxL c l := by
 intro l
 cases hf : (cutL c l).2.2 with
 | true =>
  obtain ⟨h1, h2⟩ := cutL_found hf
  rw [idxL_found hf]
  generalize (cutL c l).1 = a at h1 h2
  generalize (cutL c l).2.1 = b at h1
  subst h1
  have : (List.range (a ++ c :: b).length).find? (fun i => (a ++ c :: b).getD i 0 == c) = some a.length := by
   rw [List.find?_range_eq_some]
   refine ⟨by simp, by simp, fun j hj => ?_⟩
   have hlt : j < (a ++ c :: b).length := by simp; omega
   simp only [List.getD_eq_getElem?_getD, List.getElem?_append_left hj, List.getElem?_eq_getElem hj, Option.getD_some, Bool.not_eq_true', beq_eq_false_iff_ne, ne_eq]
   exact fun e => h2 (e ▸ List.getElem_mem hj)
  rw [this]
 | false =>
  obtain ⟨_, _, h3⟩ := cutL_none hf
  rw [idxL_none hf]
  have : (List.range l.length).find? (fun i => l.getD i 0 == c) = none := by
   rw [List.find?_eq_none]
   intro i hi
   have hlt : i < l.length := by simpa using hi
   simp only [List.getD_eq_getElem?_getD, List.getElem?_eq_getElem hlt, Option.getD_some, beq_iff_eq]
   exact fun e => h3 (e ▸ List.getElem_mem hlt)
  rw [this]
theorem rowLe {A B : Bs} (h : A = B) : A.length = B.length /\ B.length <= A.length /\ ∀ i, i < B.length -> AV.pl (.int .u8 ((A.getD i 0).toNat : Int)) = AV.pl (.int .u8 ((B.getD i 0).toNat : Int)) := by
 subst h
 exact ⟨rfl, Nat.le_refl _, fun _ _ => rfl⟩
end Go.SP

namespace Go.SP
open Go Go.Am
def atoiV (s : Bs) : Int × Bool := match Lib.atoiAll s with
 | .ok v => (v, false)
 | .range => (Lib.atoiSat s, true)
 | _ => (0, true)
def hexD (n : Nat) : UInt8 := if n < 10 then UInt8.ofNat (48 + n) else UInt8.ofNat (87 + n)
def qte (c : UInt8) : Bs :=
 bif c == 34 || c == 92 then [92, c] else bif c == 10 then [92, 110] else bif c == 13 then [92, 114]
 else bif decide (c < 32) || decide (c > 126) then [92, 120, hexD (c.toNat / 16), hexD (c.toNat % 16)] else [c]
theorem qte1 {c : UInt8} (h : c = 34 ∨ c = 92) : qte c = [92, c] := by rcases h with rfl | rfl <;> rfl
theorem qte4 {c : UInt8} (h1 : ¬ (c = 34 ∨ c = 92)) (h2 : c ≠ 10) (h3 : c ≠ 13) (h4 : c.toNat < 32 ∨ c.toNat > 126) : qte c = [92, 120, hexD (c.toNat / 16), hexD (c.toNat % 16)] := by
 have e1 : (c == 34 || c == 92) = false := by simp only [Bool.or_eq_false_iff, beq_eq_false_iff_ne]; exact ⟨fun e => h1 (.inl e), fun e => h1 (.inr e)⟩
 have e2 : (c == 10) = false := beq_eq_false_iff_ne.2 h2
 have e3 : (c == 13) = false := beq_eq_false_iff_ne.2 h3
 have e4 : (decide (c < 32) || decide (c > 126)) = true := by
  simp only [Bool.or_eq_true, decide_eq_true_eq, UInt8.lt_iff_toNat_lt, gt_iff_lt]
  exact h4
 simp only [qte, e1, e2, e3, e4, cond_true, cond_false]
theorem qte5 {c : UInt8} (h1 : ¬ (c = 34 ∨ c = 92)) (h2 : c ≠ 10) (h3 : c ≠ 13) (h4 : ¬ (c.toNat < 32 ∨ c.toNat > 126)) : qte c = [c] := by
 have e1 : (c == 34 || c == 92) = false := by simp only [Bool.or_eq_false_iff, beq_eq_false_iff_ne]; exact ⟨fun e => h1 (.inl e), fun e => h1 (.inr e)⟩
 have e2 : (c == 10) = false := beq_eq_false_iff_ne.2 h2
 have e3 : (c == 13) = false := beq_eq_false_iff_ne.2 h3
 have e4 : (decide (c < 32) || decide (c > 126)) = false := by
  rw [Bool.eq_false_iff]
  simp only [ne_eq, Bool.or_eq_true, decide_eq_true_eq, UInt8.lt_iff_toNat_lt, gt_iff_lt]
  exact h4
 simp only [qte, e1, e2, e3, e4, cond_false]
theorem qte_len (c : UInt8) : (qte c).length <= 4 := by
 unfold qte
 cases c == 34 || c == 92 <;> cases c == 10 <;> cases c == 13 <;> cases decide (c < 32) || decide (c > 126) <;> simp
def quoteL (s : Bs) : Bs := s.flatMap qte
def txt (s : Bs) : Bs := [32, 34] ++ quoteL s ++ [34]
def txts (l : List Bs) : Bs := l.flatMap txt
def numL (n : Int) : Bs := 32 :: Lib.itoa n
def nums (l : List Int) : Bs := l.flatMap numL
structure Rd where
 rest : Bs
 bad : Bool
def blankR (r : Rd) : Bs × Rd := ((cutL 32 r.rest).1, ⟨(cutL 32 r.rest).2.1, r.bad || ((cutL 32 r.rest).2.2 && (cutL 32 r.rest).2.1 == [])⟩)
def moreR (r : Rd) : Bool := !r.bad && !(r.rest == [])
def numberR (r : Rd) : Int × Rd :=
 ((atoiV (blankR r).1).1, ⟨(blankR r).2.rest, (blankR r).2.bad || (atoiV (blankR r).1).2 || !(Lib.itoa (atoiV (blankR r).1).1 == (blankR r).1)⟩)
def hexV (c : UInt8) : Option Nat :=
 if 48 <= c.toNat /\ c.toNat <= 57 then some (c.toNat - 48) else if 97 <= (c ||| 32).toNat /\ (c ||| 32).toNat <= 102 then some ((c ||| 32).toNat - 87) else none
def hexGo : Nat -> Bs -> Option Nat
 | n, [] => some n
 | n, c :: t => match hexV c with
  | some d => hexGo (16 * n + d) t
  | none => none
def hex16 (h : Bs) : Option Nat := match h with
 | [] => none
 | h => hexGo 0 h
def escD (d : UInt8) : UInt8 := if d = 110 then 10 else if d = 114 then 13 else d
def scan : Nat -> Bs -> Nat -> Bs -> Bool × Bs × Option Nat
 | 0, _, _, b => (true, b, none)
 | _ + 1, [], _, b => (true, b, none)
 | f + 1, c :: t, i, b => if c = 34 then (true, b, some i) else if c = 92 then (match t with
   | [] => (true, b, none)
   | d :: u => if d = 120 then (match hex16 (u.take 2) with
     | some v => scan f (u.drop 2) (i + 4) (b ++ [UInt8.ofNat v])
     | none => (false, b, none)) else scan f u (i + 2) (b ++ [escD d]))
  else scan f t (i + 1) (b ++ [c])
theorem scan_fuel : ∀ (f g : Nat) (l : Bs) (i : Nat) (b : Bs), l.length < f -> l.length < g -> (scan f l i b).1 = (scan g l i b).1 /\ (scan f l i b).2.2 = (scan g l i b).2.2 /\ ((scan f l i b).2.2 ≠ none -> (scan f l i b).2.1 = (scan g l i b).2.1) := by
 intro f
 induction f with
 | zero => intro g l i b h; omega
 | succ f ih =>
  intro g l i b hf hg
  cases g with
  | zero => omega
  | succ g =>
   cases l with
   | nil => simp [scan]
   | cons c t =>
    simp only [List.length_cons] at hf hg
    simp only [scan]
    split
    ·exact ⟨rfl, rfl, fun _ => rfl⟩
    ·split
     ·cases t with
      | nil => exact ⟨rfl, rfl, fun _ => rfl⟩
      | cons d u =>
       simp only [List.length_cons] at hf hg
       dsimp only
       split
       ·split
        ·exact ih _ _ _ _ (by simp; omega) (by simp; omega)
        ·exact ⟨rfl, rfl, fun _ => rfl⟩
       ·exact ih _ _ _ _ (by omega) (by omega)
     ·exact ih _ _ _ _ (by omega) (by omega)
def textGo (s : Bs) (b : Bool) : Bool × Bs × Option Nat := match b with
 | true => scan (s.length + 1) s 0 []
 | false => (false, [], none)
def cutPre (p l : Bs) : Bs := bif p.isPrefixOf l then l.drop p.length else l
def textEnd (r : Rd) (s b : Bs) (e : Nat) : Bs × Rd :=
 (b, ⟨cutPre [32] (s.drop (e + 1)), r.bad || !(txt b == [32, 34] ++ s.take (e + 1)) || (!(s.drop (e + 1) == []) && (!([32] : Bs).isPrefixOf (s.drop (e + 1)) || cutPre [32] (s.drop (e + 1)) == []))⟩)
def textR (r : Rd) : Bs × Rd := match textGo (cutPre [34] r.rest) (([34] : Bs).isPrefixOf r.rest) with
 |(true, b, some e) => textEnd r (cutPre [34] r.rest) b e
 | _ => ([], ⟨[], true⟩)
def changeR (r : Rd) : (Bs × Bool × Bs) × Rd :=
 bif ([45] : Bs).isPrefixOf (textR r).2.rest && (cutPre [45] (textR r).2.rest == [] || (cutPre [45] (textR r).2.rest).getD 0 0 == 32) then
  (((textR r).1, false, []), (blankR (textR r).2).2)
 else (((textR r).1, true, (textR (textR r).2).1), (textR (textR r).2).2)
end Go.SP
