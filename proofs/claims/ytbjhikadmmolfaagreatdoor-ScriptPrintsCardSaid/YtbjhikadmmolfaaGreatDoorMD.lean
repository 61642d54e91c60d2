/- Scripts: events as data; which may be; their lines; how they are read. In plain Lean. -/
import Derived.Test.YtbjhikadmmolfaaGreatDoorSA
set_option linter.unusedSectionVars false
set_option linter.unusedVariables false
set_option linter.unusedSimpArgs false
namespace Go.SP
open Go Go.Am
abbrev Idv := Nat -> Int
def idEq (a b : Idv) : Bool := (List.range 32).all λ i => a i == b i
def z0 : Idv := λ _ => 0
structure Ev where
 kind : Int
 node : Int
 to : Int
 n : Int
 keep : List Bool
 conf : List Int
 branch : Bs
 map : List (Bs × Bs)
 edit : List (Bs × Bool × Bs)
 author : Int
 note : Bs
 ck : Int
 client : Int
 seq : Int
 cbranch : Bs
 old : Idv
 new : Idv
 data : Bs
def ev0 : Ev := ⟨0, 0, 0, 0, [], [], [], [], [], 0, [], 0, 0, 0, [], z0, z0, []⟩
instance : Inhabited Ev := ⟨ev0⟩
def boolF (l : List Bool) (i : Nat) : AV := bl (l.getD i false)
def intF (l : List Int) (i : Nat) : AV := nm (l.getD i 0)
def rowF (l : List (Bs × Bs)) (i : Nat) : AV := .agg [sl (l.getD i ([], [])).1, sl (l.getD i ([], [])).2]
def chgF (l : List (Bs × Bool × Bs)) (i : Nat) : AV := .agg [sl (l.getD i ([], false, [])).1, bl (l.getD i ([], false, [])).2.1, sl (l.getD i ([], false, [])).2.2]
def Ev.cells (e : Ev) : List AV := [nm e.kind, nm e.node, nm e.to, nm e.n, .rows 1 e.keep.length (boolF e.keep), .rows 1 e.conf.length (intF e.conf), sl e.branch, .rows 2 e.map.length (rowF e.map), .rows 3 e.edit.length (chgF e.edit), .pl (.int .u32 e.author), sl e.note, nm e.ck, nm e.client, .pl (.int .u32 e.seq), sl e.cbranch, .iarr .u8 32 e.old, .iarr .u8 32 e.new, .rows 1 e.data.length (byteF (bs e.data))]
def Ev.av (e : Ev) : AV := .agg e.cells
def kNN (k : Int) : Bool := k == 1 || k == 7 || k == 9
def kN (k : Int) : Bool := k == 2 || k == 3 || k == 4
def kNT (k : Int) : Bool := k == 5 || k == 6 || k == 15
def k1 (k : Int) : Bool := k == 8 || k == 10 || k == 11 || k == 12 || k == 13
def stampedK (k : Int) : Bool := k == 11 || k == 12 || k == 13
def fieldsV (e : Ev) : List Int := bif kNN e.kind then [e.node, e.n] else bif kN e.kind then [e.n] else bif kNT e.kind then [e.node, e.to] else bif k1 e.kind then [e.node] else bif e.kind == 14 then [e.node, e.ck] else []
def fieldsN (k : Int) : Nat := bif kNN k then 2 else bif kN k then 1 else bif kNT k then 2 else bif k1 k then 1 else bif k == 14 then 2 else 0
def Ev.setF (e : Ev) (l : List Int) : Ev := bif kNN e.kind then { e with node := l.getD 0 0, n := l.getD 1 0 } else bif kN e.kind then { e with n := l.getD 0 0 } else bif kNT e.kind then { e with node := l.getD 0 0, to := l.getD 1 0 } else bif k1 e.kind then { e with node := l.getD 0 0 } else bif e.kind == 14 then { e with node := l.getD 0 0, ck := l.getD 1 0 } else e
def wordsL : List Bs := [[], [116, 105, 99, 107], [100, 101, 108, 105, 118, 101, 114], [108, 111, 115, 101], [100, 111, 117, 98, 108, 101], [112, 97, 114, 116], [109, 101, 110, 100], [97, 114, 109], [99, 114, 97, 115, 104], [111, 112, 101, 110], [99, 104, 97, 110, 103, 101], [114, 111, 111, 116], [99, 111, 109, 109, 105, 116], [115, 121, 110, 99], [100, 111], [97, 115, 107]]
def sameE (a b : Ev) : Bool :=
 a.ck == b.ck && a.client == b.client && a.seq == b.seq && a.cbranch == b.cbranch && idEq a.old b.old && idEq a.new b.new && a.data == b.data
 && (a.kind == b.kind && a.node == b.node && a.to == b.to && a.n == b.n && a.branch == b.branch && a.author == b.author && a.note == b.note)
 && (a.keep == b.keep && a.conf == b.conf && a.map == b.map && a.edit == b.edit)
def spokenE (x : Ev) : Ev :=
 { (({ ev0 with kind := x.kind } : Ev).setF (fieldsV x)) with
  branch := bif stampedK x.kind then x.branch else [], author := bif stampedK x.kind then x.author else 0, note := bif stampedK x.kind then x.note else [], keep := bif x.kind == 8 then x.keep else [], conf := bif x.kind == 10 then x.conf else [], map := bif x.kind == 11 then x.map else [], edit := bif x.kind == 12 || x.kind == 13 then x.edit else [], cbranch := bif x.kind == 14 then x.cbranch else [], new := bif x.kind == 14 then x.new else z0 }
def longB (s : Bs) : Bool := decide (1024 < s.length)
def wrongE (x : Ev) : Bool :=
 decide (x.kind < 1) || decide (15 < x.kind) || !sameE x (spokenE x) || decide (2048 < x.keep.length) || (decide (40 < x.conf.length) || decide (40 < x.map.length) || decide (40 < x.edit.length))
 || (longB x.branch || longB x.note || longB x.cbranch) || x.map.any (λ r => longB r.1 || longB r.2) || x.edit.any (λ r => longB r.1 || longB r.2.2 || (!r.2.1 && !(r.2.2 == [])))
def checkE (l : List Ev) : Int := bif decide (300 < l.length) || l.any wrongE then 2 else 0
def bitB (b : Bool) : UInt8 := bif b then 49 else 48
def bitsL (l : List Bool) : Bs := l.map bitB
def idL (f : Idv) : Bs := (List.range 32).flatMap λ i => [hexD ((f i).toNat / 16), hexD ((f i).toNat % 16)]
def chgL (r : Bs × Bool × Bs) : Bs := txt r.1 ++ (bif r.2.1 then txt r.2.2 else [32, 45])
def evL1 (e : Ev) : Bs := (wordsL.getD e.kind.toNat []) ++ nums (fieldsV e) ++ (bif stampedK e.kind then numL e.author ++ txts [e.branch, e.note] else [])
def evL2 (e : Ev) : Bs := bif e.kind == 8 then [32, 61] ++ bitsL e.keep else bif e.kind == 14 then txt e.cbranch ++ (32 :: idL e.new) else []
def evL3 (e : Ev) : Bs := nums e.conf ++ e.map.flatMap (λ r => txts [r.1, r.2]) ++ e.edit.flatMap chgL
def evL (e : Ev) : Bs := evL1 e ++ evL2 e ++ evL3 e ++ [10]
structure Sc where
 servers : Int
 clients : Int
 area : Int
 evs : List Ev
def sc0 : Sc := ⟨0, 0, 0, []⟩
def worldL : Bs := [119, 111, 114, 108, 100]
def printL (s : Sc) : Bs := worldL ++ nums [s.servers, s.clients, s.area] ++ [10] ++ s.evs.flatMap evL
def printR (s : Sc) : Bs × Int := bif checkE s.evs == 0 then (bif decide (262144 < (printL s).length) then ([], 3) else (printL s, 0)) else ([], checkE s.evs)
def numbersR : Nat -> Rd -> List Int × Rd
 | 0, r => ([], r)
 | n + 1, r => ((numberR r).1 :: (numbersR n (numberR r).2).1, (numbersR n (numberR r).2).2)
def confR : Nat -> Rd -> List Int × Rd
 | 0, r => ([], r)
 | f + 1, r => bif moreR r then ((numberR r).1 :: (confR f (numberR r).2).1, (confR f (numberR r).2).2) else ([], r)
def mapR : Nat -> Rd -> List (Bs × Bs) × Rd
 | 0, r => ([], r)
 | f + 1, r => bif moreR r then (((textR r).1, (textR (textR r).2).1) :: (mapR f (textR (textR r).2).2).1, (mapR f (textR (textR r).2).2).2) else ([], r)
def editR : Nat -> Rd -> List (Bs × Bool × Bs) × Rd
 | 0, r => ([], r)
 | f + 1, r => bif moreR r then ((changeR r).1 :: (editR f (changeR r).2).1, (editR f (changeR r).2).2) else ([], r)
def kindOf (w : Bs) : Int := ((wordsL.findIdx? (· == w)).getD 0 : Nat)
def isBit (c : UInt8) : Bool := c == 48 || c == 49
def digV (c : UInt8) : Nat := bif decide (48 <= c.toNat) && decide (c.toNat <= 57) then c.toNat - 48 else bif decide (97 <= c.toNat) && decide (c.toNat <= 102) then c.toNat - 87 else 16
def idOk (s : Bs) : Bool := s.length == 64 && s.all (λ c => decide (digV c < 16))
def idV (s : Bs) : Idv := λ i => ((digV (s.getD (2 * i) 0) * 16 + digV (s.getD (2 * i + 1) 0) : Nat) : Int)
def idR (s : Bs) : Idv × Bool := bif idOk s then (idV s, true) else (z0, false)
def orBad (r : Rd) (b : Bool) : Rd := ⟨r.rest, r.bad || b⟩
def evR1 (w : Bs) (r : Rd) : Ev × Rd := (({ ev0 with kind := kindOf w } : Ev).setF (numbersR (fieldsN (kindOf w)) r).1, (numbersR (fieldsN (kindOf w)) r).2)
def evR2 (e : Ev) (r : Rd) : Ev × Rd := bif stampedK e.kind then
  ({ e with author := IntKind.u32.wrap (numberR r).1, branch := (textR (orBad (numberR r).2 (decide ((numberR r).1 < 0) || decide (4294967295 < (numberR r).1)))).1, note := (textR (textR (orBad (numberR r).2 (decide ((numberR r).1 < 0) || decide (4294967295 < (numberR r).1)))).2).1 },
   (textR (textR (orBad (numberR r).2 (decide ((numberR r).1 < 0) || decide (4294967295 < (numberR r).1)))).2).2)
 else (e, r)
def keepR (r : Rd) : List Bool × Rd := ((cutPre [61] (blankR r).1).map (· == 49), orBad (blankR r).2 (!(([61] : Bs).isPrefixOf (blankR r).1 && (cutPre [61] (blankR r).1).all isBit)))
def doR (r : Rd) : Bs × Idv × Rd := ((textR r).1, (idR (blankR (textR r).2).1).1, orBad (blankR (textR r).2).2 (!(idR (blankR (textR r).2).1).2))
def evR3 (e : Ev) (r : Rd) : Ev × Rd :=
 bif e.kind == 8 then ({ e with keep := (keepR r).1 }, (keepR r).2)
 else bif e.kind == 10 then ({ e with conf := (confR (r.rest.length + 1) r).1 }, (confR (r.rest.length + 1) r).2)
 else bif e.kind == 11 then ({ e with map := (mapR (r.rest.length + 1) r).1 }, (mapR (r.rest.length + 1) r).2)
 else bif e.kind == 12 || e.kind == 13 then ({ e with edit := (editR (r.rest.length + 1) r).1 }, (editR (r.rest.length + 1) r).2)
 else bif e.kind == 14 then ({ e with cbranch := (doR r).1, new := (doR r).2.1 }, (doR r).2.2)
 else (e, r)
def eventR (w : Bs) (r : Rd) : Ev × Rd :=
 ((evR3 (evR2 (evR1 w r).1 (evR1 w r).2).1 (evR2 (evR1 w r).1 (evR1 w r).2).2).1,
  orBad (evR3 (evR2 (evR1 w r).1 (evR1 w r).2).1 (evR2 (evR1 w r).1 (evR1 w r).2).2).2 (wrongE (evR3 (evR2 (evR1 w r).1 (evR1 w r).2).1 (evR2 (evR1 w r).1 (evR1 w r).2).2).1))
def setupR (s : Sc) (r : Rd) : Sc := ⟨(numbersR 3 r).1.getD 0 0, (numbersR 3 r).1.getD 1 0, (numbersR 3 r).1.getD 2 0, s.evs⟩
def okR (r : Rd) : Bool := !r.bad && r.rest == []
def lineR (s : Sc) (l : Bs) (n : Nat) : Sc × Bool :=
 bif n == 0 then (setupR s (blankR ⟨l, false⟩).2, okR (orBad (numbersR 3 (blankR ⟨l, false⟩).2).2 (!((blankR ⟨l, false⟩).1 == worldL))))
 else (⟨s.servers, s.clients, s.area, s.evs ++ [(eventR (blankR ⟨l, false⟩).1 (blankR ⟨l, false⟩).2).1]⟩,
  okR (orBad (eventR (blankR ⟨l, false⟩).1 (blankR ⟨l, false⟩).2).2 (decide (300 < s.evs.length + 1))))
def parseGo : Nat -> Bs -> Nat -> Nat -> Sc -> Sc × Nat × Nat × Bool
 | 0, _, at_, n, s => (s, at_, n, true)
 | _ + 1, [], at_, n, s => (s, at_, n, true)
 | f + 1, c :: t, at_, n, s => bif (cutL 10 (c :: t)).2.2 && (lineR s (cutL 10 (c :: t)).1 n).2 then
   parseGo f (cutL 10 (c :: t)).2.1 (at_ + (cutL 10 (c :: t)).1.length + 1) (n + 1) (lineR s (cutL 10 (c :: t)).1 n).1
  else (s, at_, n, false)
def parseR (text : Bs) : Sc × Nat × Int := bif decide (262144 < text.length) then (sc0, 0, 3)
 else match parseGo (text.length + 1) text 0 0 sc0 with
 |(s, at_, n, ok) => bif !ok || n == 0 then (sc0, at_, 360) else (s, 0, 0)
end Go.SP

namespace Go.Am
open Go.RowKit
variable [Inhabited GlT]
def sameTmp : Operand -> Nat -> Bool
 | .tmp t, t' => Nat.beq t t'
 | _, _ => false
def isSkip : Code -> Bool
 | .skip => true
 | _ => false
structure Nxt where
 t : Nat
 x : Code
 y : Code
def Nxt.code (k : Nxt) : Code := .cond (.tmp k.t) k.x k.y
def optP : Code -> Option Nxt -> Code
 | .seq a b, none => match b with
  | .cond (.tmp t) x y => optP a (some ⟨t, optP x none, optP y none⟩)
  | b => .seq (optP a none) (optP b none)
 | .seq a b, some k => .seq (optP a none) (optP b (some k))
 | .cond c x y, none => .cond c (optP x none) (optP y none)
 | .cond c x y, some k => match isSkip x && sameTmp c k.t with
  | true => .cond c k.x (optP y (some k))
  | false => .seq (.cond c (optP x none) (optP y none)) k.code
 | .block id c, none => .block id (optP c none)
 | .block id c, some k => .seq (.block id (optP c none)) k.code
 | .loop c, none => .loop (optP c none)
 | .loop c, some k => .seq (.loop (optP c none)) k.code
 | .scope c, none => .scope (optP c none)
 | .scope c, some k => .seq (.scope (optP c none)) k.code
 | c, none => c
 | c, some k => .seq c k.code
def optC (c : Code) : Code := optP c none
section
variable {P : Program} {nb : Nat} {r : Option Nat} {Q : Exit -> St -> Prop}
theorem vcA_seq {C : Table} (hC : TableOk P C) {ts : List Nat} (hm : P.follows .mixedOrders = true) {a b a' b' : Code} {rd lt : Bool} {nb : Nat} {r : Option Nat} {an : List Ann} {K : Exit -> St -> Prop} {s : St}
  (ha : ∀ {an : List Ann} {K : Exit -> St -> Prop} {s : St}, vcA rd lt nb ts P C a an K s -> AWp nb r P a' K s) (hb : ∀ {an : List Ann} {s : St}, vcA rd lt nb ts P C b an K s -> AWp nb r P b' Q s) (hQ : ∀ e s, e ≠ .normal -> K e s -> Q e s)
  (h : vcA rd lt nb ts P C (.seq a b) an K s) : AWp nb r P a' (thenK (AWp nb r P b' Q) Q) s := by
 simp only [vcA] at h
 split at h
 ·rename_i id X inv I rest hf
  refine (ha h.1).mono ?_
  intro e s' hs'
  cases e with
  | normal =>
   obtain ⟨x, hx⟩ := hs'
   obtain ⟨⟨ks, h1⟩, h2⟩ := leSt_spec hx
   exact awp_le ks h1 (hb (h.2 x h2))
  | _ => exact hQ _ _ (by simp) hs'
 ·refine (ha h).mono ?_
  intro e s' hs'
  cases e with
  | normal => exact hb hs'
  | _ => exact hQ _ _ (by simp) hs'
theorem condSt_twice {t : Nat} {s : St} {b : Bool} : condSt (.tmp t) (condSt (.tmp t) s b) b = condSt (.tmp t) s b := by
 simp [condSt, St.put]
theorem condSt_ev {t : Nat} {s : St} {b b' : Bool} (h : s.ev (.tmp t) = .pl (.bool b)) : (condSt (.tmp t) s b').ev (.tmp t) = .pl (.bool b') := by
 have h1 := get_lt (s := s) (t := t) h (by simp)
 have hlt : t < s.slots.length := (List.getElem?_eq_some_iff.1 h1).1
 simp [condSt, St.put, St.ev, St.get, List.getD_eq_getElem?_getD, hlt]
theorem vcO_sound {C : Table} (hC : TableOk P C) {ts : List Nat} (hm : P.follows .mixedOrders = true) : ∀ (c : Code) {rd lt : Bool} {nb : Nat} {r : Option Nat}, (rd = false -> r = none) ->
  (∀ {an : List Ann} {K : Exit -> St -> Prop} {s : St}, vcA rd lt nb ts P C (optP c none) an K s -> AWp nb r P c K s) /\
  (∀ (k : Nxt) (b : Code) {an : List Ann} {K : Exit -> St -> Prop} {s : St}, (∀ {an : List Ann} {s : St}, vcA rd lt nb ts P C k.code an K s -> AWp nb r P b K s) -> vcA rd lt nb ts P C (optP c (some k)) an K s -> AWp nb r P c (thenK (AWp nb r P b K) K) s) := by
 intro c
 have plain : ∀ {c : Code} {rd lt : Bool} {nb : Nat} {r : Option Nat}, (rd = false -> r = none) -> optP c none = c -> (∀ k, optP c (some k) = .seq c k.code) ->
   (∀ {an : List Ann} {K : Exit -> St -> Prop} {s : St}, vcA rd lt nb ts P C (optP c none) an K s -> AWp nb r P c K s) /\
   (∀ (k : Nxt) (b : Code) {an : List Ann} {K : Exit -> St -> Prop} {s : St}, (∀ {an : List Ann} {s : St}, vcA rd lt nb ts P C k.code an K s -> AWp nb r P b K s) -> vcA rd lt nb ts P C (optP c (some k)) an K s -> AWp nb r P c (thenK (AWp nb r P b K) K) s) := by
  intro c rd lt nb r hr h1 h2
  refine ⟨λ h => vcA_sound hC hm c hr (h1 ▸ h), λ k b an K s hb h => ?_⟩
  rw [h2] at h
  exact vcA_seq hC hm (vcA_sound hC hm c hr) hb (λ _ _ _ h => h) h
 have wrap : ∀ {c c' : Code} {rd lt : Bool} {nb : Nat} {r : Option Nat}, optP c none = c' -> (∀ k, optP c (some k) = .seq c' k.code) ->
   (∀ {an : List Ann} {K : Exit -> St -> Prop} {s : St}, vcA rd lt nb ts P C c' an K s -> AWp nb r P c K s) ->
   (∀ {an : List Ann} {K : Exit -> St -> Prop} {s : St}, vcA rd lt nb ts P C (optP c none) an K s -> AWp nb r P c K s) /\
   (∀ (k : Nxt) (b : Code) {an : List Ann} {K : Exit -> St -> Prop} {s : St}, (∀ {an : List Ann} {s : St}, vcA rd lt nb ts P C k.code an K s -> AWp nb r P b K s) -> vcA rd lt nb ts P C (optP c (some k)) an K s -> AWp nb r P c (thenK (AWp nb r P b K) K) s) := by
  intro c c' rd lt nb r h1 h2 h3
  refine ⟨λ h => h3 (h1 ▸ h), λ k b an K s hb h => ?_⟩
  rw [h2] at h
  exact vcA_seq hC hm h3 hb (λ _ _ _ h => h) h
 induction c with
 | seq a b iha ihb =>
  intro rd lt nb r hr
  refine ⟨fun {an K s} h => ?_, λ k d an K s hd h => ?_⟩
  ·have gen : optP (.seq a b) none = .seq (optP a none) (optP b none) -> AWp nb r P (.seq a b) K s := λ e => by
    rw [e] at h
    exact awp_seq (vcA_seq hC hm (iha hr).1 (ihb hr).1 (λ _ _ _ h => h) h)
   cases b with
   | cond c x y =>
    cases c with
    | tmp t =>
     have e : optP (.seq a (.cond (.tmp t) x y)) none = optP a (some ⟨t, optP x none, optP y none⟩) := by simp only [optP]
     rw [e] at h
     exact awp_seq ((iha hr).2 _ _ (λ h2 => (ihb hr).1 (by simpa only [optP, Nxt.code] using h2)) h)
    | _ => exact gen (by simp only [optP])
   | _ => exact gen (by simp only [optP])
  ·have e : optP (.seq a b) (some k) = .seq (optP a none) (optP b (some k)) := by simp only [optP]
   rw [e] at h
   refine awp_seq ((vcA_seq hC hm (Q := thenK (AWp nb r P d K) K) (b' := b) (iha hr).1 (λ h2 => (ihb hr).2 k d hd h2) (λ e _ hne h => by cases e <;> first | exact absurd rfl hne | exact h) h))
 | cond c x y ihx ihy =>
  intro rd lt nb r hr
  have base : ∀ {an : List Ann} {K : Exit -> St -> Prop} {s : St}, vcA rd lt nb ts P C (.cond c (optP x none) (optP y none)) an K s -> AWp nb r P (.cond c x y) K s := by
   intro an K s h
   simp only [vcA] at h
   split at h
   ·rename_i b hc
    have h := condV_spec h
    exact awp_cond hc (λ hb => (ihx hr).1 (h.1 hb)) (λ hb => (ihy hr).1 (h.2 hb))
   ·exact h.elim
  refine ⟨λ h => base (by simpa only [optP] using h), λ k d an K s hd h => ?_⟩
  have e : optP (.cond c x y) (some k) = match isSkip x && sameTmp c k.t with
    | true => .cond c k.x (optP y (some k))
    | false => .seq (.cond c (optP x none) (optP y none)) k.code := by simp only [optP]
  rw [e] at h
  split at h
  ·rename_i hb
   rw [Bool.and_eq_true] at hb
   obtain ⟨hb1, hb2⟩ := hb
   have hx : x = .skip := by cases x <;> first | rfl | (simp [isSkip] at hb1)
   subst hx
   have hc : c = .tmp k.t := by
    cases c with
    | tmp t => rw [Nat.eq_of_beq_eq_true hb2]
    | _ => simp [sameTmp] at hb2
   subst hc
   simp only [vcA] at h
   split at h
   ·rename_i b hc
    have h := condV_spec h
    refine awp_cond hc (λ hb => awp_skip ?_) (λ hb => (ihy hr).2 k d hd (h.2 hb))
    show AWp nb r P d K _
    refine hd (an := an) ?_
    have hev := condSt_ev (b' := true) hc
    simp only [Nxt.code, vcA, hev]
    have h1 := h.1 hb
    cases lt with
    | true => simpa [condV, condSt_twice] using h1
    | false => exact ⟨λ _ => by rw [condSt_twice]; exact h1, λ hh => by cases hh⟩
   ·exact h.elim
  ·exact vcA_seq hC hm base hd (λ _ _ _ h => h) h
 | block id c ih =>
  intro rd lt nb r hr
  exact wrap (c' := .block id (optP c none)) (by simp only [optP]) (λ k => by simp only [optP]) (fun {an K s} h => awp_block ((ih hr).1 h))
 | loop c ih =>
  intro rd lt nb r hr
  refine wrap (c' := .loop (optP c none)) (by simp only [optP]) (λ k => by simp only [optP]) (fun {an K s} h => ?_)
  simp only [vcA] at h
  split at h
  ·rename_i id n lit inner hf
   refine awp_loop n ?_
   have key : ∀ (n : Nat) (s : St), unr (λ an K s => vcA rd lit nb ts P C (optP c none) an K s) inner K n s -> LoopN nb r P c K n s := by
    intro n
    induction n with
    | zero => intro s h; exact h
    | succ m ihm =>
     intro s h
     refine ((ih hr).1 h).mono ?_
     intro e s' hs'
     cases e with
     | normal => exact ihm s' hs'
     | _ => exact hs'
   exact key n s h
  ·rename_i id X inv I μ inner hf
   obtain ⟨⟨x0, h0⟩, hst⟩ := h
   refine awp_loop_at inv I μ ⟨x0, leSt_spec h0⟩ (λ x hx => ((ih hr).1 (hst x hx)).mono ?_)
   intro e s' hs'
   cases e with
   | normal =>
    obtain ⟨y, hy⟩ := hs'
    exact ⟨y, leSt_spec hy⟩
   | _ => exact hs'
  ·exact h.elim
 | scope c ih =>
  intro rd lt nb r hr
  refine wrap (c' := .scope (optP c none)) (by simp only [optP]) (λ k => by simp only [optP]) (fun {an K s} h => ?_)
  simp only [vcA] at h
  split at h
  ·exact h.elim
  ·obtain rfl := hr rfl
   have h1 := (ih (λ _ => rfl)).1 h
   intro E0 E a n R hm0 g hd
   have h2 := wpIn_wide.1 (h1 E0 E a n R hm0 g hd)
   refine wpIn_wide.2 (wp_scope_straight (wp_mono h2 ?_))
   rintro e a' w' ⟨s', E', hQ, g', hw, hd'⟩
   cases e with
   | goto l => exact hQ.elim
   | _ => exact ⟨s', E', hQ, g', hw, hd'⟩
 | _ => intro rd lt nb r hr; exact plain hr (by simp only [optP]) (λ k => by simp only [optP])
end
end Go.Am

namespace Go.Am
open Go.RowKit
variable [Inhabited GlT]
def givenC : List AV -> Prop
 | [] => True
 | .rows _ n _ :: xs => n <= maxLen /\ givenC xs
 | _ :: xs => givenC xs
def givenD : List AV -> Prop
 | [] => True
 | .rows _ n _ :: xs => n <= maxLen /\ givenD xs
 | .agg cs :: xs => givenC cs /\ givenD xs
 | _ :: xs => givenD xs
omit [Inhabited GlT] in
theorem givenC_of {E : Env} : ∀ {cs : List AV} {us : List Value}, Rep E us (.agg cs) -> givenC cs := by
 intro cs
 induction cs with
 | nil => intro us _; trivial
 | cons c cs ih =>
  intro us h
  obtain ⟨_, h2, h3⟩ := h.cons_inv
  have hr := ih h3
  cases c with
  | rows k n f =>
   refine ⟨?_, hr⟩
   obtain ⟨A, cap, ws, a, h1, h2, _⟩ := Rep.rows_inv' h2
   omega
  | _ => exact hr
omit [Inhabited GlT] in
theorem givenD_of {E : Env} : ∀ {args : List AV} {vs : List Value}, vs.length = args.length -> (∀ (i : Nat) (v : Value) (x : AV), vs[i]? = some v -> args[i]? = some x -> RepV E v x) -> givenD args := by
 intro args
 induction args with
 | nil => intro vs _ _; trivial
 | cons x xs ih =>
  intro vs hl h
  cases vs with
  | nil => simp at hl
  | cons v vs =>
   have hr := ih (vs := vs) (by simpa using hl) (λ i u y hu hy => h (i + 1) u y (by simpa using hu) (by simpa using hy))
   cases x with
   | rows k n f =>
    refine ⟨?_, hr⟩
    obtain ⟨A, cap, ws, a, h1, h2, _⟩ := Rep.rows_inv (show Rep E [v] (.rows k n f) from h 0 v _ rfl rfl)
    omega
   | agg cs =>
    obtain ⟨us, _, hu⟩ := (show RepV E v (.agg cs) from h 0 v _ rfl rfl)
    exact ⟨givenC_of hu, hr⟩
   | _ => exact hr
theorem Spec.givenD {P : Program} {f : FuncId} {args : List AV} {R : AV -> List LObj -> Prop} (h : givenD args -> Spec P f args R) : Spec P f args R :=
 λ E0 vs h1 h0 h2 hG h3 h4 => h (givenD_of h3 h4) E0 vs h1 h0 h2 hG h3 h4
theorem SpecH.givenD {P : Program} {f : FuncId} {H0 : List LObj} {args : List AV} {R : AV -> List LObj -> Prop} (h : givenD args -> SpecH P f H0 args R) : SpecH P f H0 args R :=
 λ E0 vs g0 h0 hG h3 h4 => h (givenD_of h3 h4) E0 vs g0 h0 hG h3 h4
theorem SpecH.argsR {P : Program} {f : FuncId} {H0 : List LObj} {args args' : List AV} {R : AV -> List LObj -> Prop} (n : Nat) (h : args.length = args'.length /\ ∀ (i : Nat) (c d : AV), args[i]? = some c -> args'[i]? = some d -> leR c d ∨ leA (idN n) c d) (k : SpecH P f H0 args' R) : SpecH P f H0 args R := by
 intro E0 vs g0 h0 hG h3 h4
 obtain ⟨e1, e2⟩ := h
 refine k E0 vs g0 h0 hG (by rw [h3, e1]) λ i v y hv hy => ?_
 have hlt : i < args.length := by rw [e1]; exact (List.getElem?_eq_some_iff.1 hy).1
 rcases e2 i _ _ (List.getElem?_eq_getElem hlt) hy with h | h
 ·exact repV_leR (h4 i v _ hv (List.getElem?_eq_getElem hlt)) h
 ·exact repV_le (h4 i v _ hv (List.getElem?_eq_getElem hlt)) (extRen_id n E0) (leV_of_leA h)
end Go.Am
