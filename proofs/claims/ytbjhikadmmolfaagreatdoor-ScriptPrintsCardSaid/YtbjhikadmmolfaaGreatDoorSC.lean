/- A seat of the scripts: what the functions of its laws do. -/
import Derived.Test.YtbjhikadmmolfaaGreatDoorME
set_option linter.unusedSectionVars false
set_option linter.unusedVariables false
set_option linter.unusedSimpArgs false
namespace Go.Proofs.Sz
open Go Go.Am Go.SP
abbrev tyCB : TypeId := 4
def TCloneB : Trans := λ args K => match args with
 | [x] => ∃ l : List Bool, (IsBools x l /\ l.length <= 100000) /\ K (.own 0 0 l.length) [.row 1 tyCB l.length (boolF l)]
 | _ => False
abbrev tyCI : TypeId := 3
def TCloneI : Trans := λ args K => match args with
 | [x] => ∃ l : List Int, (IsInts0 x l /\ l.length <= 100000) /\ K (.own 0 0 l.length) [.row 1 tyCI l.length (intF l)]
 | _ => False
abbrev tyCR : TypeId := 96
def TCloneR : Trans := λ args K => match args with
 | [x] => ∃ l : List (Bs × Bs), (IsMap x l /\ l.length <= 100000) /\ K (.own 0 0 l.length) [.row 2 tyCR l.length (rowF l)]
 | _ => False
abbrev tyCC : TypeId := 64
def TCloneC : Trans := λ args K => match args with
 | [x] => ∃ l : List (Bs × Bool × Bs), (IsEdit x l /\ l.length <= 100000) /\ K (.own 0 0 l.length) [.row 3 tyCC l.length (chgF l)]
 | _ => False
def TShort : Trans := λ args K => match args with
 | [.pl (.string s)] => K (sl (s.data.toList.take 1025)) []
 | _ => False
def sameEvs (a b : List Ev) : Bool := a.length == b.length && (List.range a.length).all λ i => sameE (evAt a i) (evAt b i)
def TSameSc : Trans := λ args K => match args with
 | [.agg [.pl (.int .i64 a), .pl (.int .i64 b), .pl (.int .i64 c), x], .agg [.pl (.int .i64 d), .pl (.int .i64 e), .pl (.int .i64 f), y]] => ∃ l m : List Ev, (IsEvs x l /\ IsEvs y m) /\ K (bl (a == d && b == e && c == f && sameEvs l m)) []
 | _ => False
end Go.Proofs.Sz

namespace Go.Proofs.Sz
open Go Go.Am Go.SP
def sh2 (r : Bs × Bs) : Bs × Bs := (r.1.take 1025, r.2.take 1025)
def sh3 (r : Bs × Bool × Bs) : Bs × Bool × Bs := (r.1.take 1025, r.2.1, r.2.2.take 1025)
def upto {α : Type} (g : α -> α) (l : List α) (i : Nat) : List α := (l.take i).map g ++ l.drop i
def shortE (e : Ev) : Ev := { e with keep := e.keep.take 2049, conf := e.conf.take 41, map := (e.map.take 41).map sh2, edit := (e.edit.take 41).map sh3, data := e.data.take 9, branch := e.branch.take 1025, note := e.note.take 1025, cbranch := e.cbranch.take 1025 }
def TShortE : Trans := λ args K => match args with
 | [x] => ∃ e : Ev, IsEv x e /\ K (shortE e).av []
 | _ => False
abbrev LX := (List Bool × List Int) × (List (Bs × Bs) × List (Bs × Bool × Bs)) × Nat
abbrev cellsX (e : Ev) (x : LX) : List AV := [nm e.kind, nm e.node, nm e.to, nm e.n, .own 2 0 x.1.1.length, .own 3 0 x.1.2.length, sl (e.branch.take 1025), .own 4 0 x.2.1.1.length, .own 5 0 x.2.1.2.length, .pl (.int .u32 e.author), sl (e.note.take 1025), nm e.ck, nm e.client, .pl (.int .u32 e.seq), sl (e.cbranch.take 1025), .iarr .u8 32 e.old, .iarr .u8 32 e.new, .rows 1 (e.data.take 9).length (byteF (bs (e.data.take 9)))]
abbrev zeroC : List AV := [nm 0, nm 0, nm 0, nm 0, nilS, nilS, sl [], nilS, nilS, .pl (.int .u32 0), sl [], nm 0, nm 0, .pl (.int .u32 0), sl [], .iarr .u8 32 (λ _ => 0), .iarr .u8 32 (λ _ => 0), nilS]
abbrev heapX (e : Ev) (x : LX) : List LObj := [.box 62 (cellsX e x), .box 62 zeroC, .row 1 tyCB x.1.1.length (boolF x.1.1), .row 1 tyCI x.1.2.length (intF x.1.2), .row 2 tyCR x.2.1.1.length (rowF x.2.1.1), .row 3 tyCC x.2.1.2.length (chgF x.2.1.2)]
end Go.Proofs.Sz

namespace Go.Proofs.Sz
open Go Go.Am Go.SP
def fewL (l : List Ev) : List Ev := (l.take 301).map shortE
def TFew : Trans := λ args K => match args with
 | [.agg [.pl (.int .i64 a), .pl (.int .i64 b), .pl (.int .i64 c), x]] => ∃ l : List Ev, IsEvs x l /\ K (scAV ⟨a, b, c, fewL l⟩) []
 | _ => False
end Go.Proofs.Sz

namespace Go.Proofs.Sz
open Go Go.Am Go.SP
abbrev tyI64 : TypeId := 2
def wordK (k : Int) : Bs := bif decide (k < 1) || decide (15 < k) then [] else wordsL.getD k.toNat []
def TWord : Trans := λ args K => match args with
 | [.pl (.int .i64 k)] => K (sl (wordK k)) []
 | _ => False
def numsE (e : Ev) : List Int := fieldsV e ++ (bif stampedK e.kind then [e.author] else [])
def KindOk (e : Ev) : Prop := 1 <= e.kind /\ e.kind <= 15
def TNumsR : Trans := λ args K => match args with
 | [x] => ∃ e : Ev, (IsEv x e /\ KindOk e /\ EvOk e) /\ K (.own 0 0 (numsE e).length) [.row 1 tyI64 (numsE e).length (intF (numsE e))]
 | _ => False
def withE (e : Ev) : Ev := { (({ ev0 with kind := e.kind } : Ev).setF (fieldsV e)) with author := bif stampedK e.kind then e.author else 0 }
abbrev nilA : AV := .pl (.slice none 0 0)
abbrev withC (e : Ev) : List AV := [nm (withE e).kind, nm (withE e).node, nm (withE e).to, nm (withE e).n, nilA, nilA, sl [], nilA, nilA, .pl (.int .u32 (withE e).author), sl [], nm (withE e).ck, nm (withE e).client, .pl (.int .u32 (withE e).seq), sl [], .iarr .u8 32 (withE e).old, .iarr .u8 32 (withE e).new, nilA]
def TWith : Trans := λ args K => match args with
 | [.pl (.int .i64 k), x] => ∃ e : Ev, (k = e.kind /\ IsInts0 x (numsE e) /\ KindOk e /\ EvOk e) /\ K (.tup [.agg (withC e), bl true]) []
 | _ => False
def TSaid : Trans := λ args K => match args with
 | [x] => ∃ e : Ev, (IsEv x e /\ KindOk e /\ EvOk e) /\ K (spokenE e).av []
 | _ => False
def TEventR : Trans := λ args K => match args with
 | [x] => ∃ e : Ev, (IsEv x e /\ EvOk e) /\ K (bl (!wrongE e)) []
 | _ => False
def TRight : Trans := λ args K => match args with
 | [.agg [.pl (.int .i64 _), .pl (.int .i64 _), .pl (.int .i64 _), x]] => ∃ l : List Ev, (IsEvs x l /\ ∀ e ∈ l, EvOk e) /\ K (bl (checkE l == 0)) []
 | _ => False
def TBits : Trans := λ args K => match args with
 | [x] => ∃ l : List Bool, (IsBools x l /\ l.length <= 100000) /\ K (sl (61 :: bitsL l)) []
 | _ => False
def TQuote : Trans := λ args K => match args with
 | [.pl (.string s)] => s.size <= 100000 /\ K (sl (quo s.data.toList)) []
 | _ => False
def texF (l : List Bs) (i : Nat) : AV := sl (l.getD i [])
def linePs (e : Ev) : List Bs := wordsL.getD e.kind.toNat [] :: partsE e
def TLineR : Trans := λ args K => match args with
 | [x] => ∃ e : Ev, (IsEv x e /\ EvOk e /\ wrongE e = false) /\ K (.own 0 0 (linePs e).length) [.row 1 tyStr (linePs e).length (texF (linePs e))]
 | _ => False
def TTextR : Trans := λ args K => match args with
 | [.agg [.pl (.int .i64 a), .pl (.int .i64 b), .pl (.int .i64 c), x]] => ∃ l : List Ev, (IsEvs x l /\ Int64 a /\ Int64 b /\ Int64 c /\ l.length <= 300 /\ ∀ e ∈ l, EvOk e /\ wrongE e = false) /\ K (sl (printL ⟨a, b, c, l⟩)) []
 | _ => False
def rowT (l : List Bs) : LObj := .row 1 tyStr l.length (texF l)
def textsM (e : Ev) (i : Nat) : List Bs := [e.branch, e.note, e.cbranch] ++ (e.map.take i).flatMap λ r => [r.1, r.2]
def textsD (e : Ev) (i : Nat) : List Bs := textsM e e.map.length ++ (e.edit.take i).flatMap λ r => [r.1, r.2.2]
end Go.Proofs.Sz

namespace Go.Proofs.Sz
open Go Go.Am Go.SP
def lineA (e : Ev) (i : Nat) : List Bs := wordsL.getD e.kind.toNat [] :: ((numsE e).take i).map Lib.itoa
def lineC (e : Ev) (i : Nat) : List Bs := lineA e (numsE e).length ++ (e.conf.take i).map Lib.itoa
def lineM (e : Ev) (i : Nat) : List Bs := lineA e (numsE e).length ++ ([quo e.branch, quo e.note] ++ (e.map.take i).flatMap rowP)
def lineD (e : Ev) (i : Nat) : List Bs := lineM e e.map.length ++ (e.edit.take i).flatMap chgP
def scF (l : List Sc) (i : Nat) : AV := scAV (l.getD i sc0)
def scsAV (l : List Sc) : AV := .rows 4 l.length (scF l)
def outA (s : Sc) (i : Nat) : Bs := worldL ++ nums [s.servers, s.clients, s.area] ++ [10] ++ (s.evs.take i).flatMap evL
def layTo (l : List Bs) (i : Nat) : Bs := chain0 (l.take i)
where chain0 : List Bs -> Bs
 | [] => []
 | p :: ps => p ++ ps.flatMap λ q => 32 :: q
def scBoxE (s : Sc) : LObj := .box tySc [nm s.servers, nm s.clients, nm s.area, evsAV s.evs]
def fewS (l : List Sc) (i : Nat) : Sc := ⟨(l.getD i sc0).servers, (l.getD i sc0).clients, (l.getD i sc0).area, fewL (l.getD i sc0).evs⟩
end Go.Proofs.Sz
