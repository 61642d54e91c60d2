/- A seat of the scripts: what the functions of events do. -/
import Derived.Test.YtbjhikadmmolfaaDoorME
import Derived.Lib.Join
set_option linter.unusedSectionVars false
set_option linter.unusedVariables false
set_option linter.unusedSimpArgs false
set_option maxRecDepth 100000
set_option maxHeartbeats 4000000
namespace Go.Proofs.Sd
open Go Go.Am Go.SP
theorem mkSo {f : FuncId} {fn : Func} {args : List AV} {R : AV -> List LObj -> Prop} {C : Table} {an : List Ann} {ts : List Nat} {lt : Bool} {X : Prop}
  (v : vcA false lt 0 ts Tryd.prog C (optC (fn.body.getD .skip)) an (finalK Tryd.prog fn R) (startSt fn args) = X) (hC : TableOk Tryd.prog C) (hf : Tryd.prog.funcs[f]? = some fn) (hb : fn.body = some (fn.body.getD .skip)) (h : X) : Am.Spec Tryd.prog f args R :=
 spec_of_code hf hb ((vcO_sound hC mixed _ (fun _ => rfl)).1 (v ▸ h))
theorem mkHo {f : FuncId} {fn : Func} {H0 : List LObj} {args : List AV} {R : AV -> List LObj -> Prop} {C : Table} {an : List Ann} {ts : List Nat} {lt : Bool} {X : Prop}
  (v : vcA false lt (List.length (H0 : List LObj)) ts Tryd.prog C (optC (fn.body.getD .skip)) an (finalKH Tryd.prog fn R) (startStH fn H0 args) = X) (hC : TableOk Tryd.prog C) (hf : Tryd.prog.funcs[f]? = some fn) (hb : fn.body = some (fn.body.getD .skip)) (h : X) : Am.SpecH Tryd.prog f H0 args R :=
 spec_of_codeH hf hb ((vcO_sound hC mixed _ (fun _ => rfl)).1 (v ▸ h))
theorem mkGo {f : FuncId} {fn : Func} {H0 : List LObj} {args : List AV} {R : AV -> List LObj -> Prop} {C : Table} {an : List Ann} {ts : List Nat} {lt : Bool} {X : Prop}
  (v : vcA false lt (List.length (H0 : List LObj)) ts Tryd.prog C (optC (fn.body.getD .skip)) an (finalKS Tryd.prog fn (List.length (H0 : List LObj)) R) (startStH fn H0 args) = X) (hC : TableOk Tryd.prog C) (hf : Tryd.prog.funcs[f]? = some fn) (hb : fn.body = some (fn.body.getD .skip)) (h : X) : Am.SpecH Tryd.prog f H0 args R :=
 spec_of_codeS hf hb ((vcO_sound hC mixed _ (fun _ => rfl)).1 (v ▸ h))
abbrev tyEv : TypeId := 64
abbrev tyStr : TypeId := 9
def IsEv (x : AV) (e : Ev) : Prop := leA (idN 0) x e.av
def wordF (i : Nat) : AV := sl (wordsL.getD i [])
def TWords : Trans := fun args K => match args with
 | [] => K (.own 0 0 16) [.row 1 tyStr 16 wordF]
 | _ => False
def idxT (w : Bs) (ls : List Bs) : Int := match ls.findIdx? (· == w) with
 | some i => (i : Int)
 | none => -1
def TIdxT : Trans := fun args K => match args with
 | [x, .pl (.string w)] => ∃ ls : List Bs, (IsTexts x ls /\ ls.length <= 1000) /\ K (nm (idxT w.data.toList ls)) []
 | _ => False
def slcB : AV -> Bool
 | .rows _ _ _ => true
 | .pl _ => true
 | _ => false
def TStamped : Trans := fun args K => match args with
 | [.agg [.pl (.int .i64 k), .pl _, .pl _, .pl _, a, b, .pl _, c, d, .pl _, .pl _, .pl _, .pl _, .pl _, .pl _, .iarr .u8 32 _, .iarr .u8 32 _, e]] => match slcB a && slcB b && (slcB c && slcB d) && slcB e with
  | true => K (bl (stampedK k)) []
  | false => False
 | _ => False
def clsK (k : Int) : Nat := bif kNN k then 1 else bif kN k then 2 else bif kNT k then 3 else bif k1 k then 4 else bif k == 14 then 5 else 0
abbrev tyPI : TypeId := 96
def cellsZ (e : Ev) : List AV := [nm e.kind, nm e.node, nm e.to, nm e.n, nilS, nilS, sl e.branch, nilS, nilS, .pl (.int .u32 e.author), sl e.note, nm e.ck, nm e.client, .pl (.int .u32 e.seq), sl e.cbranch, .iarr .u8 32 e.old, .iarr .u8 32 e.new, nilS]
def resF (k : Int) (cs : List AV) (K : AV -> List LObj -> Prop) : Prop :=
 (clsK k = 1 -> K (.own 1 0 2) [.box tyEv cs, .prow tyPI [.ptr 0 0 1 0, .ptr 0 0 3 0]]) /\ (clsK k = 2 -> K (.own 1 0 1) [.box tyEv cs, .prow tyPI [.ptr 0 0 3 0]]) /\
 (clsK k = 3 -> K (.own 1 0 2) [.box tyEv cs, .prow tyPI [.ptr 0 0 1 0, .ptr 0 0 2 0]]) /\ (clsK k = 4 -> K (.own 1 0 1) [.box tyEv cs, .prow tyPI [.ptr 0 0 1 0]]) /\
 (clsK k = 5 -> K (.own 1 0 2) [.box tyEv cs, .prow tyPI [.ptr 0 0 1 0, .ptr 0 0 11 0]]) /\ (clsK k = 0 -> K nilS [.box tyEv cs])
def resL (k : Int) (cs : List AV) (K : AV -> List LObj -> Prop) : Prop := match clsK k with
 | 0 => K nilS [.box tyEv cs]
 | 1 => K (.own 1 0 2) [.box tyEv cs, .prow tyPI [.ptr 0 0 1 0, .ptr 0 0 3 0]]
 | 2 => K (.own 1 0 1) [.box tyEv cs, .prow tyPI [.ptr 0 0 3 0]]
 | 3 => K (.own 1 0 2) [.box tyEv cs, .prow tyPI [.ptr 0 0 1 0, .ptr 0 0 2 0]]
 | 4 => K (.own 1 0 1) [.box tyEv cs, .prow tyPI [.ptr 0 0 1 0]]
 | 5 => K (.own 1 0 2) [.box tyEv cs, .prow tyPI [.ptr 0 0 1 0, .ptr 0 0 11 0]]
 | _ => False
theorem resL_F {k : Int} {cs : List AV} {K : AV -> List LObj -> Prop} (h : resL k cs K) : resF k cs K := by
 unfold resL at h
 refine ⟨fun e1 => ?_, fun e1 => ?_, fun e1 => ?_, fun e1 => ?_, fun e1 => ?_, fun e1 => ?_⟩ <;> (rw [e1] at h; exact h)
def TFields : HTrans := fun H args K => match H, args with
 | [.box t [.pl (.int .i64 k), .pl (.int .i64 a), .pl (.int .i64 b), .pl (.int .i64 c), .rows 1 n1 f1, .rows 1 n2 f2, .pl (.string s1), .rows 2 n3 f3, .rows 3 n4 f4, .pl (.int .u32 x), .pl (.string s2), .pl (.int .i64 d), .pl (.int .i64 e), .pl (.int .u32 y), .pl (.string s3), .iarr .u8 32 o, .iarr .u8 32 w, .rows 1 n5 f5]], [.ptr 0 0 0 0] => t = tyEv /\ resF k [.pl (.int .i64 k), .pl (.int .i64 a), .pl (.int .i64 b), .pl (.int .i64 c), .rows 1 n1 f1, .rows 1 n2 f2, .pl (.string s1), .rows 2 n3 f3, .rows 3 n4 f4, .pl (.int .u32 x), .pl (.string s2), .pl (.int .i64 d), .pl (.int .i64 e), .pl (.int .u32 y), .pl (.string s3), .iarr .u8 32 o, .iarr .u8 32 w, .rows 1 n5 f5] K
 | [.box t [.pl (.int .i64 k), .pl (.int .i64 a), .pl (.int .i64 b), .pl (.int .i64 c), .pl (.slice none 0 0), .pl (.slice none 0 0), .pl (.string s1), .pl (.slice none 0 0), .pl (.slice none 0 0), .pl (.int .u32 x), .pl (.string s2), .pl (.int .i64 d), .pl (.int .i64 e), .pl (.int .u32 y), .pl (.string s3), .iarr .u8 32 o, .iarr .u8 32 w, .pl (.slice none 0 0)]], [.ptr 0 0 0 0] => t = tyEv /\ resF k [.pl (.int .i64 k), .pl (.int .i64 a), .pl (.int .i64 b), .pl (.int .i64 c), .pl (.slice none 0 0), .pl (.slice none 0 0), .pl (.string s1), .pl (.slice none 0 0), .pl (.slice none 0 0), .pl (.int .u32 x), .pl (.string s2), .pl (.int .i64 d), .pl (.int .i64 e), .pl (.int .u32 y), .pl (.string s3), .iarr .u8 32 o, .iarr .u8 32 w, .pl (.slice none 0 0)] K
 | _, _ => False
def TFieldsL : HTrans := fun H args K => match H, args with
 | [.box t [.pl (.int .i64 k), .pl (.int .i64 a), .pl (.int .i64 b), .pl (.int .i64 c), .rows 1 n1 f1, .rows 1 n2 f2, .pl (.string s1), .rows 2 n3 f3, .rows 3 n4 f4, .pl (.int .u32 x), .pl (.string s2), .pl (.int .i64 d), .pl (.int .i64 e), .pl (.int .u32 y), .pl (.string s3), .iarr .u8 32 o, .iarr .u8 32 w, .rows 1 n5 f5]], [.ptr 0 0 0 0] => t = tyEv /\ resL k [.pl (.int .i64 k), .pl (.int .i64 a), .pl (.int .i64 b), .pl (.int .i64 c), .rows 1 n1 f1, .rows 1 n2 f2, .pl (.string s1), .rows 2 n3 f3, .rows 3 n4 f4, .pl (.int .u32 x), .pl (.string s2), .pl (.int .i64 d), .pl (.int .i64 e), .pl (.int .u32 y), .pl (.string s3), .iarr .u8 32 o, .iarr .u8 32 w, .rows 1 n5 f5] K
 | [.box t [.pl (.int .i64 k), .pl (.int .i64 a), .pl (.int .i64 b), .pl (.int .i64 c), .pl (.slice none 0 0), .pl (.slice none 0 0), .pl (.string s1), .pl (.slice none 0 0), .pl (.slice none 0 0), .pl (.int .u32 x), .pl (.string s2), .pl (.int .i64 d), .pl (.int .i64 e), .pl (.int .u32 y), .pl (.string s3), .iarr .u8 32 o, .iarr .u8 32 w, .pl (.slice none 0 0)]], [.ptr 0 0 0 0] => t = tyEv /\ resL k [.pl (.int .i64 k), .pl (.int .i64 a), .pl (.int .i64 b), .pl (.int .i64 c), .pl (.slice none 0 0), .pl (.slice none 0 0), .pl (.string s1), .pl (.slice none 0 0), .pl (.slice none 0 0), .pl (.int .u32 x), .pl (.string s2), .pl (.int .i64 d), .pl (.int .i64 e), .pl (.int .u32 y), .pl (.string s3), .iarr .u8 32 o, .iarr .u8 32 w, .pl (.slice none 0 0)] K
 | _, _ => False
def cellsK (k : Int) (e : Ev) : List AV := [nm k, nm e.node, nm e.to, nm e.n, .rows 1 e.keep.length (boolF e.keep), .rows 1 e.conf.length (intF e.conf), sl e.branch, .rows 2 e.map.length (rowF e.map), .rows 3 e.edit.length (chgF e.edit), .pl (.int .u32 e.author), sl e.note, nm e.ck, nm e.client, .pl (.int .u32 e.seq), sl e.cbranch, .iarr .u8 32 e.old, .iarr .u8 32 e.new, .rows 1 e.data.length (byteF (bs e.data))]
def IsBools (x : AV) (l : List Bool) : Prop := leA (idN 0) x (.rows 1 l.length (boolF l))
def IsMap (x : AV) (l : List (Bs × Bs)) : Prop := leA (idN 0) x (.rows 2 l.length (rowF l))
def IsEdit (x : AV) (l : List (Bs × Bool × Bs)) : Prop := leA (idN 0) x (.rows 3 l.length (chgF l))
def IsRow8 (x : AV) (l : Bs) : Prop := leA (idN 0) x (.rows 1 l.length (byteF (bs l)))
def TEqBool : Trans := fun args K => match args with
 | [x, y] => ∃ a b : List Bool, (IsBools x a /\ IsBools y b) /\ K (bl (a == b)) []
 | _ => False
def IsInts0 (x : AV) (l : List Int) : Prop := leA (idN 0) x (.rows 1 l.length (intF l))
def TEqInt : Trans := fun args K => match args with
 | [x, y] => ∃ a b : List Int, (IsInts0 x a /\ IsInts0 y b) /\ K (bl (a == b)) []
 | _ => False
def TEqMap : Trans := fun args K => match args with
 | [x, y] => ∃ a b : List (Bs × Bs), (IsMap x a /\ IsMap y b) /\ K (bl (a == b)) []
 | _ => False
def TEqEdit : Trans := fun args K => match args with
 | [x, y] => ∃ a b : List (Bs × Bool × Bs), (IsEdit x a /\ IsEdit y b) /\ K (bl (a == b)) []
 | _ => False
def TSameMap : Trans := fun args K => match args with
 | [.agg [x], .agg [y]] => ∃ a b : List (Bs × Bs), (IsMap x a /\ IsMap y b) /\ K (bl (a == b)) []
 | _ => False
def TSameEdit : Trans := fun args K => match args with
 | [.agg [x], .agg [y]] => ∃ a b : List (Bs × Bool × Bs), (IsEdit x a /\ IsEdit y b) /\ K (bl (a == b)) []
 | _ => False
def TEqBytes : Trans := fun args K => match args with
 | [x, y] => ∃ a b : Bs, (IsRow8 x a /\ IsRow8 y b) /\ K (bl (a == b)) []
 | _ => False
def TSameEv : Trans := fun args K => match args with
 | [x, y] => ∃ a b : Ev, (IsEv x a /\ IsEv y b) /\ K (bl (sameE a b)) []
 | _ => False
def TSpoken : Trans := fun args K => match args with
 | [x] => ∃ e : Ev, (IsEv x e /\ 1 <= e.kind /\ e.kind <= 15) /\ K (spokenE e).av []
 | _ => False
def TLong : Trans := fun args K => match args with
 | [x] => ∃ ls : List Bs, (IsTexts x ls /\ ls.length <= 1000) /\ K (bl (ls.any longB)) []
 | _ => False
def TWrong : Trans := fun args K => match args with
 | [x] => ∃ e : Ev, IsEv x e /\ K (bl (wrongE e)) []
 | _ => False
def evAt (l : List Ev) (i : Nat) : Ev := l.getD i ev0
def evF (l : List Ev) (i : Nat) : AV := (evAt l i).av
def evsAV (l : List Ev) : AV := .rows 80 l.length (evF l)
def IsEvs (x : AV) (l : List Ev) : Prop := leR x (evsAV l)
theorem isEvs_self (l : List Ev) : IsEvs (evsAV l) l := ⟨rfl, rfl, fun i _ => (⟨rfl, rfl, rfl, rfl, ⟨rfl, rfl, fun _ _ => rfl⟩, ⟨rfl, rfl, fun _ _ => rfl⟩, rfl, ⟨rfl, rfl, fun _ _ => rfl⟩, ⟨rfl, rfl, fun _ _ => rfl⟩, rfl, rfl, rfl, rfl, rfl, rfl, ⟨rfl, rfl, fun _ _ => rfl⟩, ⟨rfl, rfl, fun _ _ => rfl⟩, ⟨rfl, rfl, fun _ _ => rfl⟩, trivial⟩ : leA [] (evAt l i).av (evAt l i).av)⟩
theorem isEv_self (e : Ev) : IsEv e.av e := ⟨rfl, rfl, rfl, rfl, ⟨rfl, rfl, fun _ _ => rfl⟩, ⟨rfl, rfl, fun _ _ => rfl⟩, rfl, ⟨rfl, rfl, fun _ _ => rfl⟩, ⟨rfl, rfl, fun _ _ => rfl⟩, rfl, rfl, rfl, rfl, rfl, rfl, ⟨rfl, rfl, fun _ _ => rfl⟩, ⟨rfl, rfl, fun _ _ => rfl⟩, ⟨rfl, rfl, fun _ _ => rfl⟩, trivial⟩
abbrev fnWrong : AV := .pl (.func (.func 38) ⟨[]⟩ ⟨[]⟩)
def idxW (l : List Ev) : Int := match l.findIdx? wrongE with
 | some i => (i : Int)
 | none => -1
def TIdxW : Trans := fun args K => match args with
 | [x, .pl (.func (.func 38) ⟨[]⟩ ⟨[]⟩)] => ∃ l : List Ev, IsEvs x l /\ K (nm (idxW l)) []
 | _ => False
def TContW : Trans := fun args K => match args with
 | [x, .pl (.func (.func 38) ⟨[]⟩ ⟨[]⟩)] => ∃ l : List Ev, IsEvs x l /\ K (bl (l.any wrongE)) []
 | _ => False
def TCheck : Trans := fun args K => match args with
 | [.agg [.pl (.int .i64 _), .pl (.int .i64 _), .pl (.int .i64 _), x]] => ∃ l : List Ev, IsEvs x l /\ K (nm (checkE l)) []
 | _ => False
end Go.Proofs.Sd

namespace Go.Proofs.Sd
open Go Go.Am Go.SP
def boolsAV (l : List Bool) : AV := .rows 1 l.length (boolF l)
def ints0AV (l : List Int) : AV := .rows 1 l.length (intF l)
def mapAV (l : List (Bs × Bs)) : AV := .rows 2 l.length (rowF l)
def editAV (l : List (Bs × Bool × Bs)) : AV := .rows 3 l.length (chgF l)
def row8AV (l : Bs) : AV := .rows 1 l.length (byteF (bs l))
def fn59 : AV := .pl (.func (.func 59) ⟨[]⟩ ⟨[]⟩)
def TLong1 : Trans := fun args K => match args with
 | [.pl (.string s)] => K (bl (longB s.data.toList)) []
 | _ => False
def TContL : Trans := fun args K => match args with
 | [x, .pl (.func (.func 59) ⟨[]⟩ ⟨[]⟩)] => ∃ ls : List Bs, (IsTexts x ls /\ ls.length <= 1000) /\ K (bl (ls.any longB)) []
 | _ => False
def idxL1 (ls : List Bs) : Int := match ls.findIdx? longB with
 | some i => (i : Int)
 | none => -1
def TIdxF : Trans := fun args K => match args with
 | [x, .pl (.func (.func 59) ⟨[]⟩ ⟨[]⟩)] => ∃ ls : List Bs, (IsTexts x ls /\ ls.length <= 1000) /\ K (nm (idxL1 ls)) []
 | _ => False
end Go.Proofs.Sd

namespace Go.Proofs.Sd
open Go Go.Am Go.SP
theorem vWords (R : AV -> List LObj -> Prop) :
  (vcA false false 0 [] Tryd.prog (mkTab []) (optC (Tryd.f39.body.getD .skip)) ([]) (finalK Tryd.prog Tryd.f39 (fun y H => ∃ _ : Unit, leSt 0 ⟨[y], H⟩ ⟨[.own 0 0 16], [.row 1 tyStr 16 wordF]⟩ (R (.own 0 0 16) [.row 1 tyStr 16 wordF]))) (startSt Tryd.f39 ([]))) = (
 True /\ (True /\ True) /\ True /\ ∃ (x : Unit), ((True /\ 0 = 0 /\ 16 = 16) /\ True) /\ ((1 = 1 /\ 9 = 9 /\ Nat.le (16 : Nat) (16 : Nat) /\ ∀ (i : Nat), i < (16 : Nat) ->
 rowOf [((0 : Nat), AV.pl (Value.string (ByteArray.mk #[]))), ((1 : Nat), AV.pl (Value.string (ByteArray.mk #[116, 105, 99, 107]))), ((2 : Nat), AV.pl (Value.string (ByteArray.mk #[100, 101, 108, 105, 118, 101, 114]))), ((3 : Nat), AV.pl (Value.string (ByteArray.mk #[108, 111, 115, 101]))), ((4 : Nat), AV.pl (Value.string
 (ByteArray.mk #[100, 111, 117, 98, 108, 101]))), ((5 : Nat), AV.pl (Value.string (ByteArray.mk #[(112
 : UInt8), (97 : UInt8), (114 : UInt8), (116 : UInt8)]))), ((6 : Nat), AV.pl (Value.string (ByteArray.mk #[109, 101, 110, 100]))), ((7 : Nat), AV.pl (Value.string (ByteArray.mk #[97, 114, 109]))), ((8 : Nat), AV.pl (Value.string (ByteArray.mk #[99, 114, 97, 115, 104]))), ((9 : Nat), AV.pl (Value.string (ByteArray.mk #[111, 112, 101, 110]))), ((10 : Nat), AV.pl (Value.string (ByteArray.mk #[99, 104, 97, 110, 103, 101]))), ((11 : Nat), AV.pl (Value.string (ByteArray.mk #[114, 111, 111, 116]))), ((12 : Nat), AV.pl (Value.string
 (ByteArray.mk #[99, 111, 109, 109, 105, 116]))), ((13 : Nat), AV.pl (Value.string (ByteArray.mk
 #[(115 : UInt8), (121 : UInt8), (110 : UInt8), (99 : UInt8)]))), ((14 : Nat), AV.pl (Value.string (ByteArray.mk #[100, 111]))), ((15 : Nat),
 AV.pl (Value.string (ByteArray.mk #[97, 115, 107])))] i = sl (wordsL.getD i [])) /\ True) /\ R (AV.own 0 0 16) [LObj.row 1 9 16
 wordF]) := by kernel_rfl
theorem vIdxT (w : Bs) (ls : List Bs) (inv : Nat -> Prop) (R : AV -> List LObj -> Prop) :
  (vcA false false 0 [] Tryd.prog (mkTab []) (optC (Tryd.f45.body.getD .skip)) ([.loop 2 Nat inv (fun i => ⟨slotsOf 19 0 [(0, textsAV ls), (1, sl w), (7, nm ls.length), (8, nm i)], []⟩) (fun i => ls.length - i) (fun _ => [])]) (finalK Tryd.prog Tryd.f45 (R)) (startSt Tryd.f45 ([textsAV ls, sl w]))) = (
 (∃ (x : Nat), ((1 = 1 /\ ls.length = ls.length /\ ∀ (i : Nat), i < ls.length -> sl (ls.getD i []) = sl (ls.getD i [])) /\ bs w = bs w /\ (ls.length : Int) =
 (ls.length : Int) /\ (0 : Int) = (x : Int) /\ True) /\ True /\ inv x) /\ ∀ (x : Nat), inv x -> (decide ((x : Int) < (ls.length : Int)) = true -> ((0 : Int) <= (↑x :
 Int) /\ (x : Int) + (1 : Int) <= (ls.length : Int)) /\ (((bs w).toList == (bs (ls.getD (x : Int).toNat [])).toList) = true -> (True /\ True) /\ True /\ R (nm (↑x :
 Int)) []) /\ (((bs w).toList == (bs (ls.getD (x : Int).toNat [])).toList) = false -> ∃ (y : Nat), ((1 = 1 /\ ls.length = ls.length /\ ∀ (i : Nat), i < ls.length ->
 sl (ls.getD i []) = sl (ls.getD i [])) /\ bs w = bs w /\ (ls.length : Int) = (ls.length : Int) /\ IntKind.i64.wrap ((x : Int) + (1 : Int)) = (y : Int) /\ True) /\
 True /\ inv y /\ (ls.length - y).succ.le (ls.length - x))) /\ (decide ((x : Int) < (ls.length : Int)) = false -> (True /\ True) /\ True /\ R (nm (-1 : Int)) [])) := by kernel_rfl
theorem vStamped (k : Int) (f g : Nat -> Int) (R : AV -> List LObj -> Prop) :
  (vcA false false 0 [] Tryd.prog (mkTab []) (optC (Tryd.f41.body.getD .skip)) ([]) (finalK Tryd.prog Tryd.f41 (R)) (startSt Tryd.f41 ([.agg [nm k, .any, .any, .any, .any, .any, .any, .any, .any, .any, .any, .any, .any, .any, .any, .iarr .u8 32 f, .iarr .u8 32 g, .any]]))) = (
 True /\ (True /\ True) /\ True /\ R (bl (bif bif k == (11 : Int) then true else k == (12 : Int) then true else k == (13 : Int))) []) := by kernel_rfl
theorem vFieldsR (k a b c d e x y : Int) (s1 s2 s3 : ByteArray) (n1 n2 n3 n4 n5 : Nat) (f1 f2 f3 f4 f5 : Nat -> AV) (o w : Nat -> Int) (R : AV -> List LObj -> Prop) :
  (vcA false false (List.length ([.box tyEv [.pl (.int .i64 k), .pl (.int .i64 a), .pl (.int .i64 b), .pl (.int .i64 c), .rows 1 n1 f1, .rows 1 n2 f2, .pl (.string s1), .rows 2 n3 f3, .rows 3 n4 f4, .pl (.int .u32 x), .pl (.string s2), .pl (.int .i64 d), .pl (.int .i64 e), .pl (.int .u32 y), .pl (.string s3), .iarr .u8 32 o, .iarr .u8 32 w, .rows 1 n5 f5]] : List LObj)) [] Tryd.prog (mkTab []) (optC (Tryd.f40.body.getD .skip)) ([]) (finalKH Tryd.prog Tryd.f40 (R)) (startStH Tryd.f40 ([.box tyEv [.pl (.int .i64 k), .pl (.int .i64 a), .pl (.int .i64 b), .pl (.int .i64 c), .rows 1 n1 f1, .rows 1 n2 f2, .pl (.string s1), .rows 2 n3 f3, .rows 3 n4 f4, .pl (.int .u32 x), .pl (.string s2), .pl (.int .i64 d), .pl (.int .i64 e), .pl (.int .u32 y), .pl (.string s3), .iarr .u8 32 o, .iarr .u8 32 w, .rows 1 n5 f5]]) ([.ptr 0 0 0 0]))) = (
 ((k == (1 : Int)) = true -> (True /\ True) /\ R (AV.own 1 0 2) [LObj.box 64 [nm k, nm a, nm b, nm c, AV.rows 1 n1 f1, AV.rows 1 n2 f2, AV.pl (Value.string s1),
 AV.rows 2 n3 f3, AV.rows 3 n4 f4, AV.pl (Value.int IntKind.u32 x), AV.pl (Value.string s2), nm d, nm e, AV.pl (Value.int IntKind.u32 y), AV.pl (Value.string s3),
 AV.iarr IntKind.u8 32 o, AV.iarr IntKind.u8 32 w, AV.rows 1 n5 f5], LObj.prow 96 [AV.ptr 0 0 1 0, AV.ptr 0 0 3 0]]) /\ ((k == (1 : Int)) = false -> ((k == (7 :
 Int)) = true -> (True /\ True) /\ R (AV.own 1 0 2) [LObj.box 64 [nm k, nm a, nm b, nm c, AV.rows 1 n1 f1, AV.rows 1 n2 f2, AV.pl (Value.string s1), AV.rows 2 n3 f3,
 AV.rows 3 n4 f4, AV.pl (Value.int IntKind.u32 x), AV.pl (Value.string s2), nm d, nm e, AV.pl (Value.int IntKind.u32 y), AV.pl (Value.string s3), AV.iarr
 IntKind.u8 32 o, AV.iarr IntKind.u8 32 w, AV.rows 1 n5 f5], LObj.prow 96 [AV.ptr 0 0 1 0, AV.ptr 0 0 3 0]]) /\ ((k == (7 : Int)) = false -> ((k == (9 : Int)) =
 true -> (True /\ True) /\ R (AV.own 1 0 2) [LObj.box 64 [nm k, nm a, nm b, nm c, AV.rows 1 n1 f1, AV.rows 1 n2 f2, AV.pl (Value.string s1), AV.rows 2 n3 f3, AV.rows
 3 n4 f4, AV.pl (Value.int IntKind.u32 x), AV.pl (Value.string s2), nm d, nm e, AV.pl (Value.int IntKind.u32 y), AV.pl (Value.string s3), AV.iarr IntKind.u8 32 o,
 AV.iarr IntKind.u8 32 w, AV.rows 1 n5 f5], LObj.prow 96 [AV.ptr 0 0 1 0, AV.ptr 0 0 3 0]]) /\ ((k == (9 : Int)) = false -> ((k == (2 : Int)) = true -> (True /\ True)
 /\ R (AV.own 1 0 1) [LObj.box 64 [nm k, nm a, nm b, nm c, AV.rows 1 n1 f1, AV.rows 1 n2 f2, AV.pl (Value.string s1), AV.rows 2 n3 f3, AV.rows 3 n4 f4, AV.pl
 (Value.int IntKind.u32 x), AV.pl (Value.string s2), nm d, nm e, AV.pl (Value.int IntKind.u32 y), AV.pl (Value.string s3), AV.iarr IntKind.u8 32 o, AV.iarr
 IntKind.u8 32 w, AV.rows 1 n5 f5], LObj.prow 96 [AV.ptr 0 0 3 0]]) /\ ((k == (2 : Int)) = false -> ((k == (3 : Int)) = true -> (True /\ True) /\ R (AV.own 1 0 1)
 [LObj.box 64 [nm k, nm a, nm b, nm c, AV.rows 1 n1 f1, AV.rows 1 n2 f2, AV.pl (Value.string s1), AV.rows 2 n3 f3, AV.rows 3 n4 f4, AV.pl (Value.int IntKind.u32
 x), AV.pl (Value.string s2), nm d, nm e, AV.pl (Value.int IntKind.u32 y), AV.pl (Value.string s3), AV.iarr IntKind.u8 32 o, AV.iarr IntKind.u8 32 w, AV.rows 1 n5
 f5], LObj.prow 96 [AV.ptr 0 0 3 0]]) /\ ((k == (3 : Int)) = false -> ((k == (4 : Int)) = true -> (True /\ True) /\ R (AV.own 1 0 1) [LObj.box 64 [nm k, nm a, nm b, nm
 c, AV.rows 1 n1 f1, AV.rows 1 n2 f2, AV.pl (Value.string s1), AV.rows 2 n3 f3, AV.rows 3 n4 f4, AV.pl (Value.int IntKind.u32 x), AV.pl (Value.string s2), nm d,
 nm e, AV.pl (Value.int IntKind.u32 y), AV.pl (Value.string s3), AV.iarr IntKind.u8 32 o, AV.iarr IntKind.u8 32 w, AV.rows 1 n5 f5], LObj.prow 96 [AV.ptr 0 0 3
 0]]) /\ ((k == (4 : Int)) = false -> ((k == (5 : Int)) = true -> (True /\ True) /\ R (AV.own 1 0 2) [LObj.box 64 [nm k, nm a, nm b, nm c, AV.rows 1 n1 f1, AV.rows 1
 n2 f2, AV.pl (Value.string s1), AV.rows 2 n3 f3, AV.rows 3 n4 f4, AV.pl (Value.int IntKind.u32 x), AV.pl (Value.string s2), nm d, nm e, AV.pl (Value.int
 IntKind.u32 y), AV.pl (Value.string s3), AV.iarr IntKind.u8 32 o, AV.iarr IntKind.u8 32 w, AV.rows 1 n5 f5], LObj.prow 96 [AV.ptr 0 0 1 0, AV.ptr 0 0 2 0]]) /\
 ((k == (5 : Int)) = false -> ((k == (6 : Int)) = true -> (True /\ True) /\ R (AV.own 1 0 2) [LObj.box 64 [nm k, nm a, nm b, nm c, AV.rows 1 n1 f1, AV.rows 1 n2 f2,
 AV.pl (Value.string s1), AV.rows 2 n3 f3, AV.rows 3 n4 f4, AV.pl (Value.int IntKind.u32 x), AV.pl (Value.string s2), nm d, nm e, AV.pl (Value.int IntKind.u32 y),
 AV.pl (Value.string s3), AV.iarr IntKind.u8 32 o, AV.iarr IntKind.u8 32 w, AV.rows 1 n5 f5], LObj.prow 96 [AV.ptr 0 0 1 0, AV.ptr 0 0 2 0]]) /\ ((k == (6 : Int))
 = false -> ((k == (15 : Int)) = true -> (True /\ True) /\ R (AV.own 1 0 2) [LObj.box 64 [nm k, nm a, nm b, nm c, AV.rows 1 n1 f1, AV.rows 1 n2 f2, AV.pl
 (Value.string s1), AV.rows 2 n3 f3, AV.rows 3 n4 f4, AV.pl (Value.int IntKind.u32 x), AV.pl (Value.string s2), nm d, nm e, AV.pl (Value.int IntKind.u32 y), AV.pl
 (Value.string s3), AV.iarr IntKind.u8 32 o, AV.iarr IntKind.u8 32 w, AV.rows 1 n5 f5], LObj.prow 96 [AV.ptr 0 0 1 0, AV.ptr 0 0 2 0]]) /\ ((k == (15 : Int)) =
 false -> ((k == (8 : Int)) = true -> (True /\ True) /\ R (AV.own 1 0 1) [LObj.box 64 [nm k, nm a, nm b, nm c, AV.rows 1 n1 f1, AV.rows 1 n2 f2, AV.pl (Value.string
 s1), AV.rows 2 n3 f3, AV.rows 3 n4 f4, AV.pl (Value.int IntKind.u32 x), AV.pl (Value.string s2), nm d, nm e, AV.pl (Value.int IntKind.u32 y), AV.pl (Value.string
 s3), AV.iarr IntKind.u8 32 o, AV.iarr IntKind.u8 32 w, AV.rows 1 n5 f5], LObj.prow 96 [AV.ptr 0 0 1 0]]) /\ ((k == (8 : Int)) = false -> ((k == (10 : Int)) = true
 -> (True /\ True) /\ R (AV.own 1 0 1) [LObj.box 64 [nm k, nm a, nm b, nm c, AV.rows 1 n1 f1, AV.rows 1 n2 f2, AV.pl (Value.string s1), AV.rows 2 n3 f3, AV.rows 3 n4
 f4, AV.pl (Value.int IntKind.u32 x), AV.pl (Value.string s2), nm d, nm e, AV.pl (Value.int IntKind.u32 y), AV.pl (Value.string s3), AV.iarr IntKind.u8 32 o,
 AV.iarr IntKind.u8 32 w, AV.rows 1 n5 f5], LObj.prow 96 [AV.ptr 0 0 1 0]]) /\ ((k == (10 : Int)) = false -> ((k == (11 : Int)) = true -> (True /\ True) /\ R (AV.own 1
 0 1) [LObj.box 64 [nm k, nm a, nm b, nm c, AV.rows 1 n1 f1, AV.rows 1 n2 f2, AV.pl (Value.string s1), AV.rows 2 n3 f3, AV.rows 3 n4 f4, AV.pl (Value.int
 IntKind.u32 x), AV.pl (Value.string s2), nm d, nm e, AV.pl (Value.int IntKind.u32 y), AV.pl (Value.string s3), AV.iarr IntKind.u8 32 o, AV.iarr IntKind.u8 32 w,
 AV.rows 1 n5 f5], LObj.prow 96 [AV.ptr 0 0 1 0]]) /\ ((k == (11 : Int)) = false -> ((k == (12 : Int)) = true -> (True /\ True) /\ R (AV.own 1 0 1) [LObj.box 64 [nm k,
 nm a, nm b, nm c, AV.rows 1 n1 f1, AV.rows 1 n2 f2, AV.pl (Value.string s1), AV.rows 2 n3 f3, AV.rows 3 n4 f4, AV.pl (Value.int IntKind.u32 x), AV.pl
 (Value.string s2), nm d, nm e, AV.pl (Value.int IntKind.u32 y), AV.pl (Value.string s3), AV.iarr IntKind.u8 32 o, AV.iarr IntKind.u8 32 w, AV.rows 1 n5 f5],
 LObj.prow 96 [AV.ptr 0 0 1 0]]) /\ ((k == (12 : Int)) = false -> ((k == (13 : Int)) = true -> (True /\ True) /\ R (AV.own 1 0 1) [LObj.box 64 [nm k, nm a, nm b, nm c,
 AV.rows 1 n1 f1, AV.rows 1 n2 f2, AV.pl (Value.string s1), AV.rows 2 n3 f3, AV.rows 3 n4 f4, AV.pl (Value.int IntKind.u32 x), AV.pl (Value.string s2), nm d, nm
 e, AV.pl (Value.int IntKind.u32 y), AV.pl (Value.string s3), AV.iarr IntKind.u8 32 o, AV.iarr IntKind.u8 32 w, AV.rows 1 n5 f5], LObj.prow 96 [AV.ptr 0 0 1 0]])
 /\ ((k == (13 : Int)) = false -> ((k == (14 : Int)) = true -> (True /\ True) /\ R (AV.own 1 0 2) [LObj.box 64 [nm k, nm a, nm b, nm c, AV.rows 1 n1 f1, AV.rows 1 n2
 f2, AV.pl (Value.string s1), AV.rows 2 n3 f3, AV.rows 3 n4 f4, AV.pl (Value.int IntKind.u32 x), AV.pl (Value.string s2), nm d, nm e, AV.pl (Value.int IntKind.u32
 y), AV.pl (Value.string s3), AV.iarr IntKind.u8 32 o, AV.iarr IntKind.u8 32 w, AV.rows 1 n5 f5], LObj.prow 96 [AV.ptr 0 0 1 0, AV.ptr 0 0 11 0]]) /\ ((k == (14 :
 Int)) = false -> (True /\ True) /\ R nilS [LObj.box 64 [nm k, nm a, nm b, nm c, AV.rows 1 n1 f1, AV.rows 1 n2 f2, AV.pl (Value.string s1), AV.rows 2 n3 f3, AV.rows
 3 n4 f4, AV.pl (Value.int IntKind.u32 x), AV.pl (Value.string s2), nm d, nm e, AV.pl (Value.int IntKind.u32 y), AV.pl (Value.string s3), AV.iarr IntKind.u8 32 o,
 AV.iarr IntKind.u8 32 w, AV.rows 1 n5 f5]])))))))))))))))) := by kernel_rfl
theorem vFieldsZ (k a b c d e x y : Int) (s1 s2 s3 : ByteArray) (o w : Nat -> Int) (R : AV -> List LObj -> Prop) :
  (vcA false false (List.length ([.box tyEv [.pl (.int .i64 k), .pl (.int .i64 a), .pl (.int .i64 b), .pl (.int .i64 c), .pl (.slice none 0 0), .pl (.slice none 0 0), .pl (.string s1), .pl (.slice none 0 0), .pl (.slice none 0 0), .pl (.int .u32 x), .pl (.string s2), .pl (.int .i64 d), .pl (.int .i64 e), .pl (.int .u32 y), .pl (.string s3), .iarr .u8 32 o, .iarr .u8 32 w, .pl (.slice none 0 0)]] : List LObj)) [] Tryd.prog (mkTab []) (optC (Tryd.f40.body.getD .skip)) ([]) (finalKH Tryd.prog Tryd.f40 (R)) (startStH Tryd.f40 ([.box tyEv [.pl (.int .i64 k), .pl (.int .i64 a), .pl (.int .i64 b), .pl (.int .i64 c), .pl (.slice none 0 0), .pl (.slice none 0 0), .pl (.string s1), .pl (.slice none 0 0), .pl (.slice none 0 0), .pl (.int .u32 x), .pl (.string s2), .pl (.int .i64 d), .pl (.int .i64 e), .pl (.int .u32 y), .pl (.string s3), .iarr .u8 32 o, .iarr .u8 32 w, .pl (.slice none 0 0)]]) ([.ptr 0 0 0 0]))) = (
 ((k == (1 : Int)) = true -> (True /\ True) /\ R (AV.own 1 0 2) [LObj.box 64 [nm k, nm a, nm b, nm c, nilS, nilS, AV.pl (Value.string s1), nilS, nilS, AV.pl
 (Value.int IntKind.u32 x), AV.pl (Value.string s2), nm d, nm e, AV.pl (Value.int IntKind.u32 y), AV.pl (Value.string s3), AV.iarr IntKind.u8 32 o, AV.iarr
 IntKind.u8 32 w, nilS], LObj.prow 96 [AV.ptr 0 0 1 0, AV.ptr 0 0 3 0]]) /\ ((k == (1 : Int)) = false -> ((k == (7 : Int)) = true -> (True /\ True) /\ R (AV.own 1 0 2)
 [LObj.box 64 [nm k, nm a, nm b, nm c, nilS, nilS, AV.pl (Value.string s1), nilS, nilS, AV.pl (Value.int IntKind.u32 x), AV.pl (Value.string s2), nm d, nm e,
 AV.pl (Value.int IntKind.u32 y), AV.pl (Value.string s3), AV.iarr IntKind.u8 32 o, AV.iarr IntKind.u8 32 w, nilS], LObj.prow 96 [AV.ptr 0 0 1 0, AV.ptr 0 0 3
 0]]) /\ ((k == (7 : Int)) = false -> ((k == (9 : Int)) = true -> (True /\ True) /\ R (AV.own 1 0 2) [LObj.box 64 [nm k, nm a, nm b, nm c, nilS, nilS, AV.pl
 (Value.string s1), nilS, nilS, AV.pl (Value.int IntKind.u32 x), AV.pl (Value.string s2), nm d, nm e, AV.pl (Value.int IntKind.u32 y), AV.pl (Value.string s3),
 AV.iarr IntKind.u8 32 o, AV.iarr IntKind.u8 32 w, nilS], LObj.prow 96 [AV.ptr 0 0 1 0, AV.ptr 0 0 3 0]]) /\ ((k == (9 : Int)) = false -> ((k == (2 : Int)) = true ->
 (True /\ True) /\ R (AV.own 1 0 1) [LObj.box 64 [nm k, nm a, nm b, nm c, nilS, nilS, AV.pl (Value.string s1), nilS, nilS, AV.pl (Value.int IntKind.u32 x), AV.pl
 (Value.string s2), nm d, nm e, AV.pl (Value.int IntKind.u32 y), AV.pl (Value.string s3), AV.iarr IntKind.u8 32 o, AV.iarr IntKind.u8 32 w, nilS], LObj.prow 96
 [AV.ptr 0 0 3 0]]) /\ ((k == (2 : Int)) = false -> ((k == (3 : Int)) = true -> (True /\ True) /\ R (AV.own 1 0 1) [LObj.box 64 [nm k, nm a, nm b, nm c, nilS, nilS,
 AV.pl (Value.string s1), nilS, nilS, AV.pl (Value.int IntKind.u32 x), AV.pl (Value.string s2), nm d, nm e, AV.pl (Value.int IntKind.u32 y), AV.pl (Value.string
 s3), AV.iarr IntKind.u8 32 o, AV.iarr IntKind.u8 32 w, nilS], LObj.prow 96 [AV.ptr 0 0 3 0]]) /\ ((k == (3 : Int)) = false -> ((k == (4 : Int)) = true -> (True /\
 True) /\ R (AV.own 1 0 1) [LObj.box 64 [nm k, nm a, nm b, nm c, nilS, nilS, AV.pl (Value.string s1), nilS, nilS, AV.pl (Value.int IntKind.u32 x), AV.pl
 (Value.string s2), nm d, nm e, AV.pl (Value.int IntKind.u32 y), AV.pl (Value.string s3), AV.iarr IntKind.u8 32 o, AV.iarr IntKind.u8 32 w, nilS], LObj.prow 96
 [AV.ptr 0 0 3 0]]) /\ ((k == (4 : Int)) = false -> ((k == (5 : Int)) = true -> (True /\ True) /\ R (AV.own 1 0 2) [LObj.box 64 [nm k, nm a, nm b, nm c, nilS, nilS,
 AV.pl (Value.string s1), nilS, nilS, AV.pl (Value.int IntKind.u32 x), AV.pl (Value.string s2), nm d, nm e, AV.pl (Value.int IntKind.u32 y), AV.pl (Value.string
 s3), AV.iarr IntKind.u8 32 o, AV.iarr IntKind.u8 32 w, nilS], LObj.prow 96 [AV.ptr 0 0 1 0, AV.ptr 0 0 2 0]]) /\ ((k == (5 : Int)) = false -> ((k == (6 : Int)) =
 true -> (True /\ True) /\ R (AV.own 1 0 2) [LObj.box 64 [nm k, nm a, nm b, nm c, nilS, nilS, AV.pl (Value.string s1), nilS, nilS, AV.pl (Value.int IntKind.u32 x),
 AV.pl (Value.string s2), nm d, nm e, AV.pl (Value.int IntKind.u32 y), AV.pl (Value.string s3), AV.iarr IntKind.u8 32 o, AV.iarr IntKind.u8 32 w, nilS], LObj.prow
 96 [AV.ptr 0 0 1 0, AV.ptr 0 0 2 0]]) /\ ((k == (6 : Int)) = false -> ((k == (15 : Int)) = true -> (True /\ True) /\ R (AV.own 1 0 2) [LObj.box 64 [nm k, nm a, nm b,
 nm c, nilS, nilS, AV.pl (Value.string s1), nilS, nilS, AV.pl (Value.int IntKind.u32 x), AV.pl (Value.string s2), nm d, nm e, AV.pl (Value.int IntKind.u32 y),
 AV.pl (Value.string s3), AV.iarr IntKind.u8 32 o, AV.iarr IntKind.u8 32 w, nilS], LObj.prow 96 [AV.ptr 0 0 1 0, AV.ptr 0 0 2 0]]) /\ ((k == (15 : Int)) = false ->
 ((k == (8 : Int)) = true -> (True /\ True) /\ R (AV.own 1 0 1) [LObj.box 64 [nm k, nm a, nm b, nm c, nilS, nilS, AV.pl (Value.string s1), nilS, nilS, AV.pl
 (Value.int IntKind.u32 x), AV.pl (Value.string s2), nm d, nm e, AV.pl (Value.int IntKind.u32 y), AV.pl (Value.string s3), AV.iarr IntKind.u8 32 o, AV.iarr
 IntKind.u8 32 w, nilS], LObj.prow 96 [AV.ptr 0 0 1 0]]) /\ ((k == (8 : Int)) = false -> ((k == (10 : Int)) = true -> (True /\ True) /\ R (AV.own 1 0 1) [LObj.box 64
 [nm k, nm a, nm b, nm c, nilS, nilS, AV.pl (Value.string s1), nilS, nilS, AV.pl (Value.int IntKind.u32 x), AV.pl (Value.string s2), nm d, nm e, AV.pl (Value.int
 IntKind.u32 y), AV.pl (Value.string s3), AV.iarr IntKind.u8 32 o, AV.iarr IntKind.u8 32 w, nilS], LObj.prow 96 [AV.ptr 0 0 1 0]]) /\ ((k == (10 : Int)) = false ->
 ((k == (11 : Int)) = true -> (True /\ True) /\ R (AV.own 1 0 1) [LObj.box 64 [nm k, nm a, nm b, nm c, nilS, nilS, AV.pl (Value.string s1), nilS, nilS, AV.pl
 (Value.int IntKind.u32 x), AV.pl (Value.string s2), nm d, nm e, AV.pl (Value.int IntKind.u32 y), AV.pl (Value.string s3), AV.iarr IntKind.u8 32 o, AV.iarr
 IntKind.u8 32 w, nilS], LObj.prow 96 [AV.ptr 0 0 1 0]]) /\ ((k == (11 : Int)) = false -> ((k == (12 : Int)) = true -> (True /\ True) /\ R (AV.own 1 0 1) [LObj.box 64
 [nm k, nm a, nm b, nm c, nilS, nilS, AV.pl (Value.string s1), nilS, nilS, AV.pl (Value.int IntKind.u32 x), AV.pl (Value.string s2), nm d, nm e, AV.pl (Value.int
 IntKind.u32 y), AV.pl (Value.string s3), AV.iarr IntKind.u8 32 o, AV.iarr IntKind.u8 32 w, nilS], LObj.prow 96 [AV.ptr 0 0 1 0]]) /\ ((k == (12 : Int)) = false ->
 ((k == (13 : Int)) = true -> (True /\ True) /\ R (AV.own 1 0 1) [LObj.box 64 [nm k, nm a, nm b, nm c, nilS, nilS, AV.pl (Value.string s1), nilS, nilS, AV.pl
 (Value.int IntKind.u32 x), AV.pl (Value.string s2), nm d, nm e, AV.pl (Value.int IntKind.u32 y), AV.pl (Value.string s3), AV.iarr IntKind.u8 32 o, AV.iarr
 IntKind.u8 32 w, nilS], LObj.prow 96 [AV.ptr 0 0 1 0]]) /\ ((k == (13 : Int)) = false -> ((k == (14 : Int)) = true -> (True /\ True) /\ R (AV.own 1 0 2) [LObj.box 64
 [nm k, nm a, nm b, nm c, nilS, nilS, AV.pl (Value.string s1), nilS, nilS, AV.pl (Value.int IntKind.u32 x), AV.pl (Value.string s2), nm d, nm e, AV.pl (Value.int
 IntKind.u32 y), AV.pl (Value.string s3), AV.iarr IntKind.u8 32 o, AV.iarr IntKind.u8 32 w, nilS], LObj.prow 96 [AV.ptr 0 0 1 0, AV.ptr 0 0 11 0]]) /\ ((k == (14 :
 Int)) = false -> (True /\ True) /\ R nilS [LObj.box 64 [nm k, nm a, nm b, nm c, nilS, nilS, AV.pl (Value.string s1), nilS, nilS, AV.pl (Value.int IntKind.u32 x),
 AV.pl (Value.string s2), nm d, nm e, AV.pl (Value.int IntKind.u32 y), AV.pl (Value.string s3), AV.iarr IntKind.u8 32 o, AV.iarr IntKind.u8 32 w,
 nilS]])))))))))))))))) := by kernel_rfl
theorem vEqBool (a b : List Bool) (inv : Nat -> Prop) (R : AV -> List LObj -> Prop) :
  (vcA false false 0 [] Tryd.prog (mkTab []) (optC (Tryd.f13.body.getD .skip)) ([.loop 4 Nat inv (fun i => ⟨slotsOf 26 0 [(0, boolsAV a), (1, boolsAV b), (11, boolsAV a), (12, nm a.length), (13, nm i)], []⟩) (fun i => a.length - i) (fun _ => [])]) (finalK Tryd.prog Tryd.f13 (R)) (startSt Tryd.f13 ([boolsAV a, boolsAV b]))) = (
 (((a.length : Int) != (b.length : Int)) = true -> (True /\ True) /\ True /\ R (bl false) []) /\ (((a.length : Int) != (b.length : Int)) = false -> (∃ (x : Nat),
 ((1 = 1 /\ a.length = a.length /\ ∀ (i : Nat), i < a.length -> boolF a i = boolF a i) /\ (1 = 1 /\ b.length = b.length /\ ∀ (i : Nat), i < b.length -> boolF b i = boolF
 b i) /\ (1 = 1 /\ a.length = a.length /\ ∀ (i : Nat), i < a.length -> boolF a i = boolF a i) /\ (a.length : Int) = (a.length : Int) /\ (0 : Int) = (x : Int) /\ True)
 /\ True /\ inv x) /\ ∀ (x : Nat), inv x -> (decide ((x : Int) < (a.length : Int)) = true -> ((0 : Int) <= (x : Int) /\ (x : Int) + (1 : Int) <= (a.length : Int)) /\
 ((0 : Int) <= (x : Int) /\ (x : Int) + (1 : Int) <= (a.length : Int)) /\ ((0 : Int) <= (x : Int) /\ (x : Int) + (1 : Int) <= (b.length : Int)) /\ ((0 : Int) <= (↑x
 : Int) /\ (x : Int) + (1 : Int) <= (b.length : Int)) /\ ((!a.getD (x : Int).toNat false == b.getD (x : Int).toNat false) = true -> (True /\ True) /\ True /\ R (bl
 false) []) /\ ((!a.getD (x : Int).toNat false == b.getD (x : Int).toNat false) = false -> ∃ (y : Nat), ((1 = 1 /\ a.length = a.length /\ ∀ (i : Nat), i < a.length
 -> boolF a i = boolF a i) /\ (1 = 1 /\ b.length = b.length /\ ∀ (i : Nat), i < b.length -> boolF b i = boolF b i) /\ (1 = 1 /\ a.length = a.length /\ ∀ (i : Nat), i <
 a.length -> boolF a i = boolF a i) /\ (a.length : Int) = (a.length : Int) /\ IntKind.i64.wrap ((x : Int) + (1 : Int)) = (y : Int) /\ True) /\ True /\ inv y /\
 (a.length - y).succ.le (a.length - x))) /\ (decide ((x : Int) < (a.length : Int)) = false -> (True /\ True) /\ True /\ R (bl true) []))) := by kernel_rfl
theorem vEqInt (a b : List Int) (inv : Nat -> Prop) (R : AV -> List LObj -> Prop) :
  (vcA false false 0 [] Tryd.prog (mkTab []) (optC (Tryd.f69.body.getD .skip)) ([.loop 4 Nat inv (fun i => ⟨slotsOf 26 0 [(0, ints0AV a), (1, ints0AV b), (11, ints0AV a), (12, nm a.length), (13, nm i)], []⟩) (fun i => a.length - i) (fun _ => [])]) (finalK Tryd.prog Tryd.f69 (R)) (startSt Tryd.f69 ([ints0AV a, ints0AV b]))) = (
 (((a.length : Int) != (b.length : Int)) = true -> (True /\ True) /\ True /\ R (bl false) []) /\ (((a.length : Int) != (b.length : Int)) = false -> (∃ (x : Nat),
 ((1 = 1 /\ a.length = a.length /\ ∀ (i : Nat), i < a.length -> intF a i = intF a i) /\ (1 = 1 /\ b.length = b.length /\ ∀ (i : Nat), i < b.length -> intF b i = intF b
 i) /\ (1 = 1 /\ a.length = a.length /\ ∀ (i : Nat), i < a.length -> intF a i = intF a i) /\ (a.length : Int) = (a.length : Int) /\ (0 : Int) = (x : Int) /\ True) /\
 True /\ inv x) /\ ∀ (x : Nat), inv x -> (decide ((x : Int) < (a.length : Int)) = true -> ((0 : Int) <= (x : Int) /\ (x : Int) + (1 : Int) <= (a.length : Int)) /\
 ((0 : Int) <= (x : Int) /\ (x : Int) + (1 : Int) <= (a.length : Int)) /\ ((0 : Int) <= (x : Int) /\ (x : Int) + (1 : Int) <= (b.length : Int)) /\ ((0 : Int) <= (↑x
 : Int) /\ (x : Int) + (1 : Int) <= (b.length : Int)) /\ ((a.getD (x : Int).toNat (0 : Int) != b.getD (x : Int).toNat (0 : Int)) = true -> (True /\ True) /\ True /\
 R (bl false) []) /\ ((a.getD (x : Int).toNat (0 : Int) != b.getD (x : Int).toNat (0 : Int)) = false -> ∃ (y : Nat), ((1 = 1 /\ a.length = a.length /\ ∀ (i : Nat),
 i < a.length -> intF a i = intF a i) /\ (1 = 1 /\ b.length = b.length /\ ∀ (i : Nat), i < b.length -> intF b i = intF b i) /\ (1 = 1 /\ a.length = a.length /\ ∀ (i :
 Nat), i < a.length -> intF a i = intF a i) /\ (a.length : Int) = (a.length : Int) /\ IntKind.i64.wrap ((x : Int) + (1 : Int)) = (y : Int) /\ True) /\ True /\ inv y
 /\ (a.length - y).succ.le (a.length - x))) /\ (decide ((x : Int) < (a.length : Int)) = false -> (True /\ True) /\ True /\ R (bl true) []))) := by kernel_rfl
theorem vEqMap (a b : List (Bs × Bs)) (inv : Nat -> Prop) (R : AV -> List LObj -> Prop) :
  (vcA false false 0 [] Tryd.prog (mkTab []) (optC (Tryd.f82.body.getD .skip)) ([.loop 4 Nat inv (fun i => ⟨slotsOf 26 0 [(0, mapAV a), (1, mapAV b), (11, mapAV a), (12, nm a.length), (13, nm i)], []⟩) (fun i => a.length - i) (fun _ => [])]) (finalK Tryd.prog Tryd.f82 (R)) (startSt Tryd.f82 ([mapAV a, mapAV b]))) = (
 (((a.length : Int) != (b.length : Int)) = true -> (True /\ True) /\ True /\ R (bl false) []) /\ (((a.length : Int) != (b.length : Int)) = false -> (∃ (x : Nat),
 ((2 = 2 /\ a.length = a.length /\ ∀ (i : Nat), i < a.length -> rowF a i = rowF a i) /\ (2 = 2 /\ b.length = b.length /\ ∀ (i : Nat), i < b.length -> rowF b i = rowF b
 i) /\ (2 = 2 /\ a.length = a.length /\ ∀ (i : Nat), i < a.length -> rowF a i = rowF a i) /\ (a.length : Int) = (a.length : Int) /\ (0 : Int) = (x : Int) /\ True) /\
 True /\ inv x) /\ ∀ (x : Nat), inv x -> (decide ((x : Int) < (a.length : Int)) = true -> ((0 : Int) <= (x : Int) /\ (x : Int) + (1 : Int) <= (a.length : Int)) /\
 ((0 : Int) <= (x : Int) /\ (x : Int) + (1 : Int) <= (a.length : Int)) /\ ((0 : Int) <= (x : Int) /\ (x : Int) + (1 : Int) <= (b.length : Int)) /\ ((0 : Int) <= (↑x
 : Int) /\ (x : Int) + (1 : Int) <= (b.length : Int)) /\ ((! ((bs (a.getD (x : Int).toNat ([], [])).fst).toList == (bs (b.getD (x : Int).toNat ([],
 [])).fst).toList && ((bs (a.getD (x : Int).toNat ([], [])).snd).toList == (bs (b.getD (x : Int).toNat ([], [])).snd).toList && true))) = true -> (True /\ True) /\
 True /\ R (bl false) []) /\ ((! ((bs (a.getD (x : Int).toNat ([], [])).fst).toList == (bs (b.getD (x : Int).toNat ([], [])).fst).toList && ((bs (a.getD (↑x :
 Int).toNat ([], [])).snd).toList == (bs (b.getD (x : Int).toNat ([], [])).snd).toList && true))) = false -> ∃ (y : Nat), ((2 = 2 /\ a.length = a.length /\ ∀ (i :
 Nat), i < a.length -> rowF a i = rowF a i) /\ (2 = 2 /\ b.length = b.length /\ ∀ (i : Nat), i < b.length -> rowF b i = rowF b i) /\ (2 = 2 /\ a.length = a.length /\ ∀ (i
 : Nat), i < a.length -> rowF a i = rowF a i) /\ (a.length : Int) = (a.length : Int) /\ IntKind.i64.wrap ((x : Int) + (1 : Int)) = (y : Int) /\ True) /\ True /\ inv
 y /\ (a.length - y).succ.le (a.length - x))) /\ (decide ((x : Int) < (a.length : Int)) = false -> (True /\ True) /\ True /\ R (bl true) []))) := by kernel_rfl
theorem vEqEdit (a b : List (Bs × Bool × Bs)) (inv : Nat -> Prop) (R : AV -> List LObj -> Prop) :
  (vcA false false 0 [] Tryd.prog (mkTab []) (optC (Tryd.f83.body.getD .skip)) ([.loop 4 Nat inv (fun i => ⟨slotsOf 26 0 [(0, editAV a), (1, editAV b), (11, editAV a), (12, nm a.length), (13, nm i)], []⟩) (fun i => a.length - i) (fun _ => [])]) (finalK Tryd.prog Tryd.f83 (R)) (startSt Tryd.f83 ([editAV a, editAV b]))) = (
 (((a.length : Int) != (b.length : Int)) = true -> (True /\ True) /\ True /\ R (bl false) []) /\ (((a.length : Int) != (b.length : Int)) = false -> (∃ (x : Nat),
 ((3 = 3 /\ a.length = a.length /\ ∀ (i : Nat), i < a.length -> chgF a i = chgF a i) /\ (3 = 3 /\ b.length = b.length /\ ∀ (i : Nat), i < b.length -> chgF b i = chgF b
 i) /\ (3 = 3 /\ a.length = a.length /\ ∀ (i : Nat), i < a.length -> chgF a i = chgF a i) /\ (a.length : Int) = (a.length : Int) /\ (0 : Int) = (x : Int) /\ True) /\
 True /\ inv x) /\ ∀ (x : Nat), inv x -> (decide ((x : Int) < (a.length : Int)) = true -> ((0 : Int) <= (x : Int) /\ (x : Int) + (1 : Int) <= (a.length : Int)) /\
 ((0 : Int) <= (x : Int) /\ (x : Int) + (1 : Int) <= (a.length : Int)) /\ ((0 : Int) <= (x : Int) /\ (x : Int) + (1 : Int) <= (b.length : Int)) /\ ((0 : Int) <= (↑x
 : Int) /\ (x : Int) + (1 : Int) <= (b.length : Int)) /\ ((! ((bs (a.getD (x : Int).toNat ([], false, [])).fst).toList == (bs (b.getD (x : Int).toNat ([], false,
 [])).fst).toList && ((a.getD (x : Int).toNat ([], false, [])).snd.fst == (b.getD (x : Int).toNat ([], false, [])).snd.fst && ((bs (a.getD (x : Int).toNat ([],
 false, [])).snd.snd).toList == (bs (b.getD (x : Int).toNat ([], false, [])).snd.snd).toList && true)))) = true -> (True /\ True) /\ True /\ R (bl false) []) /\ ((!
 ((bs (a.getD (x : Int).toNat ([], false, [])).fst).toList == (bs (b.getD (x : Int).toNat ([], false, [])).fst).toList && ((a.getD (x : Int).toNat ([], false,
 [])).snd.fst == (b.getD (x : Int).toNat ([], false, [])).snd.fst && ((bs (a.getD (x : Int).toNat ([], false, [])).snd.snd).toList == (bs (b.getD (↑x :
 Int).toNat ([], false, [])).snd.snd).toList && true)))) = false -> ∃ (y : Nat), ((3 = 3 /\ a.length = a.length /\ ∀ (i : Nat), i < a.length -> chgF a i = chgF a i) /\
 (3 = 3 /\ b.length = b.length /\ ∀ (i : Nat), i < b.length -> chgF b i = chgF b i) /\ (3 = 3 /\ a.length = a.length /\ ∀ (i : Nat), i < a.length -> chgF a i = chgF a i)
 /\ (a.length : Int) = (a.length : Int) /\ IntKind.i64.wrap ((x : Int) + (1 : Int)) = (y : Int) /\ True) /\ True /\ inv y /\ (a.length - y).succ.le (a.length - x)))
 /\ (decide ((x : Int) < (a.length : Int)) = false -> (True /\ True) /\ True /\ R (bl true) []))) := by kernel_rfl
theorem vSameMap (a b : List (Bs × Bs)) (R : AV -> List LObj -> Prop) :
  (vcA false false 0 [] Tryd.prog (mkTab [(82, .lend TEqMap)]) (optC (Tryd.f70.body.getD .skip)) ([]) (finalK Tryd.prog Tryd.f70 (R)) (startSt Tryd.f70 ([.agg [mapAV a], .agg [mapAV b]]))) = (
 True /\ True /\ ∃ (a_1 : List (Bs × Bs)), ∃ (b_1 : List (Bs × Bs)), (IsMap (AV.rows 2 a.length (rowF a)) a_1 /\ IsMap (AV.rows 2 b.length (rowF b)) b_1) /\ (True /\
 True) /\ True /\ R (bl (a_1 == b_1)) []) := by kernel_rfl
theorem vSameEdit (a b : List (Bs × Bool × Bs)) (R : AV -> List LObj -> Prop) :
  (vcA false false 0 [] Tryd.prog (mkTab [(83, .lend TEqEdit)]) (optC (Tryd.f71.body.getD .skip)) ([]) (finalK Tryd.prog Tryd.f71 (R)) (startSt Tryd.f71 ([.agg [editAV a], .agg [editAV b]]))) = (
 True /\ True /\ ∃ (a_1 : List (Bs × Bool × Bs)), ∃ (b_1 : List (Bs × Bool × Bs)), (IsEdit (AV.rows 3 a.length (chgF a)) a_1 /\ IsEdit (AV.rows 3 b.length (chgF b))
 b_1) /\ (True /\ True) /\ True /\ R (bl (a_1 == b_1)) []) := by kernel_rfl
theorem vEqBytes (a b : Bs) (R : AV -> List LObj -> Prop) :
  (vcA false false 0 [] Tryd.prog (mkTab []) (optC (Tryd.f68.body.getD .skip)) ([]) (finalK Tryd.prog Tryd.f68 (R)) (startSt Tryd.f68 ([row8AV a, row8AV b]))) = (
 True /\ ∃ (bs : ByteArray), bs.size = List.length a /\ (∀ (i : Nat), i < List.length a -> AV.pl (Value.int IntKind.u8 (↑ ((SP.bs a).data.toList.getD i (0 :
 UInt8)).toNat : Int)) = AV.pl (Value.int IntKind.u8 (↑ (bs.data.toList.getD i (0 : UInt8)).toNat : Int))) /\ True /\ ∃ (bs_1 : ByteArray), bs_1.size = List.length
 b /\ (∀ (i : Nat), i < List.length b -> AV.pl (Value.int IntKind.u8 (↑ ((SP.bs b).data.toList.getD i (0 : UInt8)).toNat : Int)) = AV.pl (Value.int IntKind.u8 (↑
 (bs_1.data.toList.getD i (0 : UInt8)).toNat : Int))) /\ (True /\ True) /\ True /\ R (bl (bs.toList == bs_1.toList)) []) := by kernel_rfl
theorem vLong1 (s : Bs) (R : AV -> List LObj -> Prop) :
  (vcA false false 0 [] Tryd.prog (mkTab []) (optC (Tryd.f59.body.getD .skip)) ([]) (finalK Tryd.prog Tryd.f59 (R)) (startSt Tryd.f59 ([sl s]))) = (
 (True /\ True) /\ True /\ R (bl (decide ((List.length s : Int) > (1024 : Int)))) []) := by kernel_rfl
theorem vIdxF (ls : List Bs) (inv : Nat -> Prop) (R : AV -> List LObj -> Prop) :
  (vcA false false 0 [] Tryd.prog (mkTab [(59, .lend TLong1)]) (optC (Tryd.f72.body.getD .skip)) ([.loop 2 Nat inv (fun i => ⟨slotsOf 19 0 [(0, textsAV ls), (1, fn59), (7, nm ls.length), (8, nm i)], []⟩) (fun i => ls.length - i) (fun _ => [])]) (finalK Tryd.prog Tryd.f72 (R)) (startSt Tryd.f72 ([textsAV ls, fn59]))) = (
 (∃ (x : Nat), ((1 = 1 /\ ls.length = ls.length /\ ∀ (i : Nat), i < ls.length -> sl (ls.getD i []) = sl (ls.getD i [])) /\ Value.func (Fn.func (59 : Nat)) (Array.mk
 []) (Array.mk []) = Value.func (Fn.func (59 : Nat)) (Array.mk []) (Array.mk []) /\ (ls.length : Int) = (ls.length : Int) /\ (0 : Int) = (x : Int) /\ True) /\ True
 /\ inv x) /\ ∀ (x : Nat), inv x -> (decide ((x : Int) < (ls.length : Int)) = true -> ((0 : Int) <= (x : Int) /\ (x : Int) + (1 : Int) <= (ls.length : Int)) /\
 (longB (ls.getD (x : Int).toNat []) = true -> (True /\ True) /\ True /\ R (nm (x : Int)) []) /\ (longB (ls.getD (x : Int).toNat []) = false -> ∃ (y : Nat), ((1 = 1
 /\ ls.length = ls.length /\ ∀ (i : Nat), i < ls.length -> sl (ls.getD i []) = sl (ls.getD i [])) /\ Value.func (Fn.func (59 : Nat)) (Array.mk []) (Array.mk []) =
 Value.func (Fn.func (59 : Nat)) (Array.mk []) (Array.mk []) /\ (ls.length : Int) = (ls.length : Int) /\ IntKind.i64.wrap ((x : Int) + (1 : Int)) = (y : Int) /\
 True) /\ True /\ inv y /\ (ls.length - y).succ.le (ls.length - x))) /\ (decide ((x : Int) < (ls.length : Int)) = false -> (True /\ True) /\ True /\ R (nm (-1 : Int))
 [])) := by kernel_rfl
theorem vContL (ls : List Bs) (R : AV -> List LObj -> Prop) :
  (vcA false false 0 [] Tryd.prog (mkTab [(72, .lend TIdxF)]) (optC (Tryd.f58.body.getD .skip)) ([]) (finalK Tryd.prog Tryd.f58 (R)) (startSt Tryd.f58 ([textsAV ls, fn59]))) = (
 ∃ (ls_1 : List Bs), (IsTexts (AV.rows 1 ls.length fun (i : Nat) => sl (ls.getD i [])) ls_1 /\ ls_1.length.le (1000 : Nat)) /\ (True /\ True) /\ True /\ R (bl (decide
 (idxL1 ls_1 ≥ (0 : Int)))) []) := by kernel_rfl
theorem vLong (ls : List Bs) (R : AV -> List LObj -> Prop) :
  (vcA false false 0 [] Tryd.prog (mkTab [(58, .lend TContL)]) (optC (Tryd.f57.body.getD .skip)) ([]) (finalK Tryd.prog Tryd.f57 (R)) (startSt Tryd.f57 ([textsAV ls]))) = (
 ∃ (ls_1 : List Bs), (IsTexts (AV.rows 1 ls.length fun (i : Nat) => sl (ls.getD i [])) ls_1 /\ ls_1.length.le (1000 : Nat)) /\ (True /\ True) /\ True /\ R (bl
 (ls_1.any longB)) []) := by kernel_rfl
end Go.Proofs.Sd

namespace Go.Proofs.Sd
open Go Go.Am Go.SP
theorem take_eq_step {α : Type} (a b : List α) (d : α) (x : Nat) (ha : x < a.length) (hb : x < b.length) (h : a.take x = b.take x) (he : a.getD x d = b.getD x d) : a.take (x + 1) = b.take (x + 1) := by
 rw [List.take_succ_eq_append_getElem ha, List.take_succ_eq_append_getElem hb, h]
 simp only [List.getD_eq_getElem?_getD, List.getElem?_eq_getElem ha, List.getElem?_eq_getElem hb, Option.getD_some] at he
 rw [he]
theorem getD_len {α : Type} (a b : List α) (d : α) (x : Nat) (h : a = b) : a.getD x d = b.getD x d := by rw [h]
theorem XWords : EntOk Tryd.prog 39 (.lend TWords) := by
 refine ⟨Am.enters_of Tryd.func39 (by kernel_rfl) (by kernel_rfl), fun args R h => ?_⟩
 unfold TWords at h
 split at h
 ·refine Spec.weak (Z := Unit) (X := fun _ => .own 0 0 16) (HH := fun _ => [.row 1 tyStr 16 wordF]) (mkSo (vWords R) (tb az) Tryd.func39 (by kernel_rfl) ?_)
  simp only [true_and, and_true, and_self, implies_true, forall_const, gEq_true, gEq_false, nonneg_iff, natle_iff, decide_eq_true_eq, decide_eq_false_iff_not, Int.toNat_natCast, cond_bt, cond_bf, Bool.cond_true, Bool.cond_false, Bool.not_true, Bool.not_false, reduceCtorEq, false_implies, implies_true, Bool.true_eq_false, Bool.false_eq_true, Bool.not_eq_true', Bool.not_eq_false']
  refine ⟨(), ⟨Nat.le_refl _, fun i hi => ?_⟩, h⟩
  have : i = 0 ∨ i = 1 ∨ i = 2 ∨ i = 3 ∨ i = 4 ∨ i = 5 ∨ i = 6 ∨ i = 7 ∨ i = 8 ∨ i = 9 ∨ i = 10 ∨ i = 11 ∨ i = 12 ∨ i = 13 ∨ i = 14 ∨ i = 15 := by omega
  rcases this with rfl | rfl | rfl | rfl | rfl | rfl | rfl | rfl | rfl | rfl | rfl | rfl | rfl | rfl | rfl | rfl <;> rfl
 ·exact h.elim
theorem findIdx_none_take {p : Bs -> Bool} {ls : List Bs} (x : Nat) (hx : x < ls.length) (h : (ls.take x).findIdx? p = none) (hp : p (ls.getD x []) = false) : (ls.take (x + 1)).findIdx? p = none := by
 rw [List.findIdx?_eq_none_iff] at h ⊢
 intro y hy
 rw [List.take_succ_eq_append_getElem hx, List.mem_append, List.mem_singleton] at hy
 rcases hy with hy | rfl
 ·exact h y hy
 ·rw [List.getD_eq_getElem?_getD, List.getElem?_eq_getElem hx] at hp
  exact hp
theorem findIdx_some_take {p : Bs -> Bool} {ls : List Bs} (x : Nat) (hx : x < ls.length) (h : (ls.take x).findIdx? p = none) (hp : p (ls.getD x []) = true) : ls.findIdx? p = some x := by
 rw [List.findIdx?_eq_none_iff] at h
 rw [List.findIdx?_eq_some_iff_getElem]
 refine ⟨hx, ?_, fun j hj => ?_⟩
 ·rw [List.getD_eq_getElem?_getD, List.getElem?_eq_getElem hx] at hp
  exact hp
 ·have := h ls[j] (by rw [List.mem_take_iff_getElem]; exact ⟨j, by omega, rfl⟩)
  simp [this]
theorem XIdxT : EntOk Tryd.prog 45 (.lend TIdxT) := by
 refine ⟨Am.enters_of Tryd.func45 (by kernel_rfl) (by kernel_rfl), fun args R h => ?_⟩
 unfold TIdxT at h
 split at h
 ·rename_i x w
  obtain ⟨w, rfl⟩ : ∃ l, w = bs l := ⟨_, bs_of w⟩
  obtain ⟨ls, ⟨hx, hl⟩, h⟩ := h
  refine Spec.args (args' := [textsAV ls, sl w]) ⟨isTexts_le hx _, rfl, trivial⟩ ?_
  refine mkSo (vIdxT w ls (fun i => i <= ls.length /\ (ls.take i).findIdx? (· == w) = none) R) (tb az) Tryd.func45 (by kernel_rfl) ?_
  simp only [true_and, and_true, and_self, implies_true, forall_const, gEq_true, gEq_false, nonneg_iff, natle_iff, decide_eq_true_eq, decide_eq_false_iff_not, Int.toNat_natCast, cond_bt, cond_bf, Bool.cond_true, Bool.cond_false, Bool.not_true, Bool.not_false, reduceCtorEq, false_implies, implies_true, Bool.true_eq_false, Bool.false_eq_true, Bool.not_eq_true', Bool.not_eq_false', bs_size, bs_data, bs_toList, bs_extract, bs_append, bs_mk, byteF] at h ⊢
  refine ⟨⟨0, rfl, Nat.zero_le _, by simp⟩, fun i hi => ⟨fun hlt => ⟨⟨by omega, by omega⟩, fun hb => ?_, fun hb => ?_⟩, fun hge => ?_⟩⟩
  ·have e : ls.findIdx? (· == w) = some i := findIdx_some_take i (by omega) hi.2 (by have := beq_iff_eq.1 hb; simp only [this, beq_self_eq_true])
   rw [idxT, e] at h
   exact h
  ·refine ⟨i + 1, by rw [wrap64] <;> omega, ⟨by omega, findIdx_none_take i (by omega) hi.2 ?_⟩, by omega⟩
   rw [beq_eq_false_iff_ne] at hb ⊢
   exact fun e => hb e.symm
  ·have : i = ls.length := by omega
   subst this
   rw [List.take_length] at hi
   rw [idxT, hi.2] at h
   exact h
 ·exact h.elim
theorem slc_any {a : AV} (h : slcB a = true) (ks : Names) : leA ks a .any := by
 cases a <;> first | trivial | cases h
theorem XStamped : EntOk Tryd.prog 41 (.lend TStamped) := by
 refine ⟨Am.enters_of Tryd.func41 (by kernel_rfl) (by kernel_rfl), fun args R h => ?_⟩
 unfold TStamped at h
 split at h
 ·split at h
  ·rename_i k _ _ _ a b _ c d _ _ _ _ _ _ f g e _ hs
   simp only [Bool.and_eq_true] at hs
   obtain ⟨⟨⟨ha, hb⟩, hc, hd⟩, he⟩ := hs
   refine Spec.args (args' := [.agg [nm k, .any, .any, .any, .any, .any, .any, .any, .any, .any, .any, .any, .any, .any, .any, .iarr .u8 32 f, .iarr .u8 32 g, .any]]) ⟨⟨rfl, trivial, trivial, trivial, slc_any ha _, slc_any hb _, trivial, slc_any hc _, slc_any hd _, trivial, trivial, trivial, trivial, trivial, trivial, ⟨rfl, rfl, fun _ _ => rfl⟩, ⟨rfl, rfl, fun _ _ => rfl⟩, slc_any he _, trivial⟩, trivial⟩ ?_
   refine mkSo (vStamped k f g R) (tb az) Tryd.func41 (by kernel_rfl) ?_
   simp only [true_and, and_true, and_self, implies_true, forall_const, gEq_true, gEq_false, nonneg_iff, natle_iff, decide_eq_true_eq, decide_eq_false_iff_not, Int.toNat_natCast, cond_bt, cond_bf, Bool.cond_true, Bool.cond_false, Bool.not_true, Bool.not_false, reduceCtorEq, false_implies, implies_true, Bool.true_eq_false, Bool.false_eq_true, Bool.not_eq_true', Bool.not_eq_false', stampedK] at h ⊢
   simpa only [Bool.or_assoc] using h
  ·exact h.elim
 ·exact h.elim
theorem XFields : EntOk Tryd.prog 40 (.hand tkR TFields) := by
 refine ⟨Am.enters_of Tryd.func40 (by kernel_rfl) (by kernel_rfl), fun H0 args R h => ?_⟩
 unfold TFields at h
 split at h
 ·obtain ⟨rfl, h1, h2, h3, h4, h5, h0⟩ := h
  refine mkHo (vFieldsR (R := R) ..) (tb az) Tryd.func40 (by kernel_rfl) ?_
  simp only [true_and, and_true, and_self, implies_true, forall_const, gEq_true, gEq_false, nonneg_iff, natle_iff, decide_eq_true_eq, decide_eq_false_iff_not, Int.toNat_natCast, cond_bt, cond_bf, Bool.cond_true, Bool.cond_false, Bool.not_true, Bool.not_false, reduceCtorEq, false_implies, implies_true, Bool.true_eq_false, Bool.false_eq_true, Bool.not_eq_true', Bool.not_eq_false']
  exact ⟨fun q => h1 (by simp only [clsK, kNN, kN, kNT, k1, q]; rfl), fun n1 => ⟨fun q => h1 (by simp only [clsK, kNN, kN, kNT, k1, n1, q]; rfl), fun n7 => ⟨fun q => h1 (by simp only [clsK, kNN, kN, kNT, k1, n1, n7, q]; rfl), fun n9 => ⟨fun q => h2 (by simp only [clsK, kNN, kN, kNT, k1, n1, n7, n9, q]; rfl), fun n2 => ⟨fun q => h2 (by simp only [clsK, kNN, kN, kNT, k1, n1, n7, n9, n2, q]; rfl), fun n3 => ⟨fun q => h2 (by simp only [clsK, kNN, kN, kNT, k1, n1, n7, n9, n2, n3, q]; rfl), fun n4 => ⟨fun q => h3 (by simp only [clsK, kNN, kN, kNT, k1, n1, n7, n9, n2, n3, n4, q]; rfl), fun n5 => ⟨fun q => h3 (by simp only [clsK, kNN, kN, kNT, k1, n1, n7, n9, n2, n3, n4, n5, q]; rfl), fun n6 => ⟨fun q => h3 (by simp only [clsK, kNN, kN, kNT, k1, n1, n7, n9, n2, n3, n4, n5, n6, q]; rfl), fun n15 => ⟨fun q => h4 (by simp only [clsK, kNN, kN, kNT, k1, n1, n7, n9, n2, n3, n4, n5, n6, n15, q]; rfl), fun n8 => ⟨fun q => h4 (by simp only [clsK, kNN, kN, kNT, k1, n1, n7, n9, n2, n3, n4, n5, n6, n15, n8, q]; rfl), fun n10 => ⟨fun q => h4 (by simp only [clsK, kNN, kN, kNT, k1, n1, n7, n9, n2, n3, n4, n5, n6, n15, n8, n10, q]; rfl), fun n11 => ⟨fun q => h4 (by simp only [clsK, kNN, kN, kNT, k1, n1, n7, n9, n2, n3, n4, n5, n6, n15, n8, n10, n11, q]; rfl), fun n12 => ⟨fun q => h4 (by simp only [clsK, kNN, kN, kNT, k1, n1, n7, n9, n2, n3, n4, n5, n6, n15, n8, n10, n11, n12, q]; rfl), fun n13 => ⟨fun q => h5 (by simp only [clsK, kNN, kN, kNT, k1, n1, n7, n9, n2, n3, n4, n5, n6, n15, n8, n10, n11, n12, n13, q]; rfl), fun n14 => h0 (by simp only [clsK, kNN, kN, kNT, k1, n1, n7, n9, n2, n3, n4, n5, n6, n15, n8, n10, n11, n12, n13, n14]; rfl)⟩⟩⟩⟩⟩⟩⟩⟩⟩⟩⟩⟩⟩⟩⟩
 ·obtain ⟨rfl, h1, h2, h3, h4, h5, h0⟩ := h
  refine mkHo (vFieldsZ (R := R) ..) (tb az) Tryd.func40 (by kernel_rfl) ?_
  simp only [true_and, and_true, and_self, implies_true, forall_const, gEq_true, gEq_false, nonneg_iff, natle_iff, decide_eq_true_eq, decide_eq_false_iff_not, Int.toNat_natCast, cond_bt, cond_bf, Bool.cond_true, Bool.cond_false, Bool.not_true, Bool.not_false, reduceCtorEq, false_implies, implies_true, Bool.true_eq_false, Bool.false_eq_true, Bool.not_eq_true', Bool.not_eq_false']
  exact ⟨fun q => h1 (by simp only [clsK, kNN, kN, kNT, k1, q]; rfl), fun n1 => ⟨fun q => h1 (by simp only [clsK, kNN, kN, kNT, k1, n1, q]; rfl), fun n7 => ⟨fun q => h1 (by simp only [clsK, kNN, kN, kNT, k1, n1, n7, q]; rfl), fun n9 => ⟨fun q => h2 (by simp only [clsK, kNN, kN, kNT, k1, n1, n7, n9, q]; rfl), fun n2 => ⟨fun q => h2 (by simp only [clsK, kNN, kN, kNT, k1, n1, n7, n9, n2, q]; rfl), fun n3 => ⟨fun q => h2 (by simp only [clsK, kNN, kN, kNT, k1, n1, n7, n9, n2, n3, q]; rfl), fun n4 => ⟨fun q => h3 (by simp only [clsK, kNN, kN, kNT, k1, n1, n7, n9, n2, n3, n4, q]; rfl), fun n5 => ⟨fun q => h3 (by simp only [clsK, kNN, kN, kNT, k1, n1, n7, n9, n2, n3, n4, n5, q]; rfl), fun n6 => ⟨fun q => h3 (by simp only [clsK, kNN, kN, kNT, k1, n1, n7, n9, n2, n3, n4, n5, n6, q]; rfl), fun n15 => ⟨fun q => h4 (by simp only [clsK, kNN, kN, kNT, k1, n1, n7, n9, n2, n3, n4, n5, n6, n15, q]; rfl), fun n8 => ⟨fun q => h4 (by simp only [clsK, kNN, kN, kNT, k1, n1, n7, n9, n2, n3, n4, n5, n6, n15, n8, q]; rfl), fun n10 => ⟨fun q => h4 (by simp only [clsK, kNN, kN, kNT, k1, n1, n7, n9, n2, n3, n4, n5, n6, n15, n8, n10, q]; rfl), fun n11 => ⟨fun q => h4 (by simp only [clsK, kNN, kN, kNT, k1, n1, n7, n9, n2, n3, n4, n5, n6, n15, n8, n10, n11, q]; rfl), fun n12 => ⟨fun q => h4 (by simp only [clsK, kNN, kN, kNT, k1, n1, n7, n9, n2, n3, n4, n5, n6, n15, n8, n10, n11, n12, q]; rfl), fun n13 => ⟨fun q => h5 (by simp only [clsK, kNN, kN, kNT, k1, n1, n7, n9, n2, n3, n4, n5, n6, n15, n8, n10, n11, n12, n13, q]; rfl), fun n14 => h0 (by simp only [clsK, kNN, kN, kNT, k1, n1, n7, n9, n2, n3, n4, n5, n6, n15, n8, n10, n11, n12, n13, n14]; rfl)⟩⟩⟩⟩⟩⟩⟩⟩⟩⟩⟩⟩⟩⟩⟩
 ·exact h.elim
theorem XFieldsL : EntOk Tryd.prog 40 (.hand tkR TFieldsL) := by
 refine ⟨Am.enters_of Tryd.func40 (by kernel_rfl) (by kernel_rfl), fun H0 args R h => ?_⟩
 unfold TFieldsL at h
 refine XFields.2 _ _ _ ?_
 unfold TFields
 split at h
 ·exact ⟨h.1, resL_F h.2⟩
 ·exact ⟨h.1, resL_F h.2⟩
 ·exact h.elim
theorem XEqBool : EntOk Tryd.prog 13 (.lend TEqBool) := by
 refine ⟨Am.enters_of Tryd.func13 (by kernel_rfl) (by kernel_rfl), fun args R h => ?_⟩
 unfold TEqBool at h
 split at h
 ·rename_i x y
  obtain ⟨a, b, ⟨hx, hy⟩, h⟩ := h
  refine Spec.args (args' := [boolsAV a, boolsAV b]) ⟨hx, hy, trivial⟩ (Spec.given fun hg => ?_)
  obtain ⟨ga, gb, _⟩ := hg
  refine mkSo (vEqBool a b (fun i => i <= a.length /\ a.take i = b.take i) R) (tb az) Tryd.func13 (by kernel_rfl) ?_
  have hmx := maxLen_eq
  simp only [true_and, and_true, and_self, implies_true, forall_const, gEq_true, gEq_false, nonneg_iff, natle_iff, decide_eq_true_eq, decide_eq_false_iff_not, Int.toNat_natCast, cond_bt, cond_bf, Bool.cond_true, Bool.cond_false, Bool.not_true, Bool.not_false, reduceCtorEq, false_implies, implies_true, Bool.true_eq_false, Bool.false_eq_true, Bool.not_eq_true', Bool.not_eq_false', bs_size, bs_data, bs_toList, bs_extract, bs_append, bs_mk, byteF] at h ⊢
  refine ⟨fun hne => ?_, fun hne => ?_⟩
  ·have : (a == b) = false := beq_eq_false_iff_ne.2 fun e => by rw [e] at hne; simp at hne
   rw [this] at h
   exact h
  ·have hl : a.length = b.length := by simp at hne; omega
   refine ⟨⟨0, rfl, Nat.zero_le _, by simp⟩, fun i hi => ⟨fun hlt => ⟨⟨by omega, by omega⟩, ⟨by omega, by omega⟩, ⟨by omega, by omega⟩, ⟨by omega, by omega⟩, fun hb => ?_, fun hb => ?_⟩, fun hge => ?_⟩⟩
   ·have : (a == b) = false := beq_eq_false_iff_ne.2 fun e => by
     have e2 := getD_len a b false i e
     rw [e2] at hb; simp at hb
    rw [this] at h
    exact h
   ·have e : a.getD i false = b.getD i false := by
     simpa using hb
    exact ⟨i + 1, by rw [wrap64] <;> omega, ⟨by omega, take_eq_step a b false i (by omega) (by omega) hi.2 e⟩, by omega⟩
   ·have h8 : i = a.length := by omega
    obtain ⟨_, h9⟩ := hi
    rw [h8, List.take_length, hl, List.take_length] at h9
    have : (a == b) = true := beq_iff_eq.2 h9
    rw [this] at h
    exact h
 ·exact h.elim
theorem XEqInt : EntOk Tryd.prog 69 (.lend TEqInt) := by
 refine ⟨Am.enters_of Tryd.func69 (by kernel_rfl) (by kernel_rfl), fun args R h => ?_⟩
 unfold TEqInt at h
 split at h
 ·rename_i x y
  obtain ⟨a, b, ⟨hx, hy⟩, h⟩ := h
  refine Spec.args (args' := [ints0AV a, ints0AV b]) ⟨hx, hy, trivial⟩ (Spec.given fun hg => ?_)
  obtain ⟨ga, gb, _⟩ := hg
  refine mkSo (vEqInt a b (fun i => i <= a.length /\ a.take i = b.take i) R) (tb az) Tryd.func69 (by kernel_rfl) ?_
  have hmx := maxLen_eq
  simp only [true_and, and_true, and_self, implies_true, forall_const, gEq_true, gEq_false, nonneg_iff, natle_iff, decide_eq_true_eq, decide_eq_false_iff_not, Int.toNat_natCast, cond_bt, cond_bf, Bool.cond_true, Bool.cond_false, Bool.not_true, Bool.not_false, reduceCtorEq, false_implies, implies_true, Bool.true_eq_false, Bool.false_eq_true, Bool.not_eq_true', Bool.not_eq_false', bs_size, bs_data, bs_toList, bs_extract, bs_append, bs_mk, byteF] at h ⊢
  refine ⟨fun hne => ?_, fun hne => ?_⟩
  ·have : (a == b) = false := beq_eq_false_iff_ne.2 fun e => by rw [e] at hne; simp at hne
   rw [this] at h
   exact h
  ·have hl : a.length = b.length := by simp at hne; omega
   refine ⟨⟨0, rfl, Nat.zero_le _, by simp⟩, fun i hi => ⟨fun hlt => ⟨⟨by omega, by omega⟩, ⟨by omega, by omega⟩, ⟨by omega, by omega⟩, ⟨by omega, by omega⟩, fun hb => ?_, fun hb => ?_⟩, fun hge => ?_⟩⟩
   ·have : (a == b) = false := beq_eq_false_iff_ne.2 fun e => by
     have e2 := getD_len a b 0 i e
     rw [e2] at hb; simp at hb
    rw [this] at h
    exact h
   ·have e : a.getD i 0 = b.getD i 0 := by
     simpa using hb
    exact ⟨i + 1, by rw [wrap64] <;> omega, ⟨by omega, take_eq_step a b 0 i (by omega) (by omega) hi.2 e⟩, by omega⟩
   ·have h8 : i = a.length := by omega
    obtain ⟨_, h9⟩ := hi
    rw [h8, List.take_length, hl, List.take_length] at h9
    have : (a == b) = true := beq_iff_eq.2 h9
    rw [this] at h
    exact h
 ·exact h.elim
theorem XEqMap : EntOk Tryd.prog 82 (.lend TEqMap) := by
 refine ⟨Am.enters_of Tryd.func82 (by kernel_rfl) (by kernel_rfl), fun args R h => ?_⟩
 unfold TEqMap at h
 split at h
 ·rename_i x y
  obtain ⟨a, b, ⟨hx, hy⟩, h⟩ := h
  refine Spec.args (args' := [mapAV a, mapAV b]) ⟨hx, hy, trivial⟩ (Spec.given fun hg => ?_)
  obtain ⟨ga, gb, _⟩ := hg
  refine mkSo (vEqMap a b (fun i => i <= a.length /\ a.take i = b.take i) R) (tb az) Tryd.func82 (by kernel_rfl) ?_
  have hmx := maxLen_eq
  simp only [true_and, and_true, and_self, implies_true, forall_const, gEq_true, gEq_false, nonneg_iff, natle_iff, decide_eq_true_eq, decide_eq_false_iff_not, Int.toNat_natCast, cond_bt, cond_bf, Bool.cond_true, Bool.cond_false, Bool.not_true, Bool.not_false, reduceCtorEq, false_implies, implies_true, Bool.true_eq_false, Bool.false_eq_true, Bool.not_eq_true', Bool.not_eq_false', bs_size, bs_data, bs_toList, bs_extract, bs_append, bs_mk, byteF] at h ⊢
  refine ⟨fun hne => ?_, fun hne => ?_⟩
  ·have : (a == b) = false := beq_eq_false_iff_ne.2 fun e => by rw [e] at hne; simp at hne
   rw [this] at h
   exact h
  ·have hl : a.length = b.length := by simp at hne; omega
   refine ⟨⟨0, rfl, Nat.zero_le _, by simp⟩, fun i hi => ⟨fun hlt => ⟨⟨by omega, by omega⟩, ⟨by omega, by omega⟩, ⟨by omega, by omega⟩, ⟨by omega, by omega⟩, fun hb => ?_, fun hb => ?_⟩, fun hge => ?_⟩⟩
   ·have : (a == b) = false := beq_eq_false_iff_ne.2 fun e => by
     have e2 := getD_len a b ([], []) i e
     rw [e2] at hb; simp at hb
    rw [this] at h
    exact h
   ·have e : a.getD i ([], []) = b.getD i ([], []) := by
     simp at hb; exact Prod.ext hb.1 hb.2
    exact ⟨i + 1, by rw [wrap64] <;> omega, ⟨by omega, take_eq_step a b ([], []) i (by omega) (by omega) hi.2 e⟩, by omega⟩
   ·have h8 : i = a.length := by omega
    obtain ⟨_, h9⟩ := hi
    rw [h8, List.take_length, hl, List.take_length] at h9
    have : (a == b) = true := beq_iff_eq.2 h9
    rw [this] at h
    exact h
 ·exact h.elim
theorem XEqEdit : EntOk Tryd.prog 83 (.lend TEqEdit) := by
 refine ⟨Am.enters_of Tryd.func83 (by kernel_rfl) (by kernel_rfl), fun args R h => ?_⟩
 unfold TEqEdit at h
 split at h
 ·rename_i x y
  obtain ⟨a, b, ⟨hx, hy⟩, h⟩ := h
  refine Spec.args (args' := [editAV a, editAV b]) ⟨hx, hy, trivial⟩ (Spec.given fun hg => ?_)
  obtain ⟨ga, gb, _⟩ := hg
  refine mkSo (vEqEdit a b (fun i => i <= a.length /\ a.take i = b.take i) R) (tb az) Tryd.func83 (by kernel_rfl) ?_
  have hmx := maxLen_eq
  simp only [true_and, and_true, and_self, implies_true, forall_const, gEq_true, gEq_false, nonneg_iff, natle_iff, decide_eq_true_eq, decide_eq_false_iff_not, Int.toNat_natCast, cond_bt, cond_bf, Bool.cond_true, Bool.cond_false, Bool.not_true, Bool.not_false, reduceCtorEq, false_implies, implies_true, Bool.true_eq_false, Bool.false_eq_true, Bool.not_eq_true', Bool.not_eq_false', bs_size, bs_data, bs_toList, bs_extract, bs_append, bs_mk, byteF] at h ⊢
  refine ⟨fun hne => ?_, fun hne => ?_⟩
  ·have : (a == b) = false := beq_eq_false_iff_ne.2 fun e => by rw [e] at hne; simp at hne
   rw [this] at h
   exact h
  ·have hl : a.length = b.length := by simp at hne; omega
   refine ⟨⟨0, rfl, Nat.zero_le _, by simp⟩, fun i hi => ⟨fun hlt => ⟨⟨by omega, by omega⟩, ⟨by omega, by omega⟩, ⟨by omega, by omega⟩, ⟨by omega, by omega⟩, fun hb => ?_, fun hb => ?_⟩, fun hge => ?_⟩⟩
   ·have : (a == b) = false := beq_eq_false_iff_ne.2 fun e => by
     have e2 := getD_len a b ([], false, []) i e
     rw [e2] at hb; simp at hb
    rw [this] at h
    exact h
   ·have e : a.getD i ([], false, []) = b.getD i ([], false, []) := by
     simp at hb; exact Prod.ext hb.1 (Prod.ext hb.2.1 hb.2.2)
    exact ⟨i + 1, by rw [wrap64] <;> omega, ⟨by omega, take_eq_step a b ([], false, []) i (by omega) (by omega) hi.2 e⟩, by omega⟩
   ·have h8 : i = a.length := by omega
    obtain ⟨_, h9⟩ := hi
    rw [h8, List.take_length, hl, List.take_length] at h9
    have : (a == b) = true := beq_iff_eq.2 h9
    rw [this] at h
    exact h
 ·exact h.elim
theorem XSameMap : EntOk Tryd.prog 70 (.lend TSameMap) := by
 refine ⟨Am.enters_of Tryd.func70 (by kernel_rfl) (by kernel_rfl), fun args R h => ?_⟩
 unfold TSameMap at h
 split at h
 ·rename_i x y
  obtain ⟨a, b, ⟨hx, hy⟩, h⟩ := h
  refine Spec.args (args' := [.agg [mapAV a], .agg [mapAV b]]) ⟨⟨hx, trivial⟩, ⟨hy, trivial⟩, trivial⟩ ?_
  refine mkSo (vSameMap a b R) (tb (ac XEqMap az)) Tryd.func70 (by kernel_rfl) ?_
  simp only [true_and, and_true, and_self, implies_true, forall_const, gEq_true, gEq_false, nonneg_iff, natle_iff, decide_eq_true_eq, decide_eq_false_iff_not, Int.toNat_natCast, cond_bt, cond_bf, Bool.cond_true, Bool.cond_false, Bool.not_true, Bool.not_false, reduceCtorEq, false_implies, implies_true, Bool.true_eq_false, Bool.false_eq_true, Bool.not_eq_true', Bool.not_eq_false'] at h ⊢
  exact ⟨a, b, ⟨⟨rfl, rfl, fun _ _ => rfl⟩, ⟨rfl, rfl, fun _ _ => rfl⟩⟩, h⟩
 ·exact h.elim
theorem XSameEdit : EntOk Tryd.prog 71 (.lend TSameEdit) := by
 refine ⟨Am.enters_of Tryd.func71 (by kernel_rfl) (by kernel_rfl), fun args R h => ?_⟩
 unfold TSameEdit at h
 split at h
 ·rename_i x y
  obtain ⟨a, b, ⟨hx, hy⟩, h⟩ := h
  refine Spec.args (args' := [.agg [editAV a], .agg [editAV b]]) ⟨⟨hx, trivial⟩, ⟨hy, trivial⟩, trivial⟩ ?_
  refine mkSo (vSameEdit a b R) (tb (ac XEqEdit az)) Tryd.func71 (by kernel_rfl) ?_
  simp only [true_and, and_true, and_self, implies_true, forall_const, gEq_true, gEq_false, nonneg_iff, natle_iff, decide_eq_true_eq, decide_eq_false_iff_not, Int.toNat_natCast, cond_bt, cond_bf, Bool.cond_true, Bool.cond_false, Bool.not_true, Bool.not_false, reduceCtorEq, false_implies, implies_true, Bool.true_eq_false, Bool.false_eq_true, Bool.not_eq_true', Bool.not_eq_false'] at h ⊢
  exact ⟨a, b, ⟨⟨rfl, rfl, fun _ _ => rfl⟩, ⟨rfl, rfl, fun _ _ => rfl⟩⟩, h⟩
 ·exact h.elim
theorem XEqBytes : EntOk Tryd.prog 68 (.lend TEqBytes) := by
 refine ⟨Am.enters_of Tryd.func68 (by kernel_rfl) (by kernel_rfl), fun args R h => ?_⟩
 unfold TEqBytes at h
 split at h
 ·rename_i x y
  obtain ⟨a, b, ⟨hx, hy⟩, h⟩ := h
  refine Spec.args (args' := [row8AV a, row8AV b]) ⟨hx, hy, trivial⟩ ?_
  refine mkSo (vEqBytes a b R) (tb az) Tryd.func68 (by kernel_rfl) ?_
  simp only [true_and, and_true, and_self, implies_true, forall_const, gEq_true, gEq_false, nonneg_iff, natle_iff, decide_eq_true_eq, decide_eq_false_iff_not, Int.toNat_natCast, cond_bt, cond_bf, Bool.cond_true, Bool.cond_false, Bool.not_true, Bool.not_false, reduceCtorEq, false_implies, implies_true, Bool.true_eq_false, Bool.false_eq_true, Bool.not_eq_true', Bool.not_eq_false', bs_size, bs_data, bs_toList, bs_extract, bs_append, bs_mk, byteF] at h ⊢
  exact ⟨bs a, bs_size a, fun i _ => by rw [bs_data], bs b, bs_size b, fun i _ => by rw [bs_data], by simpa using h⟩
 ·exact h.elim
theorem XLong1 : EntOk Tryd.prog 59 (.lend TLong1) := by
 refine ⟨Am.enters_of Tryd.func59 (by kernel_rfl) (by kernel_rfl), fun args R h => ?_⟩
 unfold TLong1 at h
 split at h
 ·rename_i s
  obtain ⟨s, rfl⟩ : ∃ l, s = bs l := ⟨_, bs_of s⟩
  refine mkSo (vLong1 s R) (tb az) Tryd.func59 (by kernel_rfl) ?_
  have e : decide (((s.length : Nat) : Int) > 1024) = longB s := by unfold longB; rw [decide_eq_decide]; omega
  simp only [true_and, and_true, and_self, implies_true, forall_const, gEq_true, gEq_false, nonneg_iff, natle_iff, decide_eq_true_eq, decide_eq_false_iff_not, Int.toNat_natCast, cond_bt, cond_bf, Bool.cond_true, Bool.cond_false, Bool.not_true, Bool.not_false, reduceCtorEq, false_implies, implies_true, Bool.true_eq_false, Bool.false_eq_true, Bool.not_eq_true', Bool.not_eq_false', bs_size, bs_data, bs_toList, bs_extract, bs_append, bs_mk, byteF, e] at h ⊢
  exact h
 ·exact h.elim
theorem XIdxF : EntOk Tryd.prog 72 (.lend TIdxF) := by
 refine ⟨Am.enters_of Tryd.func72 (by kernel_rfl) (by kernel_rfl), fun args R h => ?_⟩
 unfold TIdxF at h
 split at h
 ·rename_i x
  obtain ⟨ls, ⟨hx, hl⟩, h⟩ := h
  refine Spec.args (args' := [textsAV ls, fn59]) ⟨isTexts_le hx _, rfl, trivial⟩ ?_
  refine mkSo (vIdxF ls (fun i => i <= ls.length /\ (ls.take i).findIdx? longB = none) R) (tb (ac XLong1 az)) Tryd.func72 (by kernel_rfl) ?_
  simp only [true_and, and_true, and_self, implies_true, forall_const, gEq_true, gEq_false, nonneg_iff, natle_iff, decide_eq_true_eq, decide_eq_false_iff_not, Int.toNat_natCast, cond_bt, cond_bf, Bool.cond_true, Bool.cond_false, Bool.not_true, Bool.not_false, reduceCtorEq, false_implies, implies_true, Bool.true_eq_false, Bool.false_eq_true, Bool.not_eq_true', Bool.not_eq_false', bs_size, bs_data, bs_toList, bs_extract, bs_append, bs_mk, byteF] at h ⊢
  refine ⟨⟨0, rfl, Nat.zero_le _, by simp⟩, fun i hi => ⟨fun hlt => ⟨⟨by omega, by omega⟩, fun hb => ?_, fun hb => ?_⟩, fun hge => ?_⟩⟩
  ·have e : ls.findIdx? longB = some i := findIdx_some_take i (by omega) hi.2 hb
   rw [idxL1, e] at h
   exact h
  ·exact ⟨i + 1, by rw [wrap64] <;> omega, ⟨by omega, findIdx_none_take i (by omega) hi.2 hb⟩, by omega⟩
  ·have : i = ls.length := by omega
   subst this
   rw [List.take_length] at hi
   rw [idxL1, hi.2] at h
   exact h
 ·exact h.elim
theorem idxL1_any (ls : List Bs) : decide (idxL1 ls ≥ 0) = ls.any longB := by
 unfold idxL1
 cases h : ls.findIdx? longB with
 | none =>
  rw [List.findIdx?_eq_none_iff] at h
  rw [Bool.eq_iff_iff]
  simp
  exact h
 | some i =>
  obtain ⟨hi, h1, _⟩ := List.findIdx?_eq_some_iff_getElem.1 h
  rw [Bool.eq_iff_iff]
  simp only [ge_iff_le, decide_eq_true_eq, List.any_eq_true]
  exact ⟨fun _ => ⟨_, List.getElem_mem hi, h1⟩, fun _ => by omega⟩
theorem XContL : EntOk Tryd.prog 58 (.lend TContL) := by
 refine ⟨Am.enters_of Tryd.func58 (by kernel_rfl) (by kernel_rfl), fun args R h => ?_⟩
 unfold TContL at h
 split at h
 ·rename_i x
  obtain ⟨ls, ⟨hx, hl⟩, h⟩ := h
  refine Spec.args (args' := [textsAV ls, fn59]) ⟨isTexts_le hx _, rfl, trivial⟩ ?_
  refine mkSo (vContL ls R) (tb (ac XIdxF az)) Tryd.func58 (by kernel_rfl) ?_
  simp only [true_and, and_true, and_self, implies_true, forall_const, gEq_true, gEq_false, nonneg_iff, natle_iff, decide_eq_true_eq, decide_eq_false_iff_not, Int.toNat_natCast, cond_bt, cond_bf, Bool.cond_true, Bool.cond_false, Bool.not_true, Bool.not_false, reduceCtorEq, false_implies, implies_true, Bool.true_eq_false, Bool.false_eq_true, Bool.not_eq_true', Bool.not_eq_false'] at h ⊢
  exact ⟨ls, ⟨⟨rfl, rfl, fun _ _ => rfl⟩, hl⟩, by rw [idxL1_any]; exact h⟩
 ·exact h.elim
theorem XLong : EntOk Tryd.prog 57 (.lend TLong) := by
 refine ⟨Am.enters_of Tryd.func57 (by kernel_rfl) (by kernel_rfl), fun args R h => ?_⟩
 unfold TLong at h
 split at h
 ·rename_i x
  obtain ⟨ls, ⟨hx, hl⟩, h⟩ := h
  refine Spec.args (args' := [textsAV ls]) ⟨isTexts_le hx _, trivial⟩ ?_
  refine mkSo (vLong ls R) (tb (ac XContL az)) Tryd.func57 (by kernel_rfl) ?_
  simp only [true_and, and_true, and_self, implies_true, forall_const, gEq_true, gEq_false, nonneg_iff, natle_iff, decide_eq_true_eq, decide_eq_false_iff_not, Int.toNat_natCast, cond_bt, cond_bf, Bool.cond_true, Bool.cond_false, Bool.not_true, Bool.not_false, reduceCtorEq, false_implies, implies_true, Bool.true_eq_false, Bool.false_eq_true, Bool.not_eq_true', Bool.not_eq_false'] at h ⊢
  exact ⟨ls, ⟨⟨rfl, rfl, fun _ _ => rfl⟩, hl⟩, h⟩
 ·exact h.elim
end Go.Proofs.Sd

namespace Go.Proofs.Sd
open Go Go.Am Go.SP
abbrev tySc : TypeId := 27
def IsPtrs (ps : List AV) (n : Nat) (k : Int) : Prop :=
 (clsK k = 1 /\ ps = [.ptr 1 0 1 0, .ptr 1 0 3 0] /\ n = 2) ∨ (clsK k = 2 /\ ps = [.ptr 1 0 3 0] /\ n = 1) ∨ (clsK k = 3 /\ ps = [.ptr 1 0 1 0, .ptr 1 0 2 0] /\ n = 2) ∨ (clsK k = 4 /\ ps = [.ptr 1 0 1 0] /\ n = 1) ∨ (clsK k = 5 /\ ps = [.ptr 1 0 1 0, .ptr 1 0 11 0] /\ n = 2)
def IsZ (cs : List AV) (e : Ev) : Prop := cs = cellsZ e
def tkN : List LObj -> List AV -> List Nat := fun H xs => match xs with
 | [.ptr l 0 0 0, .own q _ _] => match H[q]? with
  | some (.prow _ (.ptr b _ _ _ :: _)) => match H[b]? with
   | some (.box _ [_, _, _, .own r _ _]) => [l, b, q, r]
   | _ => [l, b, q]
  | _ => [l, q]
 | .ptr l 0 0 0 :: _ => [l]
 | _ => []
def TNumbers : HTrans := fun H args K => match H, args with
 | [.box t [.pl (.string s), .pl (.bool b)]], [.ptr 0 0 0 0, .pl (.slice none 0 0)] => t = tyRd /\ K (.tup []) [.box t [.pl (.string s), .pl (.bool b)]]
 | [.box t [.pl (.string s), .pl (.bool b)], .box t2 cs, .prow t3 ps], [.ptr 0 0 0 0, .own 2 0 n] => ∃ e : Ev, (t = tyRd /\ s.size <= rlim /\ t2 = tyEv /\ t3 = tyPI /\ IsZ cs e /\ IsPtrs ps n e.kind) /\
   K (.tup []) [rdO (numbersR (fieldsN e.kind) ⟨s.data.toList, b⟩).2, .box tyEv (cellsZ (e.setF (numbersR (fieldsN e.kind) ⟨s.data.toList, b⟩).1)), .prow tyPI ps]
 | [.box t [.pl (.string s), .pl (.bool b)], .box t2 [.pl (.int .i64 _), .pl (.int .i64 _), .pl (.int .i64 _), .own 3 0 m], .prow t3 [.ptr 1 0 0 0, .ptr 1 0 1 0, .ptr 1 0 2 0], .row k e m2 f], [.ptr 0 0 0 0, .own 2 0 3] => (t = tyRd /\ s.size <= rlim /\ t2 = tySc /\ t3 = tyPI) /\
   K (.tup []) [rdO (numbersR 3 ⟨s.data.toList, b⟩).2, .box tySc [nm ((numbersR 3 ⟨s.data.toList, b⟩).1.getD 0 0), nm ((numbersR 3 ⟨s.data.toList, b⟩).1.getD 1 0), nm ((numbersR 3 ⟨s.data.toList, b⟩).1.getD 2 0), .own 3 0 m], .prow tyPI [.ptr 1 0 0 0, .ptr 1 0 1 0, .ptr 1 0 2 0], .row k e m2 f]
 | _, _ => False
def TChange : HTrans := fun H args K => match H, args with
 | [.box t [.pl (.string s), .pl (.bool b)]], [.ptr 0 0 0 0] => (t = tyRd /\ s.size <= rlim) /\ K (.agg [sl (changeR ⟨s.data.toList, b⟩).1.1, bl (changeR ⟨s.data.toList, b⟩).1.2.1, sl (changeR ⟨s.data.toList, b⟩).1.2.2]) [rdO (changeR ⟨s.data.toList, b⟩).2]
 | _, _ => False
def idE (s : Bs) : Int := bif (idR s).2 then 0 else 130
def TIdP : Trans := fun args K => match args with
 | [.pl (.string s)] => s.size <= rlim /\ K (.tup [.agg [.iarr .u8 32 (idR s.data.toList).1], nm (idE s.data.toList)]) []
 | _ => False
def TIdT : Trans := fun args K => match args with
 | [.agg [.iarr .u8 32 f]] => (∀ i, i < 32 -> 0 <= f i /\ f i < 256) /\ K (sl (idL f)) []
 | _ => False
def idUp (s : Bs) (n i : Nat) : Int := if 2 * i + 1 < n then ((digV (s.getD (2 * i) 0) * 16 + digV (s.getD (2 * i + 1) 0) : Nat) : Int) else if 2 * i < n then (digV (s.getD (2 * i) 0) : Nat) else 0
def idTk (f : Idv) (n : Nat) : Bs := (List.range n).flatMap fun i => [hexD ((f i).toNat / 16), hexD ((f i).toNat % 16)]
end Go.Proofs.Sd

namespace Go.Proofs.Sd
open Go Go.Am Go.SP
abbrev tyBool : TypeId := 4
abbrev tyInt : TypeId := 3
abbrev tyRow : TypeId := 111
abbrev tyChg : TypeId := 68
def cellsQ (e : Ev) (a b c d : AV) : List AV := [nm e.kind, nm e.node, nm e.to, nm e.n, a, b, sl e.branch, c, d, .pl (.int .u32 e.author), sl e.note, nm e.ck, nm e.client, .pl (.int .u32 e.seq), sl e.cbranch, .iarr .u8 32 e.old, .iarr .u8 32 e.new, nilS]
def TEvent : HTrans := fun H args K => match H, args with
 | [.box t [.pl (.string s), .pl (.bool b)]], [.ptr 0 0 0 0, .pl (.string w)] => (t = tyRd /\ s.size <= rlim) /\ K (eventR w.data.toList ⟨s.data.toList, b⟩).1.av [rdO (eventR w.data.toList ⟨s.data.toList, b⟩).2]
 | _, _ => False
def scBox (q : Nat) (s : Sc) : LObj := .box tySc [nm s.servers, nm s.clients, nm s.area, .own q 0 s.evs.length]
def rowE (l : List Ev) : LObj := .row 80 tyEv l.length (evF l)
def IsEvRow (k : Nat) (e : TypeId) (m n : Nat) (f : Nat -> AV) (l : List Ev) : Prop := k = 80 /\ e = tyEv /\ m = l.length /\ n = l.length /\ ∀ i, i < l.length -> f i = evF l i
theorem isEvRow_self (l : List Ev) : IsEvRow 80 tyEv l.length l.length (evF l) l := ⟨rfl, rfl, rfl, rfl, fun _ _ => rfl⟩
def tkL : List LObj -> List AV -> List Nat := fun H xs => match xs with
 | .ptr l 0 0 0 :: _ => match H[l]? with
  | some (.box _ [_, _, _, .own q _ _]) => [l, q]
  | _ => [l]
 | _ => []
def TLine : HTrans := fun H args K => match H, args with
 | [.box t [.pl (.int .i64 a), .pl (.int .i64 b), .pl (.int .i64 c), .own 1 0 n], .row k e m f], [.ptr 0 0 0 0, .pl (.string s), .pl (.int .i64 j)] => ∃ (l : List Ev) (q : Nat), (t = tySc /\ IsEvRow k e m n f l /\ s.size <= rlim /\ l.length <= rlim /\ j = q) /\
   K (bl (lineR ⟨a, b, c, l⟩ s.data.toList q).2) [scBox 2 (lineR ⟨a, b, c, l⟩ s.data.toList q).1, .dead, rowE (lineR ⟨a, b, c, l⟩ s.data.toList q).1.evs]
 | _, _ => False
def scAV (s : Sc) : AV := .agg [nm s.servers, nm s.clients, nm s.area, evsAV s.evs]
def TParse : Trans := fun args K => match args with
 | [.pl (.string s)] => K (.tup [scAV (parseR s.data.toList).1, nm (parseR s.data.toList).2.1, nm (parseR s.data.toList).2.2]) []
 | _ => False
structure Dn where
 client : Int
 ck : Int
 cclient : Int
 seq : Int
 branch : Bs
 old : Idv
 new : Idv
 data : Bs
 err : Int
 id : Idv
def Dn.av (d : Dn) : AV := .agg [nm d.client, nm d.ck, nm d.cclient, .pl (.int .u32 d.seq), sl d.branch, .iarr .u8 32 d.old, .iarr .u8 32 d.new, .rows 1 d.data.length (byteF (bs d.data)), nm d.err, .iarr .u8 32 d.id]
def EvOk (e : Ev) : Prop := Int64 e.kind /\ Int64 e.node /\ Int64 e.to /\ Int64 e.n /\ (∀ x ∈ e.conf, Int64 x) /\ Int64 e.ck /\ (0 <= e.author /\ e.author < 4294967296) /\ ∀ i, i < 32 -> 0 <= e.new i /\ e.new i < 256
def TWEvent : HTrans := fun H args K => match H, args with
 | [.box t [.ptr 0 0 0 0, .own 1 0 n], .row k e m f], [.ptr 0 0 0 0, x] => ∃ (l : Bs) (v : Ev), (t = tyW /\ IsBytes k e m n f l /\ IsEv x v /\ EvOk v /\ wrongE v = false /\ l.length + 1000000 <= lim) /\ K (.tup []) (WR (l ++ evL v))
 | _, _ => False
def TPrint : Trans := fun args K => match args with
 | [.agg [.pl (.int .i64 a), .pl (.int .i64 b), .pl (.int .i64 c), x]] => ∃ l : List Ev, (IsEvs x l /\ Int64 a /\ Int64 b /\ Int64 c /\ ∀ e ∈ l, EvOk e) /\ K (.tup [sl (printR ⟨a, b, c, l⟩).1, nm (printR ⟨a, b, c, l⟩).2]) []
 | _ => False
def wB (q : Nat) (l : Bs) : List LObj := [.box tyW [.ptr q 0 0 0, .own (q + 1) 0 l.length], rowB l]
end Go.Proofs.Sd

namespace Go.Proofs.Sd
open Go Go.Am Go.SP
def TJoin : Trans := fun args K => match args with
 | [x, .pl (.string p)] => ∃ ls : List Bs, (IsTexts x ls /\ 0 < ls.length /\ ls.length <= 1000 /\ (Lib.join ls p.data.toList).length <= 1000000) /\ K (sl (Lib.join ls p.data.toList)) []
 | _ => False
def TWakes : Trans := fun args K => match args with
 | [] => K (bl true) []
 | _ => False
def TIdxS : Trans := fun args K => match args with
 | [.pl (.string s), .pl (.int .u8 c)] => (0 <= c /\ c < 256) /\ K (nm (idxL (UInt8.ofNat c.toNat) s.data.toList)) []
 | _ => False
def TLinesLaw : Trans := fun args K => match args with
 | [.pl (.string _), .pl (.string _)] => K (bl true) []
 | _ => False
end Go.Proofs.Sd

namespace Go.Proofs.Sd
open Go Go.Am Go.SP
theorem vWakes (R : AV -> List LObj -> Prop) :
  (vcA false false 0 [] Tryd.prog (mkTab [(11, .lend TJoin), (6, .lend TParse), (12, .lend TPrint), (13, .lend TEqBool)]) (optC (Tryd.f5.body.getD .skip)) ([]) (finalK Tryd.prog Tryd.f5 (R)) (startSt Tryd.f5 ([]))) = (
 True /\ (((0 : Nat) + (5 : Nat)).le (5 : Nat) /\ True /\ True) /\ ∃ (ls : List Bs), (IsTexts (AV.rows 1 5 fun (i : Nat) => rowOf [((0 : Nat), AV.pl (Value.string
 (ByteArray.mk #[119, 111, 114, 108, 100, 32, 49, 32, 49, 32,
 51, 48, 48]))), ((1 : Nat), AV.pl (Value.string (ByteArray.mk #[99, 111, 109, 109, 105, 116, 32, 54, 32, 55, 32, 34, 109, 34, 32, 34, 34, 32, 34, 97, 34, 32, 34, 49, 92, 110, 34, 32, 34, 98, 34, 32, 45]))), ((2 : Nat), AV.pl (Value.string (ByteArray.mk #[99,
 104, 97, 110, 103, 101, 32, 49, 32, 49, 32, 50]))),
 ((3 : Nat), AV.pl (Value.string (ByteArray.mk #[99, 114, 97, 115, 104, 32, 54, 32, 61, 49, 48]))), ((4 : Nat), AV.pl (Value.string (ByteArray.mk #[])))] ((0 : Nat) + i)) ls /\ (Nat.succ (0 : Nat)).le
 ls.length /\ ls.length.le (1000 : Nat) /\ (Lib.join ls ([10] : Bs)).length.le (1000000 : Nat)) /\ True /\ True /\ True /\ True /\ ((bif bif (parseR (Lib.join ls ([10] :
 Bs))).snd.snd != (0 : Int) then true else (↑ (parseR (Lib.join ls ([10] : Bs))).snd.fst : Int) != (0 : Int) then true else (↑ (parseR (Lib.join ls ([10] :
 Bs))).fst.evs.length : Int) != IntKind.i64.wrap ((↑ (5 : Nat) : Int) - (2 : Int))) = true -> (True /\ True) /\ True /\ R (bl false) []) /\ ((bif bif (parseR (Lib.join
 ls ([10] : Bs))).snd.snd != (0 : Int) then true else (↑ (parseR (Lib.join ls ([10] : Bs))).snd.fst : Int) != (0 : Int) then true else (↑ (parseR (Lib.join ls
 ([10] : Bs))).fst.evs.length : Int) != IntKind.i64.wrap ((↑ (5 : Nat) : Int) - (2 : Int))) = false -> ((0 : Int) <= (0 : Int) /\ (0 : Int) + (1 : Int) <= (↑ (parseR
 (Lib.join ls ([10] : Bs))).fst.evs.length : Int)) /\ ((0 : Int) <= (0 : Int) /\ (0 : Int) + (1 : Int) <= (↑ (parseR (Lib.join ls ([10] : Bs))).fst.evs.length : Int))
 /\ ((0 : Int) <= (2 : Int) /\ (2 : Int) + (1 : Int) <= (↑ (parseR (Lib.join ls ([10] : Bs))).fst.evs.length : Int)) /\ ((0 : Int) <= (2 : Int) /\ (2 : Int) + (1 : Int)
 <= (↑ (parseR (Lib.join ls ([10] : Bs))).fst.evs.length : Int)) /\ ∃ (l : List Ev), (IsEvs (AV.rows 80 (parseR (Lib.join ls ([10] : Bs))).fst.evs.length (evF
 (parseR (Lib.join ls ([10] : Bs))).fst.evs)) l /\ ((-9223372036854775808 : Int) <= (parseR (Lib.join ls ([10] : Bs))).fst.servers /\ (parseR (Lib.join ls ([10] :
 Bs))).fst.servers <= (9223372036854775807 : Int)) /\ ((-9223372036854775808 : Int) <= (parseR (Lib.join ls ([10] : Bs))).fst.clients /\ (parseR (Lib.join ls ([10] :
 Bs))).fst.clients <= (9223372036854775807 : Int)) /\ ((-9223372036854775808 : Int) <= (parseR (Lib.join ls ([10] : Bs))).fst.area /\ (parseR (Lib.join ls ([10] :
 Bs))).fst.area <= (9223372036854775807 : Int)) /\ ∀ (e : Ev), e ∈ l -> ((-9223372036854775808 : Int) <= e.kind /\ e.kind <= (9223372036854775807 : Int)) /\
 ((-9223372036854775808 : Int) <= e.node /\ e.node <= (9223372036854775807 : Int)) /\ ((-9223372036854775808 : Int) <= e.to /\ e.to <= (9223372036854775807 : Int)) /\
 ((-9223372036854775808 : Int) <= e.n /\ e.n <= (9223372036854775807 : Int)) /\ (∀ (x : Int), x ∈ e.conf -> (-9223372036854775808 : Int) <= x /\ x <= (9223372036854775807
 : Int)) /\ ((-9223372036854775808 : Int) <= e.ck /\ e.ck <= (9223372036854775807 : Int)) /\ ((0 : Int) <= e.author /\ e.author + (1 : Int) <= (4294967296 : Int)) /\ ∀ (i
 : Nat), i < (32 : Nat) -> (0 : Int) <= e.new i /\ e.new i + (1 : Int) <= (256 : Int)) /\ ((List.length (Lib.join ls ([10] : Bs))) + (ByteArray.mk #[115,
 111, 10]).size).le (9223372036854775807 : Nat) /\ True /\ True /\ (gEq (bif bif (printR (Sc.mk (parseR (Lib.join ls ([10] : Bs))).fst.servers
 (parseR (Lib.join ls ([10] : Bs))).fst.clients (parseR (Lib.join ls ([10] : Bs))).fst.area l)).snd == (0 : Int) then (bs (printR (Sc.mk (parseR (Lib.join ls
 ([10] : Bs))).fst.servers (parseR (Lib.join ls ([10] : Bs))).fst.clients (parseR (Lib.join ls ([10] : Bs))).fst.area l)).fst).toList == (bs (Lib.join ls ([10] :
 Bs))).toList else false then (↑ (evAt (parseR (Lib.join ls ([10] : Bs))).fst.evs (Int.toNat (0 : Int))).edit.length : Int) == (2 : Int) else false) true = true ->
 ((0 : Int) <= (0 : Int) /\ (0 : Int) + (1 : Int) <= (↑ (evAt (parseR (Lib.join ls ([10] : Bs))).fst.evs (Int.toNat (0 : Int))).edit.length : Int)) /\ True) /\ (gEq
 (bif bif bif (printR (Sc.mk (parseR (Lib.join ls ([10] : Bs))).fst.servers (parseR (Lib.join ls ([10] : Bs))).fst.clients (parseR (Lib.join ls ([10] :
 Bs))).fst.area l)).snd == (0 : Int) then (bs (printR (Sc.mk (parseR (Lib.join ls ([10] : Bs))).fst.servers (parseR (Lib.join ls ([10] : Bs))).fst.clients (parseR
 (Lib.join ls ([10] : Bs))).fst.area l)).fst).toList == (bs (Lib.join ls ([10] : Bs))).toList else false then (↑ (evAt (parseR (Lib.join ls ([10] : Bs))).fst.evs
 (Int.toNat (0 : Int))).edit.length : Int) == (2 : Int) else false then ((evAt (parseR (Lib.join ls ([10] : Bs))).fst.evs (Int.toNat (0 : Int))).edit.getD
 (Int.toNat (0 : Int)) ([], false, [])).snd.fst else false) true = true -> ((0 : Int) <= (0 : Int) /\ (0 : Int) + (1 : Int) <= (↑ (evAt (parseR (Lib.join ls ([10] :
 Bs))).fst.evs (Int.toNat (0 : Int))).edit.length : Int)) /\ True) /\ (gEq (bif bif bif bif (printR (Sc.mk (parseR (Lib.join ls ([10] : Bs))).fst.servers (parseR
 (Lib.join ls ([10] : Bs))).fst.clients (parseR (Lib.join ls ([10] : Bs))).fst.area l)).snd == (0 : Int) then (bs (printR (Sc.mk (parseR (Lib.join ls ([10] :
 Bs))).fst.servers (parseR (Lib.join ls ([10] : Bs))).fst.clients (parseR (Lib.join ls ([10] : Bs))).fst.area l)).fst).toList == (bs (Lib.join ls ([10] :
 Bs))).toList else false then (↑ (evAt (parseR (Lib.join ls ([10] : Bs))).fst.evs (Int.toNat (0 : Int))).edit.length : Int) == (2 : Int) else false then ((evAt
 (parseR (Lib.join ls ([10] : Bs))).fst.evs (Int.toNat (0 : Int))).edit.getD (Int.toNat (0 : Int)) ([], false, [])).snd.fst else false then (bs ((evAt (parseR
 (Lib.join ls ([10] : Bs))).fst.evs (Int.toNat (0 : Int))).edit.getD (Int.toNat (0 : Int)) ([], false, [])).snd.snd).toList == (ByteArray.mk #[49, 10]).toList else false) true = true -> ((0 : Int) <= (1 : Int) /\ (1 : Int) + (1 : Int) <= (↑ (evAt (parseR (Lib.join ls ([10] : Bs))).fst.evs (Int.toNat (0 :
 Int))).edit.length : Int)) /\ True) /\ (gEq (bif bif bif bif bif (printR (Sc.mk (parseR (Lib.join ls ([10] : Bs))).fst.servers (parseR (Lib.join ls ([10] :
 Bs))).fst.clients (parseR (Lib.join ls ([10] : Bs))).fst.area l)).snd == (0 : Int) then (bs (printR (Sc.mk (parseR (Lib.join ls ([10] : Bs))).fst.servers (parseR
 (Lib.join ls ([10] : Bs))).fst.clients (parseR (Lib.join ls ([10] : Bs))).fst.area l)).fst).toList == (bs (Lib.join ls ([10] : Bs))).toList else false then (↑
 (evAt (parseR (Lib.join ls ([10] : Bs))).fst.evs (Int.toNat (0 : Int))).edit.length : Int) == (2 : Int) else false then ((evAt (parseR (Lib.join ls ([10] :
 Bs))).fst.evs (Int.toNat (0 : Int))).edit.getD (Int.toNat (0 : Int)) ([], false, [])).snd.fst else false then (bs ((evAt (parseR (Lib.join ls ([10] :
 Bs))).fst.evs (Int.toNat (0 : Int))).edit.getD (Int.toNat (0 : Int)) ([], false, [])).snd.snd).toList == (ByteArray.mk #[49, 10]).toList else
 false then ! ((evAt (parseR (Lib.join ls ([10] : Bs))).fst.evs (Int.toNat (0 : Int))).edit.getD (Int.toNat (1 : Int)) ([], false, [])).snd.fst else false) true =
 true -> True /\ (True /\ ((0 : Nat) + (2 : Nat)).le (2 : Nat) /\ True) /\ ∃ (a : List Bool), ∃ (b : List Bool), (IsBools (AV.rows 1 (evAt (parseR (Lib.join ls ([10] :
 Bs))).fst.evs (Int.toNat (2 : Int))).keep.length (boolF (evAt (parseR (Lib.join ls ([10] : Bs))).fst.evs (Int.toNat (2 : Int))).keep)) a /\ IsBools (AV.rows 1 2
 fun (i : Nat) => rowOf [((0 : Nat), bl true), ((1 : Nat), bl false)] ((0 : Nat) + i)) b) /\ True /\ True /\ true = true /\ (True /\ True) /\ True /\ R (bl (bif bif bif
 true then a == b else false then (parseR (bs (Lib.join ls ([10] : Bs)) ++ ByteArray.mk #[115, 111, 10]).data.toList).snd.snd ==
 (360 : Int) else false then (↑ (parseR (bs (Lib.join ls ([10] : Bs)) ++ ByteArray.mk #[115, 111, 10]).data.toList).snd.fst : Int)
 == (↑ (List.length (Lib.join ls ([10] : Bs))) : Int) else false)) []) /\ (gEq (bif bif bif bif bif (printR (Sc.mk (parseR (Lib.join ls ([10] : Bs))).fst.servers
 (parseR (Lib.join ls ([10] : Bs))).fst.clients (parseR (Lib.join ls ([10] : Bs))).fst.area l)).snd == (0 : Int) then (bs (printR (Sc.mk (parseR (Lib.join ls
 ([10] : Bs))).fst.servers (parseR (Lib.join ls ([10] : Bs))).fst.clients (parseR (Lib.join ls ([10] : Bs))).fst.area l)).fst).toList == (bs (Lib.join ls ([10] :
 Bs))).toList else false then (↑ (evAt (parseR (Lib.join ls ([10] : Bs))).fst.evs (Int.toNat (0 : Int))).edit.length : Int) == (2 : Int) else false then ((evAt
 (parseR (Lib.join ls ([10] : Bs))).fst.evs (Int.toNat (0 : Int))).edit.getD (Int.toNat (0 : Int)) ([], false, [])).snd.fst else false then (bs ((evAt (parseR
 (Lib.join ls ([10] : Bs))).fst.evs (Int.toNat (0 : Int))).edit.getD (Int.toNat (0 : Int)) ([], false, [])).snd.snd).toList == (ByteArray.mk #[49, 10]).toList else false then ! ((evAt (parseR (Lib.join ls ([10] : Bs))).fst.evs (Int.toNat (0 : Int))).edit.getD (Int.toNat (1 : Int)) ([], false,
 [])).snd.fst else false) true = false -> true = true /\ (True /\ True) /\ True /\ R (bl (bif bif false then (parseR (bs (Lib.join ls ([10] : Bs)) ++ ByteArray.mk
 #[(115 : UInt8), (111 : UInt8), (10 : UInt8)]).data.toList).snd.snd == (360 : Int) else false then (↑ (parseR (bs (Lib.join ls ([10] : Bs)) ++ ByteArray.mk
 #[(115 : UInt8), (111 : UInt8), (10 : UInt8)]).data.toList).snd.fst : Int) == (↑ (List.length (Lib.join ls ([10] : Bs))) : Int) else false)) []))) := by kernel_rfl
theorem vIdxS (l : Bs) (c : Int) (R : AV -> List LObj -> Prop) :
  (vcA false false 0 [] Tryd.prog (mkTab [(16, .lend TIdxB)]) (optC (Tryd.f7.body.getD .skip)) ([]) (finalK Tryd.prog Tryd.f7 (R)) (startSt Tryd.f7 ([sl l, .pl (.int .u8 c)]))) = (
 ((0 : Int) <= c /\ c + (1 : Int) <= (256 : Int)) /\ (True /\ True) /\ True /\ R (nm (idxL (UInt8.ofNat c.toNat) l)) []) := by kernel_rfl
theorem vLinesLaw (s m : Bs) (R : AV -> List LObj -> Prop) :
  (vcA false false 0 [] Tryd.prog (mkTab [(5, .lend TWakes), (6, .lend TParse), (7, .lend TIdxS)]) (optC (Tryd.f3.body.getD .skip)) ([]) (finalK Tryd.prog Tryd.f3 (R)) (startSt Tryd.f3 ([sl s, sl m]))) = (
 ((!true) = true -> (True /\ True) /\ True /\ R (bl false) []) /\ ((!true) = false -> ((0 : Int) <= (0 : Int) /\ ((0 : Int) <= if (20000 : Int) < (List.length s : Int)
 then (20000 : Int) else (List.length s : Int)) /\ (if (20000 : Int) < (List.length s : Int) then (20000 : Int) else (List.length s : Int)) <= (↑
 (List.length s) : Int)) /\ ((0 : Int) <= (0 : Int) /\ ((0 : Int) <= if (20000 : Int) < (List.length s : Int) then (20000 : Int) else (List.length s : Int)) /\
 (if (20000 : Int) < (List.length s : Int) then (20000 : Int) else (List.length s : Int)) <= (List.length s : Int)) /\ ((0 : Int) <= (0 : Int) /\ ((0 :
 Int) <= if (1000 : Int) < (List.length m : Int) then (1000 : Int) else (List.length m : Int)) /\ (if (1000 : Int) < (List.length m : Int) then (1000 :
 Int) else (List.length m : Int)) <= (List.length m : Int)) /\ ((0 : Int) <= (0 : Int) /\ ((0 : Int) <= if (1000 : Int) < (List.length m : Int) then (1000
 : Int) else (List.length m : Int)) /\ (if (1000 : Int) < (List.length m : Int) then (1000 : Int) else (List.length m : Int)) <= (↑ (List.length m) :
 Int)) /\ True /\ True /\ (((parseR ((bs s).extract (Int.toNat (0 : Int)) (if (20000 : Int) < (List.length s : Int) then (20000 : Int) else (↑ (List.length s) :
 Int)).toNat).data.toList).snd.snd == (0 : Int)) = true -> (True /\ True) /\ True /\ R (bl true) []) /\ (((parseR ((bs s).extract (Int.toNat (0 : Int)) (if (20000 :
 Int) < (List.length s : Int) then (20000 : Int) else (List.length s : Int)).toNat).data.toList).snd.snd == (0 : Int)) = false -> ((gEq (bif bif (parseR
 ((bs s).extract (Int.toNat (0 : Int)) (if (20000 : Int) < (List.length s : Int) then (20000 : Int) else (↑ (List.length s) :
 Int)).toNat).data.toList).snd.snd != (360 : Int) then true else decide ((↑ (parseR ((bs s).extract (Int.toNat (0 : Int)) (if (20000 : Int) < (↑ (List.length s) :
 Int) then (20000 : Int) else (List.length s : Int)).toNat).data.toList).snd.fst : Int) < (0 : Int)) then true else decide ((↑ (parseR ((bs s).extract
 (Int.toNat (0 : Int)) (if (20000 : Int) < (List.length s : Int) then (20000 : Int) else (List.length s : Int)).toNat).data.toList).snd.fst : Int) > (↑
 ((bs s).extract (Int.toNat (0 : Int)) (if (20000 : Int) < (List.length s : Int) then (20000 : Int) else (List.length s : Int)).toNat).size : Int))) false
 && gEq (decide ((↑ (parseR ((bs s).extract (Int.toNat (0 : Int)) (if (20000 : Int) < (List.length s : Int) then (20000 : Int) else (↑ (List.length s) :
 Int)).toNat).data.toList).snd.fst : Int) > (0 : Int))) true) = true -> ((0 : Int) <= IntKind.i64.wrap ((↑ (parseR ((bs s).extract (Int.toNat (0 : Int)) (if (20000
 : Int) < (List.length s : Int) then (20000 : Int) else (List.length s : Int)).toNat).data.toList).snd.fst : Int) - (1 : Int)) /\ IntKind.i64.wrap ((↑
 (parseR ((bs s).extract (Int.toNat (0 : Int)) (if (20000 : Int) < (List.length s : Int) then (20000 : Int) else (↑ (List.length s) :
 Int)).toNat).data.toList).snd.fst : Int) - (1 : Int)) + (1 : Int) <= (↑ ((bs s).extract (Int.toNat (0 : Int)) (if (20000 : Int) < (List.length s : Int) then
 (20000 : Int) else (List.length s : Int)).toNat).size : Int)) /\ True) /\ ((bif bif bif (parseR ((bs s).extract (Int.toNat (0 : Int)) (if (20000 : Int) < (↑
 (List.length s) : Int) then (20000 : Int) else (List.length s : Int)).toNat).data.toList).snd.snd != (360 : Int) then true else decide ((↑ (parseR ((bs
 s).extract (Int.toNat (0 : Int)) (if (20000 : Int) < (List.length s : Int) then (20000 : Int) else (List.length s : Int)).toNat).data.toList).snd.fst :
 Int) < (0 : Int)) then true else decide ((↑ (parseR ((bs s).extract (Int.toNat (0 : Int)) (if (20000 : Int) < (List.length s : Int) then (20000 : Int) else
 (List.length s : Int)).toNat).data.toList).snd.fst : Int) > (↑ ((bs s).extract (Int.toNat (0 : Int)) (if (20000 : Int) < (List.length s : Int) then
 (20000 : Int) else (List.length s : Int)).toNat).size : Int)) then true else bif decide ((↑ (parseR ((bs s).extract (Int.toNat (0 : Int)) (if (20000 : Int) <
 (List.length s : Int) then (20000 : Int) else (List.length s : Int)).toNat).data.toList).snd.fst : Int) > (0 : Int)) then (↑ (((bs s).extract (Int.toNat
 (0 : Int)) (if (20000 : Int) < (List.length s : Int) then (20000 : Int) else (List.length s : Int)).toNat).data.toList.getD (IntKind.i64.wrap ((↑ (parseR
 ((bs s).extract (Int.toNat (0 : Int)) (if (20000 : Int) < (List.length s : Int) then (20000 : Int) else (↑ (List.length s) :
 Int)).toNat).data.toList).snd.fst : Int) - (1 : Int))).toNat (0 : UInt8)).toNat : Int) != (10 : Int) else false) = true -> (True /\ True) /\ True /\ R (bl false) [])
 /\ ((bif bif bif (parseR ((bs s).extract (Int.toNat (0 : Int)) (if (20000 : Int) < (List.length s : Int) then (20000 : Int) else (↑ (List.length s) :
 Int)).toNat).data.toList).snd.snd != (360 : Int) then true else decide ((↑ (parseR ((bs s).extract (Int.toNat (0 : Int)) (if (20000 : Int) < (↑ (List.length s) :
 Int) then (20000 : Int) else (List.length s : Int)).toNat).data.toList).snd.fst : Int) < (0 : Int)) then true else decide ((↑ (parseR ((bs s).extract
 (Int.toNat (0 : Int)) (if (20000 : Int) < (List.length s : Int) then (20000 : Int) else (List.length s : Int)).toNat).data.toList).snd.fst : Int) > (↑
 ((bs s).extract (Int.toNat (0 : Int)) (if (20000 : Int) < (List.length s : Int) then (20000 : Int) else (List.length s : Int)).toNat).size : Int)) then
 true else bif decide ((↑ (parseR ((bs s).extract (Int.toNat (0 : Int)) (if (20000 : Int) < (List.length s : Int) then (20000 : Int) else (↑ (List.length s) :
 Int)).toNat).data.toList).snd.fst : Int) > (0 : Int)) then (↑ (((bs s).extract (Int.toNat (0 : Int)) (if (20000 : Int) < (List.length s : Int) then (20000 :
 Int) else (List.length s : Int)).toNat).data.toList.getD (IntKind.i64.wrap ((↑ (parseR ((bs s).extract (Int.toNat (0 : Int)) (if (20000 : Int) < (↑
 (List.length s) : Int) then (20000 : Int) else (List.length s : Int)).toNat).data.toList).snd.fst : Int) - (1 : Int))).toNat (0 : UInt8)).toNat : Int) != (10
 : Int) else false) = false -> ((0 : Int) <= (↑ (parseR ((bs s).extract (Int.toNat (0 : Int)) (if (20000 : Int) < (List.length s : Int) then (20000 : Int) else
 (List.length s : Int)).toNat).data.toList).snd.fst : Int) /\ (↑ (parseR ((bs s).extract (Int.toNat (0 : Int)) (if (20000 : Int) < (List.length s : Int)
 then (20000 : Int) else (List.length s : Int)).toNat).data.toList).snd.fst : Int) <= (↑ ((bs s).extract (Int.toNat (0 : Int)) (if (20000 : Int) < (↑
 (List.length s) : Int) then (20000 : Int) else (List.length s : Int)).toNat).size : Int) /\ (↑ ((bs s).extract (Int.toNat (0 : Int)) (if (20000 : Int) < (↑
 (List.length s) : Int) then (20000 : Int) else (List.length s : Int)).toNat).size : Int) <= (↑ ((bs s).extract (Int.toNat (0 : Int)) (if (20000 : Int) < (↑
 (List.length s) : Int) then (20000 : Int) else (List.length s : Int)).toNat).size : Int)) /\ ((0 : Int) <= (10 : Int) /\ (10 : Int) + (1 : Int) <= (256 : Int)) /\
 (decide (idxL (UInt8.ofNat (Int.toNat (10 : Int))) (((bs s).extract (Int.toNat (0 : Int)) (if (20000 : Int) < (List.length s : Int) then (20000 : Int) else
 (List.length s : Int)).toNat).extract (↑ (parseR ((bs s).extract (Int.toNat (0 : Int)) (if (20000 : Int) < (List.length s : Int) then (20000 : Int) else
 (List.length s : Int)).toNat).data.toList).snd.fst : Int).toNat (↑ ((bs s).extract (Int.toNat (0 : Int)) (if (20000 : Int) < (List.length s : Int) then
 (20000 : Int) else (List.length s : Int)).toNat).size : Int).toNat).data.toList < (0 : Int)) = true -> (True /\ True) /\ True /\ R (bl true) []) /\ (decide (idxL
 (UInt8.ofNat (Int.toNat (10 : Int))) (((bs s).extract (Int.toNat (0 : Int)) (if (20000 : Int) < (List.length s : Int) then (20000 : Int) else (↑ (List.length
 s) : Int)).toNat).extract (↑ (parseR ((bs s).extract (Int.toNat (0 : Int)) (if (20000 : Int) < (List.length s : Int) then (20000 : Int) else (↑ (List.length
 s) : Int)).toNat).data.toList).snd.fst : Int).toNat (↑ ((bs s).extract (Int.toNat (0 : Int)) (if (20000 : Int) < (List.length s : Int) then (20000 : Int)
 else (List.length s : Int)).toNat).size : Int).toNat).data.toList < (0 : Int)) = false -> ((0 : Int) <= (0 : Int) /\ (0 : Int) <= IntKind.i64.wrap
 (IntKind.i64.wrap ((↑ (parseR ((bs s).extract (Int.toNat (0 : Int)) (if (20000 : Int) < (List.length s : Int) then (20000 : Int) else (↑ (List.length s) :
 Int)).toNat).data.toList).snd.fst : Int) + idxL (UInt8.ofNat (Int.toNat (10 : Int))) (((bs s).extract (Int.toNat (0 : Int)) (if (20000 : Int) < (↑ (List.length
 s) : Int) then (20000 : Int) else (List.length s : Int)).toNat).extract (↑ (parseR ((bs s).extract (Int.toNat (0 : Int)) (if (20000 : Int) < (↑ (List.length
 s) : Int) then (20000 : Int) else (List.length s : Int)).toNat).data.toList).snd.fst : Int).toNat (↑ ((bs s).extract (Int.toNat (0 : Int)) (if (20000 : Int)
 < (List.length s : Int) then (20000 : Int) else (List.length s : Int)).toNat).size : Int).toNat).data.toList) + (1 : Int)) /\ IntKind.i64.wrap
 (IntKind.i64.wrap ((↑ (parseR ((bs s).extract (Int.toNat (0 : Int)) (if (20000 : Int) < (List.length s : Int) then (20000 : Int) else (↑ (List.length s) :
 Int)).toNat).data.toList).snd.fst : Int) + idxL (UInt8.ofNat (Int.toNat (10 : Int))) (((bs s).extract (Int.toNat (0 : Int)) (if (20000 : Int) < (↑ (List.length
 s) : Int) then (20000 : Int) else (List.length s : Int)).toNat).extract (↑ (parseR ((bs s).extract (Int.toNat (0 : Int)) (if (20000 : Int) < (↑ (List.length
 s) : Int) then (20000 : Int) else (List.length s : Int)).toNat).data.toList).snd.fst : Int).toNat (↑ ((bs s).extract (Int.toNat (0 : Int)) (if (20000 : Int)
 < (List.length s : Int) then (20000 : Int) else (List.length s : Int)).toNat).size : Int).toNat).data.toList) + (1 : Int)) <= (↑ ((bs s).extract
 (Int.toNat (0 : Int)) (if (20000 : Int) < (List.length s : Int) then (20000 : Int) else (List.length s : Int)).toNat).size : Int)) /\ ((((bs s).extract
 (Int.toNat (0 : Int)) (if (20000 : Int) < (List.length s : Int) then (20000 : Int) else (List.length s : Int)).toNat).extract (Int.toNat (0 : Int))
 (IntKind.i64.wrap (IntKind.i64.wrap ((↑ (parseR ((bs s).extract (Int.toNat (0 : Int)) (if (20000 : Int) < (List.length s : Int) then (20000 : Int) else (↑
 (List.length s) : Int)).toNat).data.toList).snd.fst : Int) + idxL (UInt8.ofNat (Int.toNat (10 : Int))) (((bs s).extract (Int.toNat (0 : Int)) (if (20000 : Int) <
 (List.length s : Int) then (20000 : Int) else (List.length s : Int)).toNat).extract (↑ (parseR ((bs s).extract (Int.toNat (0 : Int)) (if (20000 : Int) <
 (List.length s : Int) then (20000 : Int) else (List.length s : Int)).toNat).data.toList).snd.fst : Int).toNat (↑ ((bs s).extract (Int.toNat (0 : Int))
 (if (20000 : Int) < (List.length s : Int) then (20000 : Int) else (List.length s : Int)).toNat).size : Int).toNat).data.toList) + (1 : Int))).toNat).size
 + ((bs m).extract (Int.toNat (0 : Int)) (if (1000 : Int) < (List.length m : Int) then (1000 : Int) else (List.length m : Int)).toNat).size).le
 (9223372036854775807 : Nat) /\ True /\ True /\ (True /\ True) /\ True /\ R (bl (bif (parseR (((bs s).extract (Int.toNat (0 : Int)) (if (20000 : Int) < (↑ (List.length
 s) : Int) then (20000 : Int) else (List.length s : Int)).toNat).extract (Int.toNat (0 : Int)) (IntKind.i64.wrap (IntKind.i64.wrap ((↑ (parseR ((bs s).extract
 (Int.toNat (0 : Int)) (if (20000 : Int) < (List.length s : Int) then (20000 : Int) else (List.length s : Int)).toNat).data.toList).snd.fst : Int) + idxL
 (UInt8.ofNat (Int.toNat (10 : Int))) (((bs s).extract (Int.toNat (0 : Int)) (if (20000 : Int) < (List.length s : Int) then (20000 : Int) else (↑ (List.length
 s) : Int)).toNat).extract (↑ (parseR ((bs s).extract (Int.toNat (0 : Int)) (if (20000 : Int) < (List.length s : Int) then (20000 : Int) else (↑ (List.length
 s) : Int)).toNat).data.toList).snd.fst : Int).toNat (↑ ((bs s).extract (Int.toNat (0 : Int)) (if (20000 : Int) < (List.length s : Int) then (20000 : Int)
 else (List.length s : Int)).toNat).size : Int).toNat).data.toList) + (1 : Int))).toNat ++ (bs m).extract (Int.toNat (0 : Int)) (if (1000 : Int) < (↑
 (List.length m) : Int) then (1000 : Int) else (List.length m : Int)).toNat).data.toList).snd.snd == (parseR ((bs s).extract (Int.toNat (0 : Int)) (if (20000
 : Int) < (List.length s : Int) then (20000 : Int) else (List.length s : Int)).toNat).data.toList).snd.snd then (↑ (parseR (((bs s).extract (Int.toNat (0
 : Int)) (if (20000 : Int) < (List.length s : Int) then (20000 : Int) else (List.length s : Int)).toNat).extract (Int.toNat (0 : Int)) (IntKind.i64.wrap
 (IntKind.i64.wrap ((↑ (parseR ((bs s).extract (Int.toNat (0 : Int)) (if (20000 : Int) < (List.length s : Int) then (20000 : Int) else (↑ (List.length s) :
 Int)).toNat).data.toList).snd.fst : Int) + idxL (UInt8.ofNat (Int.toNat (10 : Int))) (((bs s).extract (Int.toNat (0 : Int)) (if (20000 : Int) < (↑ (List.length
 s) : Int) then (20000 : Int) else (List.length s : Int)).toNat).extract (↑ (parseR ((bs s).extract (Int.toNat (0 : Int)) (if (20000 : Int) < (↑ (List.length
 s) : Int) then (20000 : Int) else (List.length s : Int)).toNat).data.toList).snd.fst : Int).toNat (↑ ((bs s).extract (Int.toNat (0 : Int)) (if (20000 : Int)
 < (List.length s : Int) then (20000 : Int) else (List.length s : Int)).toNat).size : Int).toNat).data.toList) + (1 : Int))).toNat ++ (bs m).extract
 (Int.toNat (0 : Int)) (if (1000 : Int) < (List.length m : Int) then (1000 : Int) else (List.length m : Int)).toNat).data.toList).snd.fst : Int) == (↑
 (parseR ((bs s).extract (Int.toNat (0 : Int)) (if (20000 : Int) < (List.length s : Int) then (20000 : Int) else (↑ (List.length s) :
 Int)).toNat).data.toList).snd.fst : Int) else false)) []))))) := by kernel_rfl
end Go.Proofs.Sd

namespace Go.Proofs.Sd
open Go Go.Am Go.SP
theorem vLine1 (a b c : Int) (l : List Ev) (s : Bs) (q : Nat) (f : Nat -> AV) (R : AV -> List LObj -> Prop) :
  (vcA false false (List.length ([.box tySc [nm a, nm b, nm c, .own 1 0 l.length], .row 80 tyEv l.length f] : List LObj)) [0, 1, 2, 3] Tryd.prog (mkTab [(29, .hand tkR TBlank), (30, .hand tkN TNumbers), (31, .hand tkR TEvent)]) (optC (Tryd.f15.body.getD .skip)) ([]) (finalKH Tryd.prog Tryd.f15 (fun y H => ∃ _ : Unit, leSt 2 ⟨[y], H⟩ ⟨[bl (lineR ⟨a, b, c, l⟩ s q).2], [scBox 2 (lineR ⟨a, b, c, l⟩ s q).1, .dead, rowE (lineR ⟨a, b, c, l⟩ s q).1.evs]⟩ (R (bl (lineR ⟨a, b, c, l⟩ s q).2) [scBox 2 (lineR ⟨a, b, c, l⟩ s q).1, .dead, rowE (lineR ⟨a, b, c, l⟩ s q).1.evs]))) (startStH Tryd.f15 ([.box tySc [nm a, nm b, nm c, .own 1 0 l.length], .row 80 tyEv l.length f]) ([.ptr 0 0 0 0, sl s, nm q]))) = (
 True /\ (True /\ True) /\ (94 = 94 /\ (List.length s).le rlim) /\ (decide ((q : Int) < (1 : Int)) = true -> (True /\ True /\ True) /\ (94 = 94 /\ (List.length (blankR
 (Rd.mk s false)).snd.rest).le rlim /\ 27 = 27 /\ 96 = 96) /\ True /\ (True /\ True) /\ ∃ (x : Unit), ((bif !bif (numbersR (3 : Nat) (blankR (Rd.mk s
 false)).snd).snd.bad then true else ! (bs (blankR (Rd.mk s false)).fst).toList == (ByteArray.mk #[119, 111, 114, 108,
 100]).toList then (bs (numbersR (3 : Nat) (blankR (Rd.mk s false)).snd).snd.rest).toList == (ByteArray.mk #[]).toList else false) = (lineR (Sc.mk a b c
 l) s q).snd /\ True) /\ ((27 = 27 /\ (numbersR (3 : Nat) (blankR (Rd.mk s false)).snd).fst.getD (0 : Nat) (0 : Int) = (lineR (Sc.mk a b c l) s q).fst.servers /\
 (numbersR (3 : Nat) (blankR (Rd.mk s false)).snd).fst.getD (1 : Nat) (0 : Int) = (lineR (Sc.mk a b c l) s q).fst.clients /\ (numbersR (3 : Nat) (blankR (Rd.mk s
 false)).snd).fst.getD (2 : Nat) (0 : Int) = (lineR (Sc.mk a b c l) s q).fst.area /\ (True /\ 0 = 0 /\ l.length = (lineR (Sc.mk a b c l) s q).fst.evs.length) /\ True)
 /\ True /\ (80 = 80 /\ 64 = 64 /\ (lineR (Sc.mk a b c l) s q).fst.evs.length.le l.length /\ ∀ (i : Nat), i < (lineR (Sc.mk a b c l) s q).fst.evs.length -> f i = AV.agg
 [nm (evAt (lineR (Sc.mk a b c l) s q).fst.evs i).kind, nm (evAt (lineR (Sc.mk a b c l) s q).fst.evs i).node, nm (evAt (lineR (Sc.mk a b c l) s q).fst.evs i).to,
 nm (evAt (lineR (Sc.mk a b c l) s q).fst.evs i).n, AV.rows 1 (evAt (lineR (Sc.mk a b c l) s q).fst.evs i).keep.length (boolF (evAt (lineR (Sc.mk a b c l) s
 q).fst.evs i).keep), AV.rows 1 (evAt (lineR (Sc.mk a b c l) s q).fst.evs i).conf.length (intF (evAt (lineR (Sc.mk a b c l) s q).fst.evs i).conf), sl (evAt (lineR
 (Sc.mk a b c l) s q).fst.evs i).branch, AV.rows 2 (evAt (lineR (Sc.mk a b c l) s q).fst.evs i).map.length (rowF (evAt (lineR (Sc.mk a b c l) s q).fst.evs
 i).map), AV.rows 3 (evAt (lineR (Sc.mk a b c l) s q).fst.evs i).edit.length (chgF (evAt (lineR (Sc.mk a b c l) s q).fst.evs i).edit), AV.pl (Value.int
 IntKind.u32 (evAt (lineR (Sc.mk a b c l) s q).fst.evs i).author), sl (evAt (lineR (Sc.mk a b c l) s q).fst.evs i).note, nm (evAt (lineR (Sc.mk a b c l) s
 q).fst.evs i).ck, nm (evAt (lineR (Sc.mk a b c l) s q).fst.evs i).client, AV.pl (Value.int IntKind.u32 (evAt (lineR (Sc.mk a b c l) s q).fst.evs i).seq), sl
 (evAt (lineR (Sc.mk a b c l) s q).fst.evs i).cbranch, AV.iarr IntKind.u8 32 (evAt (lineR (Sc.mk a b c l) s q).fst.evs i).old, AV.iarr IntKind.u8 32 (evAt (lineR
 (Sc.mk a b c l) s q).fst.evs i).new, AV.rows 1 (List.length (evAt (lineR (Sc.mk a b c l) s q).fst.evs i).data) (byteF (bs (evAt (lineR (Sc.mk a b c l) s
 q).fst.evs i).data))]) /\ True) /\ R (bl (lineR (Sc.mk a b c l) s q).snd) [LObj.box 27 [nm (lineR (Sc.mk a b c l) s q).fst.servers, nm (lineR (Sc.mk a b c l) s
 q).fst.clients, nm (lineR (Sc.mk a b c l) s q).fst.area, AV.own 2 0 (lineR (Sc.mk a b c l) s q).fst.evs.length], LObj.dead, LObj.row 80 64 (lineR (Sc.mk a b c l)
 s q).fst.evs.length (evF (lineR (Sc.mk a b c l) s q).fst.evs)]) /\ (decide ((q : Int) < (1 : Int)) = false -> ((True /\ True /\ True) /\ (94 = 94 /\ (List.length
 (blankR (Rd.mk s false)).snd.rest).le rlim) /\ True /\ (((0 : Nat) + (1 : Nat)).le (1 : Nat) /\ l.length = l.length /\ (l.length + (1 : Nat)).le maxLen /\ ((l.length
 + (1 : Nat)) * (296 : Nat)).le (140737488355328 : Nat)) /\ True /\ True /\ (True /\ True) /\ ∃ (x : Unit), ((bif !bif (eventR (blankR (Rd.mk s false)).fst (blankR
 (Rd.mk s false)).snd).snd.bad then true else decide ((↑ (l.length + (1 : Nat)) : Int) > (300 : Int)) then (bs (eventR (blankR (Rd.mk s false)).fst (blankR (Rd.mk
 s false)).snd).snd.rest).toList == (ByteArray.mk #[]).toList else false) = (lineR (Sc.mk a b c l) s q).snd /\ True) /\ ((27 = 27 /\ a = (lineR (Sc.mk a b c l) s
 q).fst.servers /\ b = (lineR (Sc.mk a b c l) s q).fst.clients /\ c = (lineR (Sc.mk a b c l) s q).fst.area /\ (True /\ 0 = 0 /\ l.length + (1 : Nat) = (lineR (Sc.mk a
 b c l) s q).fst.evs.length) /\ True) /\ True /\ (80 = 80 /\ 64 = 64 /\ (lineR (Sc.mk a b c l) s q).fst.evs.length.le (l.length + (1 : Nat)) /\ ∀ (i : Nat), i < (lineR
 (Sc.mk a b c l) s q).fst.evs.length -> (if i < l.length then f i else rowOf [((0 : Nat), AV.agg [nm (eventR (blankR (Rd.mk s false)).fst (blankR (Rd.mk s
 false)).snd).fst.kind, nm (eventR (blankR (Rd.mk s false)).fst (blankR (Rd.mk s false)).snd).fst.node, nm (eventR (blankR (Rd.mk s false)).fst (blankR (Rd.mk s
 false)).snd).fst.to, nm (eventR (blankR (Rd.mk s false)).fst (blankR (Rd.mk s false)).snd).fst.n, AV.rows 1 (eventR (blankR (Rd.mk s false)).fst (blankR (Rd.mk s
 false)).snd).fst.keep.length (boolF (eventR (blankR (Rd.mk s false)).fst (blankR (Rd.mk s false)).snd).fst.keep), AV.rows 1 (eventR (blankR (Rd.mk s false)).fst
 (blankR (Rd.mk s false)).snd).fst.conf.length (intF (eventR (blankR (Rd.mk s false)).fst (blankR (Rd.mk s false)).snd).fst.conf), sl (eventR (blankR (Rd.mk s
 false)).fst (blankR (Rd.mk s false)).snd).fst.branch, AV.rows 2 (eventR (blankR (Rd.mk s false)).fst (blankR (Rd.mk s false)).snd).fst.map.length (rowF (eventR
 (blankR (Rd.mk s false)).fst (blankR (Rd.mk s false)).snd).fst.map), AV.rows 3 (eventR (blankR (Rd.mk s false)).fst (blankR (Rd.mk s false)).snd).fst.edit.length
 (chgF (eventR (blankR (Rd.mk s false)).fst (blankR (Rd.mk s false)).snd).fst.edit), AV.pl (Value.int IntKind.u32 (eventR (blankR (Rd.mk s false)).fst (blankR
 (Rd.mk s false)).snd).fst.author), sl (eventR (blankR (Rd.mk s false)).fst (blankR (Rd.mk s false)).snd).fst.note, nm (eventR (blankR (Rd.mk s false)).fst
 (blankR (Rd.mk s false)).snd).fst.ck, nm (eventR (blankR (Rd.mk s false)).fst (blankR (Rd.mk s false)).snd).fst.client, AV.pl (Value.int IntKind.u32 (eventR
 (blankR (Rd.mk s false)).fst (blankR (Rd.mk s false)).snd).fst.seq), sl (eventR (blankR (Rd.mk s false)).fst (blankR (Rd.mk s false)).snd).fst.cbranch, AV.iarr
 IntKind.u8 32 (eventR (blankR (Rd.mk s false)).fst (blankR (Rd.mk s false)).snd).fst.old, AV.iarr IntKind.u8 32 (eventR (blankR (Rd.mk s false)).fst (blankR
 (Rd.mk s false)).snd).fst.new, AV.rows 1 (List.length (eventR (blankR (Rd.mk s false)).fst (blankR (Rd.mk s false)).snd).fst.data) (byteF (bs (eventR (blankR
 (Rd.mk s false)).fst (blankR (Rd.mk s false)).snd).fst.data))])] ((0 : Nat) + (i - l.length))) = AV.agg [nm (evAt (lineR (Sc.mk a b c l) s q).fst.evs i).kind, nm
 (evAt (lineR (Sc.mk a b c l) s q).fst.evs i).node, nm (evAt (lineR (Sc.mk a b c l) s q).fst.evs i).to, nm (evAt (lineR (Sc.mk a b c l) s q).fst.evs i).n, AV.rows
 1 (evAt (lineR (Sc.mk a b c l) s q).fst.evs i).keep.length (boolF (evAt (lineR (Sc.mk a b c l) s q).fst.evs i).keep), AV.rows 1 (evAt (lineR (Sc.mk a b c l) s
 q).fst.evs i).conf.length (intF (evAt (lineR (Sc.mk a b c l) s q).fst.evs i).conf), sl (evAt (lineR (Sc.mk a b c l) s q).fst.evs i).branch, AV.rows 2 (evAt
 (lineR (Sc.mk a b c l) s q).fst.evs i).map.length (rowF (evAt (lineR (Sc.mk a b c l) s q).fst.evs i).map), AV.rows 3 (evAt (lineR (Sc.mk a b c l) s q).fst.evs
 i).edit.length (chgF (evAt (lineR (Sc.mk a b c l) s q).fst.evs i).edit), AV.pl (Value.int IntKind.u32 (evAt (lineR (Sc.mk a b c l) s q).fst.evs i).author), sl
 (evAt (lineR (Sc.mk a b c l) s q).fst.evs i).note, nm (evAt (lineR (Sc.mk a b c l) s q).fst.evs i).ck, nm (evAt (lineR (Sc.mk a b c l) s q).fst.evs i).client,
 AV.pl (Value.int IntKind.u32 (evAt (lineR (Sc.mk a b c l) s q).fst.evs i).seq), sl (evAt (lineR (Sc.mk a b c l) s q).fst.evs i).cbranch, AV.iarr IntKind.u8 32
 (evAt (lineR (Sc.mk a b c l) s q).fst.evs i).old, AV.iarr IntKind.u8 32 (evAt (lineR (Sc.mk a b c l) s q).fst.evs i).new, AV.rows 1 (List.length (evAt (lineR
 (Sc.mk a b c l) s q).fst.evs i).data) (byteF (bs (evAt (lineR (Sc.mk a b c l) s q).fst.evs i).data))]) /\ True) /\ R (bl (lineR (Sc.mk a b c l) s q).snd) [LObj.box
 27 [nm (lineR (Sc.mk a b c l) s q).fst.servers, nm (lineR (Sc.mk a b c l) s q).fst.clients, nm (lineR (Sc.mk a b c l) s q).fst.area, AV.own 2 0 (lineR (Sc.mk a b
 c l) s q).fst.evs.length], LObj.dead, LObj.row 80 64 (lineR (Sc.mk a b c l) s q).fst.evs.length (evF (lineR (Sc.mk a b c l) s q).fst.evs)]) /\ (True /\ True /\
 True) /\ (94 = 94 /\ (List.length (blankR (Rd.mk s false)).snd.rest).le rlim) /\ (True /\ (((0 : Nat) + (1 : Nat)).le (1 : Nat) /\ l.length = l.length /\ (l.length +
 (1 : Nat)).le maxLen /\ ((l.length + (1 : Nat)) * (296 : Nat)).le (140737488355328 : Nat)) /\ True /\ True /\ (True /\ True) /\ ∃ (x : Unit), ((bif !bif (eventR
 (blankR (Rd.mk s false)).fst (blankR (Rd.mk s false)).snd).snd.bad then true else decide ((↑ (l.length + (1 : Nat)) : Int) > (300 : Int)) then (bs (eventR
 (blankR (Rd.mk s false)).fst (blankR (Rd.mk s false)).snd).snd.rest).toList == (ByteArray.mk #[]).toList else false) = (lineR (Sc.mk a b c l) s q).snd /\ True) /\
 ((27 = 27 /\ a = (lineR (Sc.mk a b c l) s q).fst.servers /\ b = (lineR (Sc.mk a b c l) s q).fst.clients /\ c = (lineR (Sc.mk a b c l) s q).fst.area /\ (True /\ 0 = 0
 /\ l.length + (1 : Nat) = (lineR (Sc.mk a b c l) s q).fst.evs.length) /\ True) /\ True /\ (80 = 80 /\ 64 = 64 /\ (lineR (Sc.mk a b c l) s q).fst.evs.length.le
 (l.length + (1 : Nat)) /\ ∀ (i : Nat), i < (lineR (Sc.mk a b c l) s q).fst.evs.length -> (if i < l.length then f i else rowOf [((0 : Nat), AV.agg [nm (eventR
 (blankR (Rd.mk s false)).fst (blankR (Rd.mk s false)).snd).fst.kind, nm (eventR (blankR (Rd.mk s false)).fst (blankR (Rd.mk s false)).snd).fst.node, nm (eventR
 (blankR (Rd.mk s false)).fst (blankR (Rd.mk s false)).snd).fst.to, nm (eventR (blankR (Rd.mk s false)).fst (blankR (Rd.mk s false)).snd).fst.n, AV.rows 1 (eventR
 (blankR (Rd.mk s false)).fst (blankR (Rd.mk s false)).snd).fst.keep.length (boolF (eventR (blankR (Rd.mk s false)).fst (blankR (Rd.mk s false)).snd).fst.keep),
 AV.rows 1 (eventR (blankR (Rd.mk s false)).fst (blankR (Rd.mk s false)).snd).fst.conf.length (intF (eventR (blankR (Rd.mk s false)).fst (blankR (Rd.mk s
 false)).snd).fst.conf), sl (eventR (blankR (Rd.mk s false)).fst (blankR (Rd.mk s false)).snd).fst.branch, AV.rows 2 (eventR (blankR (Rd.mk s false)).fst (blankR
 (Rd.mk s false)).snd).fst.map.length (rowF (eventR (blankR (Rd.mk s false)).fst (blankR (Rd.mk s false)).snd).fst.map), AV.rows 3 (eventR (blankR (Rd.mk s
 false)).fst (blankR (Rd.mk s false)).snd).fst.edit.length (chgF (eventR (blankR (Rd.mk s false)).fst (blankR (Rd.mk s false)).snd).fst.edit), AV.pl (Value.int
 IntKind.u32 (eventR (blankR (Rd.mk s false)).fst (blankR (Rd.mk s false)).snd).fst.author), sl (eventR (blankR (Rd.mk s false)).fst (blankR (Rd.mk s
 false)).snd).fst.note, nm (eventR (blankR (Rd.mk s false)).fst (blankR (Rd.mk s false)).snd).fst.ck, nm (eventR (blankR (Rd.mk s false)).fst (blankR (Rd.mk s
 false)).snd).fst.client, AV.pl (Value.int IntKind.u32 (eventR (blankR (Rd.mk s false)).fst (blankR (Rd.mk s false)).snd).fst.seq), sl (eventR (blankR (Rd.mk s
 false)).fst (blankR (Rd.mk s false)).snd).fst.cbranch, AV.iarr IntKind.u8 32 (eventR (blankR (Rd.mk s false)).fst (blankR (Rd.mk s false)).snd).fst.old, AV.iarr
 IntKind.u8 32 (eventR (blankR (Rd.mk s false)).fst (blankR (Rd.mk s false)).snd).fst.new, AV.rows 1 (List.length (eventR (blankR (Rd.mk s false)).fst (blankR
 (Rd.mk s false)).snd).fst.data) (byteF (bs (eventR (blankR (Rd.mk s false)).fst (blankR (Rd.mk s false)).snd).fst.data))])] ((0 : Nat) + (i - l.length))) =
 AV.agg [nm (evAt (lineR (Sc.mk a b c l) s q).fst.evs i).kind, nm (evAt (lineR (Sc.mk a b c l) s q).fst.evs i).node, nm (evAt (lineR (Sc.mk a b c l) s q).fst.evs
 i).to, nm (evAt (lineR (Sc.mk a b c l) s q).fst.evs i).n, AV.rows 1 (evAt (lineR (Sc.mk a b c l) s q).fst.evs i).keep.length (boolF (evAt (lineR (Sc.mk a b c l)
 s q).fst.evs i).keep), AV.rows 1 (evAt (lineR (Sc.mk a b c l) s q).fst.evs i).conf.length (intF (evAt (lineR (Sc.mk a b c l) s q).fst.evs i).conf), sl (evAt
 (lineR (Sc.mk a b c l) s q).fst.evs i).branch, AV.rows 2 (evAt (lineR (Sc.mk a b c l) s q).fst.evs i).map.length (rowF (evAt (lineR (Sc.mk a b c l) s q).fst.evs
 i).map), AV.rows 3 (evAt (lineR (Sc.mk a b c l) s q).fst.evs i).edit.length (chgF (evAt (lineR (Sc.mk a b c l) s q).fst.evs i).edit), AV.pl (Value.int
 IntKind.u32 (evAt (lineR (Sc.mk a b c l) s q).fst.evs i).author), sl (evAt (lineR (Sc.mk a b c l) s q).fst.evs i).note, nm (evAt (lineR (Sc.mk a b c l) s
 q).fst.evs i).ck, nm (evAt (lineR (Sc.mk a b c l) s q).fst.evs i).client, AV.pl (Value.int IntKind.u32 (evAt (lineR (Sc.mk a b c l) s q).fst.evs i).seq), sl
 (evAt (lineR (Sc.mk a b c l) s q).fst.evs i).cbranch, AV.iarr IntKind.u8 32 (evAt (lineR (Sc.mk a b c l) s q).fst.evs i).old, AV.iarr IntKind.u8 32 (evAt (lineR
 (Sc.mk a b c l) s q).fst.evs i).new, AV.rows 1 (List.length (evAt (lineR (Sc.mk a b c l) s q).fst.evs i).data) (byteF (bs (evAt (lineR (Sc.mk a b c l) s
 q).fst.evs i).data))]) /\ True) /\ R (bl (lineR (Sc.mk a b c l) s q).snd) [LObj.box 27 [nm (lineR (Sc.mk a b c l) s q).fst.servers, nm (lineR (Sc.mk a b c l) s
 q).fst.clients, nm (lineR (Sc.mk a b c l) s q).fst.area, AV.own 2 0 (lineR (Sc.mk a b c l) s q).fst.evs.length], LObj.dead, LObj.row 80 64 (lineR (Sc.mk a b c l)
 s q).fst.evs.length (evF (lineR (Sc.mk a b c l) s q).fst.evs)]) /\ True /\ (((0 : Nat) + (1 : Nat)).le (1 : Nat) /\ l.length = l.length /\ (l.length + (1 : Nat)).le
 maxLen /\ ((l.length + (1 : Nat)) * (296 : Nat)).le (140737488355328 : Nat)) /\ True /\ True /\ (True /\ True) /\ ∃ (x : Unit), ((bif !bif (eventR (blankR (Rd.mk s
 false)).fst (blankR (Rd.mk s false)).snd).snd.bad then true else decide ((↑ (l.length + (1 : Nat)) : Int) > (300 : Int)) then (bs (eventR (blankR (Rd.mk s
 false)).fst (blankR (Rd.mk s false)).snd).snd.rest).toList == (ByteArray.mk #[]).toList else false) = (lineR (Sc.mk a b c l) s q).snd /\ True) /\ ((27 = 27 /\ a =
 (lineR (Sc.mk a b c l) s q).fst.servers /\ b = (lineR (Sc.mk a b c l) s q).fst.clients /\ c = (lineR (Sc.mk a b c l) s q).fst.area /\ (True /\ 0 = 0 /\ l.length + (1
 : Nat) = (lineR (Sc.mk a b c l) s q).fst.evs.length) /\ True) /\ True /\ (80 = 80 /\ 64 = 64 /\ (lineR (Sc.mk a b c l) s q).fst.evs.length.le (l.length + (1 : Nat)) /\
 ∀ (i : Nat), i < (lineR (Sc.mk a b c l) s q).fst.evs.length -> (if i < l.length then f i else rowOf [((0 : Nat), AV.agg [nm (eventR (blankR (Rd.mk s false)).fst
 (blankR (Rd.mk s false)).snd).fst.kind, nm (eventR (blankR (Rd.mk s false)).fst (blankR (Rd.mk s false)).snd).fst.node, nm (eventR (blankR (Rd.mk s false)).fst
 (blankR (Rd.mk s false)).snd).fst.to, nm (eventR (blankR (Rd.mk s false)).fst (blankR (Rd.mk s false)).snd).fst.n, AV.rows 1 (eventR (blankR (Rd.mk s false)).fst
 (blankR (Rd.mk s false)).snd).fst.keep.length (boolF (eventR (blankR (Rd.mk s false)).fst (blankR (Rd.mk s false)).snd).fst.keep), AV.rows 1 (eventR (blankR
 (Rd.mk s false)).fst (blankR (Rd.mk s false)).snd).fst.conf.length (intF (eventR (blankR (Rd.mk s false)).fst (blankR (Rd.mk s false)).snd).fst.conf), sl (eventR
 (blankR (Rd.mk s false)).fst (blankR (Rd.mk s false)).snd).fst.branch, AV.rows 2 (eventR (blankR (Rd.mk s false)).fst (blankR (Rd.mk s
 false)).snd).fst.map.length (rowF (eventR (blankR (Rd.mk s false)).fst (blankR (Rd.mk s false)).snd).fst.map), AV.rows 3 (eventR (blankR (Rd.mk s false)).fst
 (blankR (Rd.mk s false)).snd).fst.edit.length (chgF (eventR (blankR (Rd.mk s false)).fst (blankR (Rd.mk s false)).snd).fst.edit), AV.pl (Value.int IntKind.u32
 (eventR (blankR (Rd.mk s false)).fst (blankR (Rd.mk s false)).snd).fst.author), sl (eventR (blankR (Rd.mk s false)).fst (blankR (Rd.mk s false)).snd).fst.note,
 nm (eventR (blankR (Rd.mk s false)).fst (blankR (Rd.mk s false)).snd).fst.ck, nm (eventR (blankR (Rd.mk s false)).fst (blankR (Rd.mk s false)).snd).fst.client,
 AV.pl (Value.int IntKind.u32 (eventR (blankR (Rd.mk s false)).fst (blankR (Rd.mk s false)).snd).fst.seq), sl (eventR (blankR (Rd.mk s false)).fst (blankR (Rd.mk
 s false)).snd).fst.cbranch, AV.iarr IntKind.u8 32 (eventR (blankR (Rd.mk s false)).fst (blankR (Rd.mk s false)).snd).fst.old, AV.iarr IntKind.u8 32 (eventR
 (blankR (Rd.mk s false)).fst (blankR (Rd.mk s false)).snd).fst.new, AV.rows 1 (List.length (eventR (blankR (Rd.mk s false)).fst (blankR (Rd.mk s
 false)).snd).fst.data) (byteF (bs (eventR (blankR (Rd.mk s false)).fst (blankR (Rd.mk s false)).snd).fst.data))])] ((0 : Nat) + (i - l.length))) = AV.agg [nm
 (evAt (lineR (Sc.mk a b c l) s q).fst.evs i).kind, nm (evAt (lineR (Sc.mk a b c l) s q).fst.evs i).node, nm (evAt (lineR (Sc.mk a b c l) s q).fst.evs i).to, nm
 (evAt (lineR (Sc.mk a b c l) s q).fst.evs i).n, AV.rows 1 (evAt (lineR (Sc.mk a b c l) s q).fst.evs i).keep.length (boolF (evAt (lineR (Sc.mk a b c l) s
 q).fst.evs i).keep), AV.rows 1 (evAt (lineR (Sc.mk a b c l) s q).fst.evs i).conf.length (intF (evAt (lineR (Sc.mk a b c l) s q).fst.evs i).conf), sl (evAt (lineR
 (Sc.mk a b c l) s q).fst.evs i).branch, AV.rows 2 (evAt (lineR (Sc.mk a b c l) s q).fst.evs i).map.length (rowF (evAt (lineR (Sc.mk a b c l) s q).fst.evs
 i).map), AV.rows 3 (evAt (lineR (Sc.mk a b c l) s q).fst.evs i).edit.length (chgF (evAt (lineR (Sc.mk a b c l) s q).fst.evs i).edit), AV.pl (Value.int
 IntKind.u32 (evAt (lineR (Sc.mk a b c l) s q).fst.evs i).author), sl (evAt (lineR (Sc.mk a b c l) s q).fst.evs i).note, nm (evAt (lineR (Sc.mk a b c l) s
 q).fst.evs i).ck, nm (evAt (lineR (Sc.mk a b c l) s q).fst.evs i).client, AV.pl (Value.int IntKind.u32 (evAt (lineR (Sc.mk a b c l) s q).fst.evs i).seq), sl
 (evAt (lineR (Sc.mk a b c l) s q).fst.evs i).cbranch, AV.iarr IntKind.u8 32 (evAt (lineR (Sc.mk a b c l) s q).fst.evs i).old, AV.iarr IntKind.u8 32 (evAt (lineR
 (Sc.mk a b c l) s q).fst.evs i).new, AV.rows 1 (List.length (evAt (lineR (Sc.mk a b c l) s q).fst.evs i).data) (byteF (bs (evAt (lineR (Sc.mk a b c l) s
 q).fst.evs i).data))]) /\ True) /\ R (bl (lineR (Sc.mk a b c l) s q).snd) [LObj.box 27 [nm (lineR (Sc.mk a b c l) s q).fst.servers, nm (lineR (Sc.mk a b c l) s
 q).fst.clients, nm (lineR (Sc.mk a b c l) s q).fst.area, AV.own 2 0 (lineR (Sc.mk a b c l) s q).fst.evs.length], LObj.dead, LObj.row 80 64 (lineR (Sc.mk a b c l)
 s q).fst.evs.length (evF (lineR (Sc.mk a b c l) s q).fst.evs)])) := by kernel_rfl
theorem vParse (l : Bs) (inv inv2 : Sc × Nat × Nat × Bool -> Prop) (R : AV -> List LObj -> Prop) :
  (vcA false false 0 [] Tryd.prog (mkTab [(14, .lend TCut), (15, .hand tkL TLine)]) (optC (Tryd.f6.body.getD .skip)) ([.cut 11 (Sc × Nat × Nat × Bool) inv2 (fun x => ⟨slotsOf 52 0 [(2, .ptr 0 0 0 0), (3, nm 0), (4, nm 0), (5, .ptr 1 0 0 0), (6, nm x.2.1), (7, nm x.2.2.1), (8, bl x.2.2.2)], [.box tySc [nm 0, nm 0, nm 0, nilS], scBox 2 x.1, rowE x.1.evs]⟩) (fun _ => []), .loop 5 (Sc × Nat × Nat × Bool) inv (fun x => ⟨slotsOf 52 0 [(0, sl l), (2, .ptr 0 0 0 0), (3, nm 0), (4, nm 0), (5, .ptr 1 0 0 0), (6, nm x.2.1), (7, nm x.2.2.1), (8, bl x.2.2.2)], [.box tySc [nm 0, nm 0, nm 0, nilS], scBox 2 x.1, rowE x.1.evs]⟩) (fun x => l.length - x.2.1) (fun _ => [])]) (finalK Tryd.prog Tryd.f6 (fun y H => ∃ _ : Unit, leSt 0 ⟨[y], H⟩ ⟨[.tup [scAV (parseR l).1, nm (parseR l).2.1, nm (parseR l).2.2]], []⟩ (R (.tup [scAV (parseR l).1, nm (parseR l).2.1, nm (parseR l).2.2]) []))) (startSt Tryd.f6 ([sl l]))) = (
 True /\ (decide ((List.length l : Int) > (262144 : Int)) = true -> True /\ (True /\ True /\ True /\ True) /\ ((True /\ True /\ True /\ True /\ True) /\ True /\ True /\
 True) /\ ∃ (x : Unit), ((((0 : Int) = (parseR l).fst.servers /\ (0 : Int) = (parseR l).fst.clients /\ (0 : Int) = (parseR l).fst.area /\ (True /\ (parseR
 l).fst.evs.length = (0 : Nat)) /\ True) /\ (0 : Int) = (↑ (parseR l).snd.fst : Int) /\ (3 : Int) = (parseR l).snd.snd /\ True) /\ True) /\ True /\ R (AV.tup [AV.agg [nm
 (parseR l).fst.servers, nm (parseR l).fst.clients, nm (parseR l).fst.area, AV.rows 80 (parseR l).fst.evs.length (evF (parseR l).fst.evs)], nm (↑ (parseR
 l).snd.fst : Int), nm (parseR l).snd.snd]) []) /\ (decide ((List.length l : Int) > (262144 : Int)) = false -> True /\ ((∃ (x : Sc × Nat × Nat × Bool), (bs l =
 bs l /\ (True /\ 0 = 0 /\ 0 = 0 /\ 0 = 0) /\ (0 : Int) = (0 : Int) /\ (0 : Int) = (0 : Int) /\ (True /\ 0 = 0 /\ 0 = 0 /\ 0 = 0) /\ (0 : Int) = (↑x.snd.fst : Int) /\ (0 :
 Int) = (↑x.snd.snd.fst : Int) /\ true = x.snd.snd.snd /\ True) /\ ((27 = 27 /\ (0 : Int) = (0 : Int) /\ (0 : Int) = (0 : Int) /\ (0 : Int) = (0 : Int) /\ Value.slice
 none (0 : Nat) (0 : Nat) = Value.slice none (0 : Nat) (0 : Nat) /\ True) /\ (27 = 27 /\ (0 : Int) = x.fst.servers /\ (0 : Int) = x.fst.clients /\ (0 : Int) =
 x.fst.area /\ (True /\ True /\ 0 = 0 /\ x.fst.evs.length = (0 : Nat)) /\ True) /\ x.fst.evs.length = (0 : Nat) /\ True) /\ inv x) /\ ∀ (x : Sc × Nat × Nat × Bool), inv x
 -> (decide ((↑x.snd.fst : Int) < (List.length l : Int)) = true -> ((0 : Int) <= (↑x.snd.fst : Int) /\ (↑x.snd.fst : Int) <= (List.length l : Int) /\ (↑
 (List.length l) : Int) <= (List.length l : Int)) /\ (1 = 1 /\ ((bs l).extract (↑x.snd.fst : Int).toNat (List.length l : Int).toNat).size.le
 (9223372036854775806 : Nat)) /\ (gEq (cutL (sepOf (ByteArray.mk #[10])) ((bs l).extract (↑x.snd.fst : Int).toNat (↑ (List.length l) :
 Int).toNat).data.toList).snd.snd true = true -> (True /\ True /\ True /\ True) /\ ∃ (l_1 : List Ev), ∃ (q : Nat), (27 = 27 /\ IsEvRow (80 : Nat) (64 : Nat)
 x.fst.evs.length x.fst.evs.length (evF x.fst.evs) l_1 /\ (List.length (cutL (sepOf (ByteArray.mk #[10])) ((bs l).extract (↑x.snd.fst : Int).toNat (↑
 (List.length l) : Int).toNat).data.toList).fst).le rlim /\ l_1.length.le rlim /\ (↑x.snd.snd.fst : Int) = (q : Int)) /\ true = true /\ ((!bif true then (lineR
 (Sc.mk x.fst.servers x.fst.clients x.fst.area l_1) (cutL (sepOf (ByteArray.mk #[10])) ((bs l).extract (↑x.snd.fst : Int).toNat (↑ (List.length l) :
 Int).toNat).data.toList).fst q).snd else false) = true -> ∃ (x_1 : Sc × Nat × Nat × Bool), ((True /\ 0 = 0 /\ 0 = 0 /\ 0 = 0) /\ (0 : Int) = (0 : Int) /\ (0 : Int) =
 (0 : Int) /\ (True /\ 0 = 0 /\ 0 = 0 /\ 0 = 0) /\ (↑x.snd.fst : Int) = (↑x_1.snd.fst : Int) /\ (↑x.snd.snd.fst : Int) = (↑x_1.snd.snd.fst : Int) /\ (bif true then
 (lineR (Sc.mk x.fst.servers x.fst.clients x.fst.area l_1) (cutL (sepOf (ByteArray.mk #[10])) ((bs l).extract (↑x.snd.fst : Int).toNat (↑ (List.length
 l) : Int).toNat).data.toList).fst q).snd else false) = x_1.snd.snd.snd /\ True) /\ ((27 = 27 /\ (0 : Int) = (0 : Int) /\ (0 : Int) = (0 : Int) /\ (0 : Int) = (0 :
 Int) /\ Value.slice none (0 : Nat) (0 : Nat) = Value.slice none (0 : Nat) (0 : Nat) /\ True) /\ (27 = 27 /\ (lineR (Sc.mk x.fst.servers x.fst.clients x.fst.area l_1)
 (cutL (sepOf (ByteArray.mk #[10])) ((bs l).extract (↑x.snd.fst : Int).toNat (List.length l : Int).toNat).data.toList).fst q).fst.servers =
 x_1.fst.servers /\ (lineR (Sc.mk x.fst.servers x.fst.clients x.fst.area l_1) (cutL (sepOf (ByteArray.mk #[10])) ((bs l).extract (↑x.snd.fst : Int).toNat
 (List.length l : Int).toNat).data.toList).fst q).fst.clients = x_1.fst.clients /\ (lineR (Sc.mk x.fst.servers x.fst.clients x.fst.area l_1) (cutL (sepOf
 (ByteArray.mk #[10])) ((bs l).extract (↑x.snd.fst : Int).toNat (List.length l : Int).toNat).data.toList).fst q).fst.area = x_1.fst.area /\ (True /\ 0
 = 0 /\ (lineR (Sc.mk x.fst.servers x.fst.clients x.fst.area l_1) (cutL (sepOf (ByteArray.mk #[10])) ((bs l).extract (↑x.snd.fst : Int).toNat (↑
 (List.length l) : Int).toNat).data.toList).fst q).fst.evs.length = x_1.fst.evs.length) /\ True) /\ (80 = 80 /\ 64 = 64 /\ x_1.fst.evs.length.le (lineR (Sc.mk
 x.fst.servers x.fst.clients x.fst.area l_1) (cutL (sepOf (ByteArray.mk #[10])) ((bs l).extract (↑x.snd.fst : Int).toNat (↑ (List.length l) :
 Int).toNat).data.toList).fst q).fst.evs.length /\ ∀ (i : Nat), i < x_1.fst.evs.length -> AV.agg [nm (evAt (lineR (Sc.mk x.fst.servers x.fst.clients x.fst.area l_1)
 (cutL (sepOf (ByteArray.mk #[10])) ((bs l).extract (↑x.snd.fst : Int).toNat (List.length l : Int).toNat).data.toList).fst q).fst.evs i).kind, nm
 (evAt (lineR (Sc.mk x.fst.servers x.fst.clients x.fst.area l_1) (cutL (sepOf (ByteArray.mk #[10])) ((bs l).extract (↑x.snd.fst : Int).toNat (↑
 (List.length l) : Int).toNat).data.toList).fst q).fst.evs i).node, nm (evAt (lineR (Sc.mk x.fst.servers x.fst.clients x.fst.area l_1) (cutL (sepOf (ByteArray.mk
 #[(10 : UInt8)])) ((bs l).extract (↑x.snd.fst : Int).toNat (List.length l : Int).toNat).data.toList).fst q).fst.evs i).to, nm (evAt (lineR (Sc.mk
 x.fst.servers x.fst.clients x.fst.area l_1) (cutL (sepOf (ByteArray.mk #[10])) ((bs l).extract (↑x.snd.fst : Int).toNat (↑ (List.length l) :
 Int).toNat).data.toList).fst q).fst.evs i).n, AV.rows 1 (evAt (lineR (Sc.mk x.fst.servers x.fst.clients x.fst.area l_1) (cutL (sepOf (ByteArray.mk #[10])) ((bs l).extract (↑x.snd.fst : Int).toNat (List.length l : Int).toNat).data.toList).fst q).fst.evs i).keep.length (boolF (evAt (lineR (Sc.mk
 x.fst.servers x.fst.clients x.fst.area l_1) (cutL (sepOf (ByteArray.mk #[10])) ((bs l).extract (↑x.snd.fst : Int).toNat (↑ (List.length l) :
 Int).toNat).data.toList).fst q).fst.evs i).keep), AV.rows 1 (evAt (lineR (Sc.mk x.fst.servers x.fst.clients x.fst.area l_1) (cutL (sepOf (ByteArray.mk #[10])) ((bs l).extract (↑x.snd.fst : Int).toNat (List.length l : Int).toNat).data.toList).fst q).fst.evs i).conf.length (intF (evAt (lineR (Sc.mk
 x.fst.servers x.fst.clients x.fst.area l_1) (cutL (sepOf (ByteArray.mk #[10])) ((bs l).extract (↑x.snd.fst : Int).toNat (↑ (List.length l) :
 Int).toNat).data.toList).fst q).fst.evs i).conf), sl (evAt (lineR (Sc.mk x.fst.servers x.fst.clients x.fst.area l_1) (cutL (sepOf (ByteArray.mk #[10]))
 ((bs l).extract (↑x.snd.fst : Int).toNat (List.length l : Int).toNat).data.toList).fst q).fst.evs i).branch, AV.rows 2 (evAt (lineR (Sc.mk x.fst.servers
 x.fst.clients x.fst.area l_1) (cutL (sepOf (ByteArray.mk #[10])) ((bs l).extract (↑x.snd.fst : Int).toNat (↑ (List.length l) :
 Int).toNat).data.toList).fst q).fst.evs i).map.length (rowF (evAt (lineR (Sc.mk x.fst.servers x.fst.clients x.fst.area l_1) (cutL (sepOf (ByteArray.mk #[10])) ((bs l).extract (↑x.snd.fst : Int).toNat (List.length l : Int).toNat).data.toList).fst q).fst.evs i).map), AV.rows 3 (evAt (lineR (Sc.mk
 x.fst.servers x.fst.clients x.fst.area l_1) (cutL (sepOf (ByteArray.mk #[10])) ((bs l).extract (↑x.snd.fst : Int).toNat (↑ (List.length l) :
 Int).toNat).data.toList).fst q).fst.evs i).edit.length (chgF (evAt (lineR (Sc.mk x.fst.servers x.fst.clients x.fst.area l_1) (cutL (sepOf (ByteArray.mk #[10])) ((bs l).extract (↑x.snd.fst : Int).toNat (List.length l : Int).toNat).data.toList).fst q).fst.evs i).edit), AV.pl (Value.int IntKind.u32 (evAt
 (lineR (Sc.mk x.fst.servers x.fst.clients x.fst.area l_1) (cutL (sepOf (ByteArray.mk #[10])) ((bs l).extract (↑x.snd.fst : Int).toNat (↑ (List.length
 l) : Int).toNat).data.toList).fst q).fst.evs i).author), sl (evAt (lineR (Sc.mk x.fst.servers x.fst.clients x.fst.area l_1) (cutL (sepOf (ByteArray.mk #[10])) ((bs l).extract (↑x.snd.fst : Int).toNat (List.length l : Int).toNat).data.toList).fst q).fst.evs i).note, nm (evAt (lineR (Sc.mk x.fst.servers
 x.fst.clients x.fst.area l_1) (cutL (sepOf (ByteArray.mk #[10])) ((bs l).extract (↑x.snd.fst : Int).toNat (↑ (List.length l) :
 Int).toNat).data.toList).fst q).fst.evs i).ck, nm (evAt (lineR (Sc.mk x.fst.servers x.fst.clients x.fst.area l_1) (cutL (sepOf (ByteArray.mk #[10]))
 ((bs l).extract (↑x.snd.fst : Int).toNat (List.length l : Int).toNat).data.toList).fst q).fst.evs i).client, AV.pl (Value.int IntKind.u32 (evAt (lineR (Sc.mk
 x.fst.servers x.fst.clients x.fst.area l_1) (cutL (sepOf (ByteArray.mk #[10])) ((bs l).extract (↑x.snd.fst : Int).toNat (↑ (List.length l) :
 Int).toNat).data.toList).fst q).fst.evs i).seq), sl (evAt (lineR (Sc.mk x.fst.servers x.fst.clients x.fst.area l_1) (cutL (sepOf (ByteArray.mk #[10]))
 ((bs l).extract (↑x.snd.fst : Int).toNat (List.length l : Int).toNat).data.toList).fst q).fst.evs i).cbranch, AV.iarr IntKind.u8 32 (evAt (lineR (Sc.mk
 x.fst.servers x.fst.clients x.fst.area l_1) (cutL (sepOf (ByteArray.mk #[10])) ((bs l).extract (↑x.snd.fst : Int).toNat (↑ (List.length l) :
 Int).toNat).data.toList).fst q).fst.evs i).old, AV.iarr IntKind.u8 32 (evAt (lineR (Sc.mk x.fst.servers x.fst.clients x.fst.area l_1) (cutL (sepOf (ByteArray.mk
 #[(10 : UInt8)])) ((bs l).extract (↑x.snd.fst : Int).toNat (List.length l : Int).toNat).data.toList).fst q).fst.evs i).new, AV.rows 1 (List.length (evAt
 (lineR (Sc.mk x.fst.servers x.fst.clients x.fst.area l_1) (cutL (sepOf (ByteArray.mk #[10])) ((bs l).extract (↑x.snd.fst : Int).toNat (↑ (List.length
 l) : Int).toNat).data.toList).fst q).fst.evs i).data) (byteF (bs (evAt (lineR (Sc.mk x.fst.servers x.fst.clients x.fst.area l_1) (cutL (sepOf (ByteArray.mk #[(10
 : UInt8)])) ((bs l).extract (↑x.snd.fst : Int).toNat (List.length l : Int).toNat).data.toList).fst q).fst.evs i).data))] = AV.agg [nm (evAt x_1.fst.evs
 i).kind, nm (evAt x_1.fst.evs i).node, nm (evAt x_1.fst.evs i).to, nm (evAt x_1.fst.evs i).n, AV.rows 1 (evAt x_1.fst.evs i).keep.length (boolF (evAt x_1.fst.evs
 i).keep), AV.rows 1 (evAt x_1.fst.evs i).conf.length (intF (evAt x_1.fst.evs i).conf), sl (evAt x_1.fst.evs i).branch, AV.rows 2 (evAt x_1.fst.evs i).map.length
 (rowF (evAt x_1.fst.evs i).map), AV.rows 3 (evAt x_1.fst.evs i).edit.length (chgF (evAt x_1.fst.evs i).edit), AV.pl (Value.int IntKind.u32 (evAt x_1.fst.evs
 i).author), sl (evAt x_1.fst.evs i).note, nm (evAt x_1.fst.evs i).ck, nm (evAt x_1.fst.evs i).client, AV.pl (Value.int IntKind.u32 (evAt x_1.fst.evs i).seq), sl
 (evAt x_1.fst.evs i).cbranch, AV.iarr IntKind.u8 32 (evAt x_1.fst.evs i).old, AV.iarr IntKind.u8 32 (evAt x_1.fst.evs i).new, AV.rows 1 (List.length (evAt
 x_1.fst.evs i).data) (byteF (bs (evAt x_1.fst.evs i).data))]) /\ True) /\ inv2 x_1) /\ ((!bif true then (lineR (Sc.mk x.fst.servers x.fst.clients x.fst.area l_1)
 (cutL (sepOf (ByteArray.mk #[10])) ((bs l).extract (↑x.snd.fst : Int).toNat (List.length l : Int).toNat).data.toList).fst q).snd else false) =
 false -> ∃ (y : Sc × Nat × Nat × Bool), (bs l = bs l /\ (True /\ 0 = 0 /\ 0 = 0 /\ 0 = 0) /\ (0 : Int) = (0 : Int) /\ (0 : Int) = (0 : Int) /\ (True /\ 0 = 0 /\ 0 = 0 /\ 0
 = 0) /\ IntKind.i64.wrap ((↑x.snd.fst : Int) + IntKind.i64.wrap ((↑ (List.length (cutL (sepOf (ByteArray.mk #[10])) ((bs l).extract (↑x.snd.fst :
 Int).toNat (List.length l : Int).toNat).data.toList).fst) : Int) + (1 : Int))) = (↑y.snd.fst : Int) /\ IntKind.i64.wrap ((↑x.snd.snd.fst : Int) + (1 : Int)) =
 (↑y.snd.snd.fst : Int) /\ (bif true then (lineR (Sc.mk x.fst.servers x.fst.clients x.fst.area l_1) (cutL (sepOf (ByteArray.mk #[10])) ((bs l).extract
 (↑x.snd.fst : Int).toNat (List.length l : Int).toNat).data.toList).fst q).snd else false) = y.snd.snd.snd /\ True) /\ ((27 = 27 /\ (0 : Int) = (0 : Int) /\ (0 :
 Int) = (0 : Int) /\ (0 : Int) = (0 : Int) /\ Value.slice none (0 : Nat) (0 : Nat) = Value.slice none (0 : Nat) (0 : Nat) /\ True) /\ (27 = 27 /\ (lineR (Sc.mk
 x.fst.servers x.fst.clients x.fst.area l_1) (cutL (sepOf (ByteArray.mk #[10])) ((bs l).extract (↑x.snd.fst : Int).toNat (↑ (List.length l) :
 Int).toNat).data.toList).fst q).fst.servers = y.fst.servers /\ (lineR (Sc.mk x.fst.servers x.fst.clients x.fst.area l_1) (cutL (sepOf (ByteArray.mk #[10])) ((bs l).extract (↑x.snd.fst : Int).toNat (List.length l : Int).toNat).data.toList).fst q).fst.clients = y.fst.clients /\ (lineR (Sc.mk x.fst.servers
 x.fst.clients x.fst.area l_1) (cutL (sepOf (ByteArray.mk #[10])) ((bs l).extract (↑x.snd.fst : Int).toNat (↑ (List.length l) :
 Int).toNat).data.toList).fst q).fst.area = y.fst.area /\ (True /\ 0 = 0 /\ (lineR (Sc.mk x.fst.servers x.fst.clients x.fst.area l_1) (cutL (sepOf (ByteArray.mk
 #[(10 : UInt8)])) ((bs l).extract (↑x.snd.fst : Int).toNat (List.length l : Int).toNat).data.toList).fst q).fst.evs.length = y.fst.evs.length) /\ True) /\ (80
 = 80 /\ 64 = 64 /\ y.fst.evs.length.le (lineR (Sc.mk x.fst.servers x.fst.clients x.fst.area l_1) (cutL (sepOf (ByteArray.mk #[10])) ((bs l).extract
 (↑x.snd.fst : Int).toNat (List.length l : Int).toNat).data.toList).fst q).fst.evs.length /\ ∀ (i : Nat), i < y.fst.evs.length -> AV.agg [nm (evAt (lineR (Sc.mk
 x.fst.servers x.fst.clients x.fst.area l_1) (cutL (sepOf (ByteArray.mk #[10])) ((bs l).extract (↑x.snd.fst : Int).toNat (↑ (List.length l) :
 Int).toNat).data.toList).fst q).fst.evs i).kind, nm (evAt (lineR (Sc.mk x.fst.servers x.fst.clients x.fst.area l_1) (cutL (sepOf (ByteArray.mk #[10]))
 ((bs l).extract (↑x.snd.fst : Int).toNat (List.length l : Int).toNat).data.toList).fst q).fst.evs i).node, nm (evAt (lineR (Sc.mk x.fst.servers x.fst.clients
 x.fst.area l_1) (cutL (sepOf (ByteArray.mk #[10])) ((bs l).extract (↑x.snd.fst : Int).toNat (List.length l : Int).toNat).data.toList).fst
 q).fst.evs i).to, nm (evAt (lineR (Sc.mk x.fst.servers x.fst.clients x.fst.area l_1) (cutL (sepOf (ByteArray.mk #[10])) ((bs l).extract (↑x.snd.fst :
 Int).toNat (List.length l : Int).toNat).data.toList).fst q).fst.evs i).n, AV.rows 1 (evAt (lineR (Sc.mk x.fst.servers x.fst.clients x.fst.area l_1) (cutL
 (sepOf (ByteArray.mk #[10])) ((bs l).extract (↑x.snd.fst : Int).toNat (List.length l : Int).toNat).data.toList).fst q).fst.evs i).keep.length
 (boolF (evAt (lineR (Sc.mk x.fst.servers x.fst.clients x.fst.area l_1) (cutL (sepOf (ByteArray.mk #[10])) ((bs l).extract (↑x.snd.fst : Int).toNat (↑
 (List.length l) : Int).toNat).data.toList).fst q).fst.evs i).keep), AV.rows 1 (evAt (lineR (Sc.mk x.fst.servers x.fst.clients x.fst.area l_1) (cutL (sepOf
 (ByteArray.mk #[10])) ((bs l).extract (↑x.snd.fst : Int).toNat (List.length l : Int).toNat).data.toList).fst q).fst.evs i).conf.length (intF (evAt
 (lineR (Sc.mk x.fst.servers x.fst.clients x.fst.area l_1) (cutL (sepOf (ByteArray.mk #[10])) ((bs l).extract (↑x.snd.fst : Int).toNat (↑ (List.length
 l) : Int).toNat).data.toList).fst q).fst.evs i).conf), sl (evAt (lineR (Sc.mk x.fst.servers x.fst.clients x.fst.area l_1) (cutL (sepOf (ByteArray.mk #[10])) ((bs l).extract (↑x.snd.fst : Int).toNat (List.length l : Int).toNat).data.toList).fst q).fst.evs i).branch, AV.rows 2 (evAt (lineR (Sc.mk
 x.fst.servers x.fst.clients x.fst.area l_1) (cutL (sepOf (ByteArray.mk #[10])) ((bs l).extract (↑x.snd.fst : Int).toNat (↑ (List.length l) :
 Int).toNat).data.toList).fst q).fst.evs i).map.length (rowF (evAt (lineR (Sc.mk x.fst.servers x.fst.clients x.fst.area l_1) (cutL (sepOf (ByteArray.mk #[10])) ((bs l).extract (↑x.snd.fst : Int).toNat (List.length l : Int).toNat).data.toList).fst q).fst.evs i).map), AV.rows 3 (evAt (lineR (Sc.mk
 x.fst.servers x.fst.clients x.fst.area l_1) (cutL (sepOf (ByteArray.mk #[10])) ((bs l).extract (↑x.snd.fst : Int).toNat (↑ (List.length l) :
 Int).toNat).data.toList).fst q).fst.evs i).edit.length (chgF (evAt (lineR (Sc.mk x.fst.servers x.fst.clients x.fst.area l_1) (cutL (sepOf (ByteArray.mk #[10])) ((bs l).extract (↑x.snd.fst : Int).toNat (List.length l : Int).toNat).data.toList).fst q).fst.evs i).edit), AV.pl (Value.int IntKind.u32 (evAt
 (lineR (Sc.mk x.fst.servers x.fst.clients x.fst.area l_1) (cutL (sepOf (ByteArray.mk #[10])) ((bs l).extract (↑x.snd.fst : Int).toNat (↑ (List.length
 l) : Int).toNat).data.toList).fst q).fst.evs i).author), sl (evAt (lineR (Sc.mk x.fst.servers x.fst.clients x.fst.area l_1) (cutL (sepOf (ByteArray.mk #[10])) ((bs l).extract (↑x.snd.fst : Int).toNat (List.length l : Int).toNat).data.toList).fst q).fst.evs i).note, nm (evAt (lineR (Sc.mk x.fst.servers
 x.fst.clients x.fst.area l_1) (cutL (sepOf (ByteArray.mk #[10])) ((bs l).extract (↑x.snd.fst : Int).toNat (↑ (List.length l) :
 Int).toNat).data.toList).fst q).fst.evs i).ck, nm (evAt (lineR (Sc.mk x.fst.servers x.fst.clients x.fst.area l_1) (cutL (sepOf (ByteArray.mk #[10]))
 ((bs l).extract (↑x.snd.fst : Int).toNat (List.length l : Int).toNat).data.toList).fst q).fst.evs i).client, AV.pl (Value.int IntKind.u32 (evAt (lineR (Sc.mk
 x.fst.servers x.fst.clients x.fst.area l_1) (cutL (sepOf (ByteArray.mk #[10])) ((bs l).extract (↑x.snd.fst : Int).toNat (↑ (List.length l) :
 Int).toNat).data.toList).fst q).fst.evs i).seq), sl (evAt (lineR (Sc.mk x.fst.servers x.fst.clients x.fst.area l_1) (cutL (sepOf (ByteArray.mk #[10]))
 ((bs l).extract (↑x.snd.fst : Int).toNat (List.length l : Int).toNat).data.toList).fst q).fst.evs i).cbranch, AV.iarr IntKind.u8 32 (evAt (lineR (Sc.mk
 x.fst.servers x.fst.clients x.fst.area l_1) (cutL (sepOf (ByteArray.mk #[10])) ((bs l).extract (↑x.snd.fst : Int).toNat (↑ (List.length l) :
 Int).toNat).data.toList).fst q).fst.evs i).old, AV.iarr IntKind.u8 32 (evAt (lineR (Sc.mk x.fst.servers x.fst.clients x.fst.area l_1) (cutL (sepOf (ByteArray.mk
 #[(10 : UInt8)])) ((bs l).extract (↑x.snd.fst : Int).toNat (List.length l : Int).toNat).data.toList).fst q).fst.evs i).new, AV.rows 1 (List.length (evAt
 (lineR (Sc.mk x.fst.servers x.fst.clients x.fst.area l_1) (cutL (sepOf (ByteArray.mk #[10])) ((bs l).extract (↑x.snd.fst : Int).toNat (↑ (List.length
 l) : Int).toNat).data.toList).fst q).fst.evs i).data) (byteF (bs (evAt (lineR (Sc.mk x.fst.servers x.fst.clients x.fst.area l_1) (cutL (sepOf (ByteArray.mk #[(10
 : UInt8)])) ((bs l).extract (↑x.snd.fst : Int).toNat (List.length l : Int).toNat).data.toList).fst q).fst.evs i).data))] = AV.agg [nm (evAt y.fst.evs
 i).kind, nm (evAt y.fst.evs i).node, nm (evAt y.fst.evs i).to, nm (evAt y.fst.evs i).n, AV.rows 1 (evAt y.fst.evs i).keep.length (boolF (evAt y.fst.evs i).keep),
 AV.rows 1 (evAt y.fst.evs i).conf.length (intF (evAt y.fst.evs i).conf), sl (evAt y.fst.evs i).branch, AV.rows 2 (evAt y.fst.evs i).map.length (rowF (evAt
 y.fst.evs i).map), AV.rows 3 (evAt y.fst.evs i).edit.length (chgF (evAt y.fst.evs i).edit), AV.pl (Value.int IntKind.u32 (evAt y.fst.evs i).author), sl (evAt
 y.fst.evs i).note, nm (evAt y.fst.evs i).ck, nm (evAt y.fst.evs i).client, AV.pl (Value.int IntKind.u32 (evAt y.fst.evs i).seq), sl (evAt y.fst.evs i).cbranch,
 AV.iarr IntKind.u8 32 (evAt y.fst.evs i).old, AV.iarr IntKind.u8 32 (evAt y.fst.evs i).new, AV.rows 1 (List.length (evAt y.fst.evs i).data) (byteF (bs (evAt
 y.fst.evs i).data))]) /\ True) /\ inv y /\ (List.length l - y.snd.fst).succ.le (List.length l - x.snd.fst))) /\ (gEq (cutL (sepOf (ByteArray.mk #[10]))
 ((bs l).extract (↑x.snd.fst : Int).toNat (List.length l : Int).toNat).data.toList).snd.snd true = false -> true = true /\ ((!false) = true -> ∃ (x_1 : Sc × Nat
 × Nat × Bool), ((True /\ 0 = 0 /\ 0 = 0 /\ 0 = 0) /\ (0 : Int) = (0 : Int) /\ (0 : Int) = (0 : Int) /\ (True /\ 0 = 0 /\ 0 = 0 /\ 0 = 0) /\ (↑x.snd.fst : Int) =
 (↑x_1.snd.fst : Int) /\ (↑x.snd.snd.fst : Int) = (↑x_1.snd.snd.fst : Int) /\ false = x_1.snd.snd.snd /\ True) /\ ((27 = 27 /\ (0 : Int) = (0 : Int) /\ (0 : Int) = (0 :
 Int) /\ (0 : Int) = (0 : Int) /\ Value.slice none (0 : Nat) (0 : Nat) = Value.slice none (0 : Nat) (0 : Nat) /\ True) /\ (27 = 27 /\ x.fst.servers = x_1.fst.servers /\
 x.fst.clients = x_1.fst.clients /\ x.fst.area = x_1.fst.area /\ (True /\ 0 = 0 /\ x.fst.evs.length = x_1.fst.evs.length) /\ True) /\ (80 = 80 /\ 64 = 64 /\
 x_1.fst.evs.length.le x.fst.evs.length /\ ∀ (i : Nat), i < x_1.fst.evs.length -> AV.agg [nm (evAt x.fst.evs i).kind, nm (evAt x.fst.evs i).node, nm (evAt x.fst.evs
 i).to, nm (evAt x.fst.evs i).n, AV.rows 1 (evAt x.fst.evs i).keep.length (boolF (evAt x.fst.evs i).keep), AV.rows 1 (evAt x.fst.evs i).conf.length (intF (evAt
 x.fst.evs i).conf), sl (evAt x.fst.evs i).branch, AV.rows 2 (evAt x.fst.evs i).map.length (rowF (evAt x.fst.evs i).map), AV.rows 3 (evAt x.fst.evs i).edit.length
 (chgF (evAt x.fst.evs i).edit), AV.pl (Value.int IntKind.u32 (evAt x.fst.evs i).author), sl (evAt x.fst.evs i).note, nm (evAt x.fst.evs i).ck, nm (evAt x.fst.evs
 i).client, AV.pl (Value.int IntKind.u32 (evAt x.fst.evs i).seq), sl (evAt x.fst.evs i).cbranch, AV.iarr IntKind.u8 32 (evAt x.fst.evs i).old, AV.iarr IntKind.u8
 32 (evAt x.fst.evs i).new, AV.rows 1 (List.length (evAt x.fst.evs i).data) (byteF (bs (evAt x.fst.evs i).data))] = AV.agg [nm (evAt x_1.fst.evs i).kind, nm (evAt
 x_1.fst.evs i).node, nm (evAt x_1.fst.evs i).to, nm (evAt x_1.fst.evs i).n, AV.rows 1 (evAt x_1.fst.evs i).keep.length (boolF (evAt x_1.fst.evs i).keep), AV.rows
 1 (evAt x_1.fst.evs i).conf.length (intF (evAt x_1.fst.evs i).conf), sl (evAt x_1.fst.evs i).branch, AV.rows 2 (evAt x_1.fst.evs i).map.length (rowF (evAt
 x_1.fst.evs i).map), AV.rows 3 (evAt x_1.fst.evs i).edit.length (chgF (evAt x_1.fst.evs i).edit), AV.pl (Value.int IntKind.u32 (evAt x_1.fst.evs i).author), sl
 (evAt x_1.fst.evs i).note, nm (evAt x_1.fst.evs i).ck, nm (evAt x_1.fst.evs i).client, AV.pl (Value.int IntKind.u32 (evAt x_1.fst.evs i).seq), sl (evAt
 x_1.fst.evs i).cbranch, AV.iarr IntKind.u8 32 (evAt x_1.fst.evs i).old, AV.iarr IntKind.u8 32 (evAt x_1.fst.evs i).new, AV.rows 1 (List.length (evAt x_1.fst.evs
 i).data) (byteF (bs (evAt x_1.fst.evs i).data))]) /\ True) /\ inv2 x_1) /\ ((!false) = false -> ∃ (y : Sc × Nat × Nat × Bool), (bs l = bs l /\ (True /\ 0 = 0 /\ 0 = 0 /\
 0 = 0) /\ (0 : Int) = (0 : Int) /\ (0 : Int) = (0 : Int) /\ (True /\ 0 = 0 /\ 0 = 0 /\ 0 = 0) /\ IntKind.i64.wrap ((↑x.snd.fst : Int) + IntKind.i64.wrap ((↑
 (List.length (cutL (sepOf (ByteArray.mk #[10])) ((bs l).extract (↑x.snd.fst : Int).toNat (List.length l : Int).toNat).data.toList).fst) : Int) + (1
 : Int))) = (↑y.snd.fst : Int) /\ IntKind.i64.wrap ((↑x.snd.snd.fst : Int) + (1 : Int)) = (↑y.snd.snd.fst : Int) /\ false = y.snd.snd.snd /\ True) /\ ((27 = 27 /\ (0 :
 Int) = (0 : Int) /\ (0 : Int) = (0 : Int) /\ (0 : Int) = (0 : Int) /\ Value.slice none (0 : Nat) (0 : Nat) = Value.slice none (0 : Nat) (0 : Nat) /\ True) /\ (27 = 27
 /\ x.fst.servers = y.fst.servers /\ x.fst.clients = y.fst.clients /\ x.fst.area = y.fst.area /\ (True /\ 0 = 0 /\ x.fst.evs.length = y.fst.evs.length) /\ True) /\ (80 =
 80 /\ 64 = 64 /\ y.fst.evs.length.le x.fst.evs.length /\ ∀ (i : Nat), i < y.fst.evs.length -> AV.agg [nm (evAt x.fst.evs i).kind, nm (evAt x.fst.evs i).node, nm
 (evAt x.fst.evs i).to, nm (evAt x.fst.evs i).n, AV.rows 1 (evAt x.fst.evs i).keep.length (boolF (evAt x.fst.evs i).keep), AV.rows 1 (evAt x.fst.evs
 i).conf.length (intF (evAt x.fst.evs i).conf), sl (evAt x.fst.evs i).branch, AV.rows 2 (evAt x.fst.evs i).map.length (rowF (evAt x.fst.evs i).map), AV.rows 3
 (evAt x.fst.evs i).edit.length (chgF (evAt x.fst.evs i).edit), AV.pl (Value.int IntKind.u32 (evAt x.fst.evs i).author), sl (evAt x.fst.evs i).note, nm (evAt
 x.fst.evs i).ck, nm (evAt x.fst.evs i).client, AV.pl (Value.int IntKind.u32 (evAt x.fst.evs i).seq), sl (evAt x.fst.evs i).cbranch, AV.iarr IntKind.u8 32 (evAt
 x.fst.evs i).old, AV.iarr IntKind.u8 32 (evAt x.fst.evs i).new, AV.rows 1 (List.length (evAt x.fst.evs i).data) (byteF (bs (evAt x.fst.evs i).data))] = AV.agg
 [nm (evAt y.fst.evs i).kind, nm (evAt y.fst.evs i).node, nm (evAt y.fst.evs i).to, nm (evAt y.fst.evs i).n, AV.rows 1 (evAt y.fst.evs i).keep.length (boolF (evAt
 y.fst.evs i).keep), AV.rows 1 (evAt y.fst.evs i).conf.length (intF (evAt y.fst.evs i).conf), sl (evAt y.fst.evs i).branch, AV.rows 2 (evAt y.fst.evs
 i).map.length (rowF (evAt y.fst.evs i).map), AV.rows 3 (evAt y.fst.evs i).edit.length (chgF (evAt y.fst.evs i).edit), AV.pl (Value.int IntKind.u32 (evAt
 y.fst.evs i).author), sl (evAt y.fst.evs i).note, nm (evAt y.fst.evs i).ck, nm (evAt y.fst.evs i).client, AV.pl (Value.int IntKind.u32 (evAt y.fst.evs i).seq),
 sl (evAt y.fst.evs i).cbranch, AV.iarr IntKind.u8 32 (evAt y.fst.evs i).old, AV.iarr IntKind.u8 32 (evAt y.fst.evs i).new, AV.rows 1 (List.length (evAt y.fst.evs
 i).data) (byteF (bs (evAt y.fst.evs i).data))]) /\ True) /\ inv y /\ (List.length l - y.snd.fst).succ.le (List.length l - x.snd.fst)))) /\ (decide ((↑x.snd.fst :
 Int) < (List.length l : Int)) = false -> ∃ (x_1 : Sc × Nat × Nat × Bool), ((True /\ 0 = 0 /\ 0 = 0 /\ 0 = 0) /\ (0 : Int) = (0 : Int) /\ (0 : Int) = (0 : Int) /\
 (True /\ 0 = 0 /\ 0 = 0 /\ 0 = 0) /\ (↑x.snd.fst : Int) = (↑x_1.snd.fst : Int) /\ (↑x.snd.snd.fst : Int) = (↑x_1.snd.snd.fst : Int) /\ x.snd.snd.snd = x_1.snd.snd.snd
 /\ True) /\ ((27 = 27 /\ (0 : Int) = (0 : Int) /\ (0 : Int) = (0 : Int) /\ (0 : Int) = (0 : Int) /\ Value.slice none (0 : Nat) (0 : Nat) = Value.slice none (0 : Nat)
 (0 : Nat) /\ True) /\ (27 = 27 /\ x.fst.servers = x_1.fst.servers /\ x.fst.clients = x_1.fst.clients /\ x.fst.area = x_1.fst.area /\ (True /\ 0 = 0 /\ x.fst.evs.length =
 x_1.fst.evs.length) /\ True) /\ (80 = 80 /\ 64 = 64 /\ x_1.fst.evs.length.le x.fst.evs.length /\ ∀ (i : Nat), i < x_1.fst.evs.length -> AV.agg [nm (evAt x.fst.evs
 i).kind, nm (evAt x.fst.evs i).node, nm (evAt x.fst.evs i).to, nm (evAt x.fst.evs i).n, AV.rows 1 (evAt x.fst.evs i).keep.length (boolF (evAt x.fst.evs i).keep),
 AV.rows 1 (evAt x.fst.evs i).conf.length (intF (evAt x.fst.evs i).conf), sl (evAt x.fst.evs i).branch, AV.rows 2 (evAt x.fst.evs i).map.length (rowF (evAt
 x.fst.evs i).map), AV.rows 3 (evAt x.fst.evs i).edit.length (chgF (evAt x.fst.evs i).edit), AV.pl (Value.int IntKind.u32 (evAt x.fst.evs i).author), sl (evAt
 x.fst.evs i).note, nm (evAt x.fst.evs i).ck, nm (evAt x.fst.evs i).client, AV.pl (Value.int IntKind.u32 (evAt x.fst.evs i).seq), sl (evAt x.fst.evs i).cbranch,
 AV.iarr IntKind.u8 32 (evAt x.fst.evs i).old, AV.iarr IntKind.u8 32 (evAt x.fst.evs i).new, AV.rows 1 (List.length (evAt x.fst.evs i).data) (byteF (bs (evAt
 x.fst.evs i).data))] = AV.agg [nm (evAt x_1.fst.evs i).kind, nm (evAt x_1.fst.evs i).node, nm (evAt x_1.fst.evs i).to, nm (evAt x_1.fst.evs i).n, AV.rows 1 (evAt
 x_1.fst.evs i).keep.length (boolF (evAt x_1.fst.evs i).keep), AV.rows 1 (evAt x_1.fst.evs i).conf.length (intF (evAt x_1.fst.evs i).conf), sl (evAt x_1.fst.evs
 i).branch, AV.rows 2 (evAt x_1.fst.evs i).map.length (rowF (evAt x_1.fst.evs i).map), AV.rows 3 (evAt x_1.fst.evs i).edit.length (chgF (evAt x_1.fst.evs
 i).edit), AV.pl (Value.int IntKind.u32 (evAt x_1.fst.evs i).author), sl (evAt x_1.fst.evs i).note, nm (evAt x_1.fst.evs i).ck, nm (evAt x_1.fst.evs i).client,
 AV.pl (Value.int IntKind.u32 (evAt x_1.fst.evs i).seq), sl (evAt x_1.fst.evs i).cbranch, AV.iarr IntKind.u8 32 (evAt x_1.fst.evs i).old, AV.iarr IntKind.u8 32
 (evAt x_1.fst.evs i).new, AV.rows 1 (List.length (evAt x_1.fst.evs i).data) (byteF (bs (evAt x_1.fst.evs i).data))]) /\ True) /\ inv2 x_1)) /\ ∀ (x : Sc × Nat × Nat
 × Bool), inv2 x -> ((bif !x.snd.snd.snd then true else decide ((↑x.snd.snd.fst : Int) < (1 : Int))) = true -> True /\ (True /\ True /\ True /\ True) /\ ((True /\ True /\
 True /\ True /\ True) /\ True /\ True /\ True) /\ ∃ (x_1 : Unit), ((((0 : Int) = (parseR l).fst.servers /\ (0 : Int) = (parseR l).fst.clients /\ (0 : Int) = (parseR
 l).fst.area /\ (True /\ (parseR l).fst.evs.length = (0 : Nat)) /\ True) /\ (↑x.snd.fst : Int) = (↑ (parseR l).snd.fst : Int) /\ (360 : Int) = (parseR l).snd.snd /\
 True) /\ True) /\ True /\ R (AV.tup [AV.agg [nm (parseR l).fst.servers, nm (parseR l).fst.clients, nm (parseR l).fst.area, AV.rows 80 (parseR l).fst.evs.length (evF
 (parseR l).fst.evs)], nm (↑ (parseR l).snd.fst : Int), nm (parseR l).snd.snd]) []) /\ ((bif !x.snd.snd.snd then true else decide ((↑x.snd.snd.fst : Int) < (1 :
 Int))) = false -> True /\ (True /\ True /\ True /\ True) /\ ((True /\ True /\ True /\ ((0 : Nat) + x.fst.evs.length).le x.fst.evs.length /\ True) /\ True /\ True /\ True) /\ ∃
 (x_1 : Unit), (((x.fst.servers = (parseR l).fst.servers /\ x.fst.clients = (parseR l).fst.clients /\ x.fst.area = (parseR l).fst.area /\ (80 = 80 /\ x.fst.evs.length
 = (parseR l).fst.evs.length /\ ∀ (i : Nat), i < x.fst.evs.length -> AV.agg [nm (evAt x.fst.evs ((0 : Nat) + i)).kind, nm (evAt x.fst.evs ((0 : Nat) + i)).node, nm
 (evAt x.fst.evs ((0 : Nat) + i)).to, nm (evAt x.fst.evs ((0 : Nat) + i)).n, AV.rows 1 (evAt x.fst.evs ((0 : Nat) + i)).keep.length (boolF (evAt x.fst.evs ((0 :
 Nat) + i)).keep), AV.rows 1 (evAt x.fst.evs ((0 : Nat) + i)).conf.length (intF (evAt x.fst.evs ((0 : Nat) + i)).conf), sl (evAt x.fst.evs ((0 : Nat) +
 i)).branch, AV.rows 2 (evAt x.fst.evs ((0 : Nat) + i)).map.length (rowF (evAt x.fst.evs ((0 : Nat) + i)).map), AV.rows 3 (evAt x.fst.evs ((0 : Nat) +
 i)).edit.length (chgF (evAt x.fst.evs ((0 : Nat) + i)).edit), AV.pl (Value.int IntKind.u32 (evAt x.fst.evs ((0 : Nat) + i)).author), sl (evAt x.fst.evs ((0 :
 Nat) + i)).note, nm (evAt x.fst.evs ((0 : Nat) + i)).ck, nm (evAt x.fst.evs ((0 : Nat) + i)).client, AV.pl (Value.int IntKind.u32 (evAt x.fst.evs ((0 : Nat) +
 i)).seq), sl (evAt x.fst.evs ((0 : Nat) + i)).cbranch, AV.iarr IntKind.u8 32 (evAt x.fst.evs ((0 : Nat) + i)).old, AV.iarr IntKind.u8 32 (evAt x.fst.evs ((0 :
 Nat) + i)).new, AV.rows 1 (List.length (evAt x.fst.evs ((0 : Nat) + i)).data) (byteF (bs (evAt x.fst.evs ((0 : Nat) + i)).data))] = AV.agg [nm (evAt (parseR
 l).fst.evs i).kind, nm (evAt (parseR l).fst.evs i).node, nm (evAt (parseR l).fst.evs i).to, nm (evAt (parseR l).fst.evs i).n, AV.rows 1 (evAt (parseR l).fst.evs
 i).keep.length (boolF (evAt (parseR l).fst.evs i).keep), AV.rows 1 (evAt (parseR l).fst.evs i).conf.length (intF (evAt (parseR l).fst.evs i).conf), sl (evAt
 (parseR l).fst.evs i).branch, AV.rows 2 (evAt (parseR l).fst.evs i).map.length (rowF (evAt (parseR l).fst.evs i).map), AV.rows 3 (evAt (parseR l).fst.evs
 i).edit.length (chgF (evAt (parseR l).fst.evs i).edit), AV.pl (Value.int IntKind.u32 (evAt (parseR l).fst.evs i).author), sl (evAt (parseR l).fst.evs i).note, nm
 (evAt (parseR l).fst.evs i).ck, nm (evAt (parseR l).fst.evs i).client, AV.pl (Value.int IntKind.u32 (evAt (parseR l).fst.evs i).seq), sl (evAt (parseR l).fst.evs
 i).cbranch, AV.iarr IntKind.u8 32 (evAt (parseR l).fst.evs i).old, AV.iarr IntKind.u8 32 (evAt (parseR l).fst.evs i).new, AV.rows 1 (List.length (evAt (parseR
 l).fst.evs i).data) (byteF (bs (evAt (parseR l).fst.evs i).data))]) /\ True) /\ (0 : Int) = (↑ (parseR l).snd.fst : Int) /\ (0 : Int) = (parseR l).snd.snd /\ True) /\
 True) /\ True /\ R (AV.tup [AV.agg [nm (parseR l).fst.servers, nm (parseR l).fst.clients, nm (parseR l).fst.area, AV.rows 80 (parseR l).fst.evs.length (evF (parseR
 l).fst.evs)], nm (↑ (parseR l).snd.fst : Int), nm (parseR l).snd.snd]) []))) := by kernel_rfl
theorem vPrint (a b c : Int) (l : List Ev) (inv : Nat -> Prop) (R : AV -> List LObj -> Prop) :
  (vcA false false 0 [1, 2] Tryd.prog (mkTab [(25, .lend TCheck), (17, .hand tkW TWrS), (19, .hand tkW TWrB), (18, .hand tkW TNums), (26, .hand tkW TWEvent), (27, .hand tkW TBLen), (21, .hand tkW TBStr)]) (optC (Tryd.f12.body.getD .skip)) ([.loop 9 Nat inv (fun i => ⟨slotsOf 43 0 [(1, .ptr 0 0 0 0), (2, sl []), (3, nm 0), (5, .ptr 1 0 0 0), (29, evsAV l), (30, nm l.length), (31, nm i)], .box tySc [nm a, nm b, nm c, evsAV l] :: wB 1 (printL ⟨a, b, c, l.take i⟩)⟩) (fun i => l.length - i) (fun _ => [])]) (finalK Tryd.prog Tryd.f12 (R)) (startSt Tryd.f12 ([.agg [nm a, nm b, nm c, evsAV l]]))) = (
 True /\ ∃ (l_1 : List Ev), IsEvs (AV.rows 80 l.length (evF l)) l_1 /\ ((checkE l_1 != (0 : Int)) = true -> (True /\ True /\ True) /\ (True /\ True /\ True) /\ R (AV.tup
 [AV.pl (Value.string (ByteArray.mk #[])), nm (checkE l_1)]) []) /\ ((checkE l_1 != (0 : Int)) = false -> True /\ (True /\ True /\ True) /\ (78 = 78 /\ (ByteArray.mk
 #[(119 : UInt8), (111 : UInt8), (114 : UInt8), (108 : UInt8), (100 : UInt8)]).size.le lim) /\ True /\ (True /\ ((0 : Nat) + (3 : Nat)).le (3 : Nat) /\ True) /\ ∃ (l_2
 : Bs), ∃ (ns : List Int), (78 = 78 /\ IsBytes (1 : Nat) (5 : Nat) (5 : Nat) (5 : Nat) (byteF (bs ([119, 111, 114, 108, 100] : Bs))) l_2 /\ IsInts (AV.rows 1 3 fun
 (i : Nat) => rowOf [((0 : Nat), nm a), ((1 : Nat), nm b), ((2 : Nat), nm c)] ((0 : Nat) + i)) ns /\ (List.length l_2 + 22 * ns.length).le lim /\ ∀ (n : Int), n ∈
 ns -> (-9223372036854775808 : Int) <= n /\ n <= (9223372036854775807 : Int)) /\ nflB (AV.tup []) = true /\ (nflL [AV.ptr 0 0 0 0, AV.own 2 0 (List.length (l_2 ++ nums
 ns))] = true /\ True /\ (∀ (i : Nat), i < List.length (l_2 ++ nums ns) -> flatB (byteF (bs (l_2 ++ nums ns)) i) = true) /\ True) /\ (True /\ True /\ True) /\ ∃ (l_3 :
 Bs), (78 = 78 /\ IsBytes (1 : Nat) (5 : Nat) (List.length (l_2 ++ nums ns)) (List.length (l_2 ++ nums ns)) (byteF (bs (l_2 ++ nums ns))) l_3 /\ (List.length l_3 +
 1).le lim /\ (0 : Int) <= (10 : Int) /\ (10 : Int) + (1 : Int) <= (256 : Int)) /\ (∃ (x : Nat), ((True /\ 0 = 0 /\ 0 = 0 /\ 0 = 0) /\ ByteArray.mk #[] = bs [] /\ (0 : Int)
 = (0 : Int) /\ (True /\ 0 = 0 /\ 0 = 0 /\ 0 = 0) /\ (80 = 80 /\ l.length = l.length /\ ∀ (i : Nat), i < l.length -> evF l i = evF l i) /\ (l.length : Int) = (↑l.length :
 Int) /\ (0 : Int) = (x : Int) /\ True) /\ ((27 = 27 /\ a = a /\ b = b /\ c = c /\ (80 = 80 /\ l.length = l.length /\ ∀ (i : Nat), i < l.length -> evF l i = evF l i) /\
 True) /\ (78 = 78 /\ (True /\ 0 = 0 /\ 0 = 0 /\ 0 = 0) /\ (True /\ 0 = 0 /\ List.length (l_3 ++ [UInt8.ofNat (Int.toNat (10 : Int))]) = List.length (printL (Sc.mk a b c
 (List.take x l)))) /\ True) /\ (1 = 1 /\ 5 = 5 /\ (List.length (printL (Sc.mk a b c (List.take x l)))).le (List.length (l_3 ++ [UInt8.ofNat (Int.toNat (10 : Int))]))
 /\ ∀ (i : Nat), i < List.length (printL (Sc.mk a b c (List.take x l))) -> AV.pl (Value.int IntKind.u8 (↑ ((l_3 ++ [UInt8.ofNat (Int.toNat (10 : Int))]).getD i (0 :
 UInt8)).toNat : Int)) = AV.pl (Value.int IntKind.u8 (↑ ((printL (Sc.mk a b c (List.take x l))).getD i (0 : UInt8)).toNat : Int))) /\ True) /\ inv x) /\ ∀ (x : Nat),
 inv x -> (decide ((x : Int) < (l.length : Int)) = true -> ((0 : Int) <= (x : Int) /\ (x : Int) + (1 : Int) <= (l.length : Int)) /\ True /\ True /\ (True /\ True /\
 True) /\ ∃ (l_4 : Bs), ∃ (v : Ev), (78 = 78 /\ IsBytes (1 : Nat) (5 : Nat) (List.length (printL (Sc.mk a b c (List.take x l)))) (List.length (printL (Sc.mk a b c
 (List.take x l)))) (byteF (bs (printL (Sc.mk a b c (List.take x l))))) l_4 /\ IsEv (AV.agg [nm (evAt l (x : Int).toNat).kind, nm (evAt l (x : Int).toNat).node,
 nm (evAt l (x : Int).toNat).to, nm (evAt l (x : Int).toNat).n, AV.rows 1 (evAt l (x : Int).toNat).keep.length (boolF (evAt l (x : Int).toNat).keep), AV.rows
 1 (evAt l (x : Int).toNat).conf.length (intF (evAt l (x : Int).toNat).conf), sl (evAt l (x : Int).toNat).branch, AV.rows 2 (evAt l (↑x :
 Int).toNat).map.length (rowF (evAt l (x : Int).toNat).map), AV.rows 3 (evAt l (x : Int).toNat).edit.length (chgF (evAt l (x : Int).toNat).edit), AV.pl
 (Value.int IntKind.u32 (evAt l (x : Int).toNat).author), sl (evAt l (x : Int).toNat).note, nm (evAt l (x : Int).toNat).ck, nm (evAt l (↑x :
 Int).toNat).client, AV.pl (Value.int IntKind.u32 (evAt l (x : Int).toNat).seq), sl (evAt l (x : Int).toNat).cbranch, AV.iarr IntKind.u8 32 (evAt l (↑x :
 Int).toNat).old, AV.iarr IntKind.u8 32 (evAt l (x : Int).toNat).new, AV.rows 1 (List.length (evAt l (x : Int).toNat).data) (byteF (bs (evAt l (↑x :
 Int).toNat).data))]) v /\ (((-9223372036854775808 : Int) <= v.kind /\ v.kind <= (9223372036854775807 : Int)) /\ ((-9223372036854775808 : Int) <= v.node /\ v.node ≤
 (9223372036854775807 : Int)) /\ ((-9223372036854775808 : Int) <= v.to /\ v.to <= (9223372036854775807 : Int)) /\ ((-9223372036854775808 : Int) <= v.n /\ v.n ≤
 (9223372036854775807 : Int)) /\ (∀ (x : Int), x ∈ v.conf -> (-9223372036854775808 : Int) <= x /\ x <= (9223372036854775807 : Int)) /\ ((-9223372036854775808 : Int) ≤
 v.ck /\ v.ck <= (9223372036854775807 : Int)) /\ ((0 : Int) <= v.author /\ v.author + (1 : Int) <= (4294967296 : Int)) /\ ∀ (i : Nat), i < (32 : Nat) -> (0 : Int) <= v.new
 i /\ v.new i + (1 : Int) <= (256 : Int)) /\ wrongE v = false /\ (List.length l_4 + 1000000).le lim) /\ ∃ (y : Nat), ((True /\ 0 = 0 /\ 0 = 0 /\ 0 = 0) /\ bs [] = bs [] /\
 (0 : Int) = (0 : Int) /\ (True /\ 0 = 0 /\ 0 = 0 /\ 0 = 0) /\ (80 = 80 /\ l.length = l.length /\ ∀ (i : Nat), i < l.length -> evF l i = evF l i) /\ (l.length : Int) =
 (l.length : Int) /\ IntKind.i64.wrap ((x : Int) + (1 : Int)) = (y : Int) /\ True) /\ ((27 = 27 /\ a = a /\ b = b /\ c = c /\ (80 = 80 /\ l.length = l.length /\ ∀ (i :
 Nat), i < l.length -> evF l i = evF l i) /\ True) /\ (78 = 78 /\ (True /\ 0 = 0 /\ 0 = 0 /\ 0 = 0) /\ (True /\ 0 = 0 /\ List.length (l_4 ++ evL v) = List.length (printL
 (Sc.mk a b c (List.take y l)))) /\ True) /\ (1 = 1 /\ 5 = 5 /\ (List.length (printL (Sc.mk a b c (List.take y l)))).le (List.length (l_4 ++ evL v)) /\ ∀ (i : Nat), i
 < List.length (printL (Sc.mk a b c (List.take y l))) -> AV.pl (Value.int IntKind.u8 (↑ ((l_4 ++ evL v).getD i (0 : UInt8)).toNat : Int)) = AV.pl (Value.int
 IntKind.u8 (↑ ((printL (Sc.mk a b c (List.take y l))).getD i (0 : UInt8)).toNat : Int))) /\ True) /\ inv y /\ (l.length - y).succ.le (l.length - x)) /\ (decide ((↑x
 : Int) < (l.length : Int)) = false -> (True /\ True) /\ 78 = 78 /\ (decide ((↑ (List.length (printL (Sc.mk a b c (List.take x l)))) : Int) > (262144 : Int)) = true
 -> (True /\ True /\ True) /\ (True /\ True /\ True) /\ R (AV.tup [AV.pl (Value.string (ByteArray.mk #[])), nm 3]) []) /\ (decide ((↑ (List.length (printL (Sc.mk a b c
 (List.take x l)))) : Int) > (262144 : Int)) = false -> (True /\ True) /\ ∃ (l_4 : Bs), (78 = 78 /\ IsBytes (1 : Nat) (5 : Nat) (List.length (printL (Sc.mk a b c
 (List.take x l)))) (List.length (printL (Sc.mk a b c (List.take x l)))) (byteF (bs (printL (Sc.mk a b c (List.take x l))))) l_4 /\ (Nat.succ (0 : Nat)).le
 (List.length l_4) /\ (List.length l_4).le lim) /\ (True /\ True /\ True) /\ (True /\ True /\ True) /\ R (AV.tup [sl l_4, nm 0]) [])))) := by kernel_rfl
end Go.Proofs.Sd
