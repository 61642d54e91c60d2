/- A seat of the scripts: what the functions of events do. -/
import Derived.Test.YtbjhikadmmolfaaGreatDoorMD
import Derived.Lib.Join
set_option linter.unusedSectionVars false
set_option linter.unusedVariables false
set_option linter.unusedSimpArgs false
set_option maxRecDepth 100000
set_option maxHeartbeats 4000000
namespace Go.Proofs.Sz
open Go Go.Am Go.SP
theorem mkSo {f : FuncId} {fn : Func} {args : List AV} {R : AV -> List LObj -> Prop} {C : Table} {an : List Ann} {ts : List Nat} {lt : Bool} {X : Prop}
  (v : vcA false lt 0 ts Tryz.prog C (optC (fn.body.getD .skip)) an (finalK Tryz.prog fn R) (startSt fn args) = X) (hC : TableOk Tryz.prog C) (hf : Tryz.prog.funcs[f]? = some fn) (hb : fn.body = some (fn.body.getD .skip)) (h : X) : Am.Spec Tryz.prog f args R :=
 spec_of_code hf hb ((vcO_sound hC mixed _ (λ _ => rfl)).1 (v ▸ h))
theorem mkHo {f : FuncId} {fn : Func} {H0 : List LObj} {args : List AV} {R : AV -> List LObj -> Prop} {C : Table} {an : List Ann} {ts : List Nat} {lt : Bool} {X : Prop}
  (v : vcA false lt (List.length (H0 : List LObj)) ts Tryz.prog C (optC (fn.body.getD .skip)) an (finalKH Tryz.prog fn R) (startStH fn H0 args) = X) (hC : TableOk Tryz.prog C) (hf : Tryz.prog.funcs[f]? = some fn) (hb : fn.body = some (fn.body.getD .skip)) (h : X) : Am.SpecH Tryz.prog f H0 args R :=
 spec_of_codeH hf hb ((vcO_sound hC mixed _ (λ _ => rfl)).1 (v ▸ h))
theorem mkGo {f : FuncId} {fn : Func} {H0 : List LObj} {args : List AV} {R : AV -> List LObj -> Prop} {C : Table} {an : List Ann} {ts : List Nat} {lt : Bool} {X : Prop}
  (v : vcA false lt (List.length (H0 : List LObj)) ts Tryz.prog C (optC (fn.body.getD .skip)) an (finalKS Tryz.prog fn (List.length (H0 : List LObj)) R) (startStH fn H0 args) = X) (hC : TableOk Tryz.prog C) (hf : Tryz.prog.funcs[f]? = some fn) (hb : fn.body = some (fn.body.getD .skip)) (h : X) : Am.SpecH Tryz.prog f H0 args R :=
 spec_of_codeS hf hb ((vcO_sound hC mixed _ (λ _ => rfl)).1 (v ▸ h))
abbrev tyEv : TypeId := 62
abbrev tyStr : TypeId := 9
def IsEv (x : AV) (e : Ev) : Prop := leA (idN 0) x e.av
def wordF (i : Nat) : AV := sl (wordsL.getD i [])
def TWords : Trans := λ args K => match args with
 | [] => K (.own 0 0 16) [.row 1 tyStr 16 wordF]
 | _ => False
def idxT (w : Bs) (ls : List Bs) : Int := match ls.findIdx? (· == w) with
 | some i => (i : Int)
 | none => -1
def TIdxT : Trans := λ args K => match args with
 | [x, .pl (.string w)] => ∃ ls : List Bs, (IsTexts x ls /\ ls.length <= 1000) /\ K (nm (idxT w.data.toList ls)) []
 | _ => False
def slcB : AV -> Bool
 | .rows _ _ _ => true
 | .pl _ => true
 | _ => false
def TStamped : Trans := λ args K => match args with
 | [.agg [.pl (.int .i64 k), .pl _, .pl _, .pl _, a, b, .pl _, c, d, .pl _, .pl _, .pl _, .pl _, .pl _, .pl _, .iarr .u8 32 _, .iarr .u8 32 _, e]] => match slcB a && slcB b && (slcB c && slcB d) && slcB e with
  | true => K (bl (stampedK k)) []
  | false => False
 | _ => False
def clsK (k : Int) : Nat := bif kNN k then 1 else bif kN k then 2 else bif kNT k then 3 else bif k1 k then 4 else bif k == 14 then 5 else 0
abbrev tyPI : TypeId := 107
def cellsZ (e : Ev) : List AV := [nm e.kind, nm e.node, nm e.to, nm e.n, nilS, nilS, sl e.branch, nilS, nilS, .pl (.int .u32 e.author), sl e.note, nm e.ck, nm e.client, .pl (.int .u32 e.seq), sl e.cbranch, .iarr .u8 32 e.old, .iarr .u8 32 e.new, nilS]
def resF (k : Int) (cs : List AV) (K : AV -> List LObj -> Prop) : Prop :=
 (clsK k = 1 -> K (.own 1 0 2) [.box tyEv cs, .prow tyPI [.ptr 0 0 1 0, .ptr 0 0 3 0]]) /\ (clsK k = 2 -> K (.own 1 0 1) [.box tyEv cs, .prow tyPI [.ptr 0 0 3 0]]) /\
 (clsK k = 3 -> K (.own 1 0 2) [.box tyEv cs, .prow tyPI [.ptr 0 0 1 0, .ptr 0 0 2 0]]) /\ (clsK k = 4 -> K (.own 1 0 1) [.box tyEv cs, .prow tyPI [.ptr 0 0 1 0]]) /\
 (clsK k = 5 -> K (.own 1 0 2) [.box tyEv cs, .prow tyPI [.ptr 0 0 1 0, .ptr 0 0 11 0]]) /\ (clsK k = 0 -> K nilS [.box tyEv cs])
def resL (k : Int) (cs : List AV) (K : AV -> List LObj -> Prop) : Prop := match clsK k with
 | 0 => K nilS [.box tyEv cs]
 | 1 => K (.own 1 0 2) [.box tyEv cs, .prow tyPI [.ptr 0 0 1 0, .ptr 0 0 3 0]]
 | 2 => K (.own 1 0 1) [.box tyEv cs, .prow tyPI [.ptr 0 0 3 0]]
 | 3 => K (.own 1 0 2) [.box tyEv cs, .prow tyPI [.ptr 0 0 1 0, .ptr 0 0 2 0]]
 | 4 => K (.own 1 0 1) [.box tyEv cs, .prow tyPI [.ptr 0 0 1 0]]
 | 5 => K (.own 1 0 2) [.box tyEv cs, .prow tyPI [.ptr 0 0 1 0, .ptr 0 0 11 0]]
 | _ => False
theorem resL_F {k : Int} {cs : List AV} {K : AV -> List LObj -> Prop} (h : resL k cs K) : resF k cs K := by
 unfold resL at h
 refine ⟨λ e1 => ?_, λ e1 => ?_, λ e1 => ?_, λ e1 => ?_, λ e1 => ?_, λ e1 => ?_⟩ <;> (rw [e1] at h; exact h)
def TFields : HTrans := λ H args K => match H, args with
 | [.box t [.pl (.int .i64 k), .pl (.int .i64 a), .pl (.int .i64 b), .pl (.int .i64 c), .rows 1 n1 f1, .rows 1 n2 f2, .pl (.string s1), .rows 2 n3 f3, .rows 3 n4 f4, .pl (.int .u32 x), .pl (.string s2), .pl (.int .i64 d), .pl (.int .i64 e), .pl (.int .u32 y), .pl (.string s3), .iarr .u8 32 o, .iarr .u8 32 w, .rows 1 n5 f5]], [.ptr 0 0 0 0] => t = tyEv /\ resF k [.pl (.int .i64 k), .pl (.int .i64 a), .pl (.int .i64 b), .pl (.int .i64 c), .rows 1 n1 f1, .rows 1 n2 f2, .pl (.string s1), .rows 2 n3 f3, .rows 3 n4 f4, .pl (.int .u32 x), .pl (.string s2), .pl (.int .i64 d), .pl (.int .i64 e), .pl (.int .u32 y), .pl (.string s3), .iarr .u8 32 o, .iarr .u8 32 w, .rows 1 n5 f5] K
 | [.box t [.pl (.int .i64 k), .pl (.int .i64 a), .pl (.int .i64 b), .pl (.int .i64 c), .pl (.slice none 0 0), .pl (.slice none 0 0), .pl (.string s1), .pl (.slice none 0 0), .pl (.slice none 0 0), .pl (.int .u32 x), .pl (.string s2), .pl (.int .i64 d), .pl (.int .i64 e), .pl (.int .u32 y), .pl (.string s3), .iarr .u8 32 o, .iarr .u8 32 w, .pl (.slice none 0 0)]], [.ptr 0 0 0 0] => t = tyEv /\ resF k [.pl (.int .i64 k), .pl (.int .i64 a), .pl (.int .i64 b), .pl (.int .i64 c), .pl (.slice none 0 0), .pl (.slice none 0 0), .pl (.string s1), .pl (.slice none 0 0), .pl (.slice none 0 0), .pl (.int .u32 x), .pl (.string s2), .pl (.int .i64 d), .pl (.int .i64 e), .pl (.int .u32 y), .pl (.string s3), .iarr .u8 32 o, .iarr .u8 32 w, .pl (.slice none 0 0)] K
 | _, _ => False
def TFieldsL : HTrans := λ H args K => match H, args with
 | [.box t [.pl (.int .i64 k), .pl (.int .i64 a), .pl (.int .i64 b), .pl (.int .i64 c), .rows 1 n1 f1, .rows 1 n2 f2, .pl (.string s1), .rows 2 n3 f3, .rows 3 n4 f4, .pl (.int .u32 x), .pl (.string s2), .pl (.int .i64 d), .pl (.int .i64 e), .pl (.int .u32 y), .pl (.string s3), .iarr .u8 32 o, .iarr .u8 32 w, .rows 1 n5 f5]], [.ptr 0 0 0 0] => t = tyEv /\ resL k [.pl (.int .i64 k), .pl (.int .i64 a), .pl (.int .i64 b), .pl (.int .i64 c), .rows 1 n1 f1, .rows 1 n2 f2, .pl (.string s1), .rows 2 n3 f3, .rows 3 n4 f4, .pl (.int .u32 x), .pl (.string s2), .pl (.int .i64 d), .pl (.int .i64 e), .pl (.int .u32 y), .pl (.string s3), .iarr .u8 32 o, .iarr .u8 32 w, .rows 1 n5 f5] K
 | [.box t [.pl (.int .i64 k), .pl (.int .i64 a), .pl (.int .i64 b), .pl (.int .i64 c), .pl (.slice none 0 0), .pl (.slice none 0 0), .pl (.string s1), .pl (.slice none 0 0), .pl (.slice none 0 0), .pl (.int .u32 x), .pl (.string s2), .pl (.int .i64 d), .pl (.int .i64 e), .pl (.int .u32 y), .pl (.string s3), .iarr .u8 32 o, .iarr .u8 32 w, .pl (.slice none 0 0)]], [.ptr 0 0 0 0] => t = tyEv /\ resL k [.pl (.int .i64 k), .pl (.int .i64 a), .pl (.int .i64 b), .pl (.int .i64 c), .pl (.slice none 0 0), .pl (.slice none 0 0), .pl (.string s1), .pl (.slice none 0 0), .pl (.slice none 0 0), .pl (.int .u32 x), .pl (.string s2), .pl (.int .i64 d), .pl (.int .i64 e), .pl (.int .u32 y), .pl (.string s3), .iarr .u8 32 o, .iarr .u8 32 w, .pl (.slice none 0 0)] K
 | _, _ => False
def cellsK (k : Int) (e : Ev) : List AV := [nm k, nm e.node, nm e.to, nm e.n, .rows 1 e.keep.length (boolF e.keep), .rows 1 e.conf.length (intF e.conf), sl e.branch, .rows 2 e.map.length (rowF e.map), .rows 3 e.edit.length (chgF e.edit), .pl (.int .u32 e.author), sl e.note, nm e.ck, nm e.client, .pl (.int .u32 e.seq), sl e.cbranch, .iarr .u8 32 e.old, .iarr .u8 32 e.new, .rows 1 e.data.length (byteF (bs e.data))]
def IsBools (x : AV) (l : List Bool) : Prop := leA (idN 0) x (.rows 1 l.length (boolF l))
def IsMap (x : AV) (l : List (Bs × Bs)) : Prop := leA (idN 0) x (.rows 2 l.length (rowF l))
def IsEdit (x : AV) (l : List (Bs × Bool × Bs)) : Prop := leA (idN 0) x (.rows 3 l.length (chgF l))
def IsRow8 (x : AV) (l : Bs) : Prop := leA (idN 0) x (.rows 1 l.length (byteF (bs l)))
def TEqBool : Trans := λ args K => match args with
 | [x, y] => ∃ a b : List Bool, (IsBools x a /\ IsBools y b) /\ K (bl (a == b)) []
 | _ => False
def IsInts0 (x : AV) (l : List Int) : Prop := leA (idN 0) x (.rows 1 l.length (intF l))
def TEqInt : Trans := λ args K => match args with
 | [x, y] => ∃ a b : List Int, (IsInts0 x a /\ IsInts0 y b) /\ K (bl (a == b)) []
 | _ => False
def TEqMap : Trans := λ args K => match args with
 | [x, y] => ∃ a b : List (Bs × Bs), (IsMap x a /\ IsMap y b) /\ K (bl (a == b)) []
 | _ => False
def TEqEdit : Trans := λ args K => match args with
 | [x, y] => ∃ a b : List (Bs × Bool × Bs), (IsEdit x a /\ IsEdit y b) /\ K (bl (a == b)) []
 | _ => False
def TSameMap : Trans := λ args K => match args with
 | [.agg [x], .agg [y]] => ∃ a b : List (Bs × Bs), (IsMap x a /\ IsMap y b) /\ K (bl (a == b)) []
 | _ => False
def TSameEdit : Trans := λ args K => match args with
 | [.agg [x], .agg [y]] => ∃ a b : List (Bs × Bool × Bs), (IsEdit x a /\ IsEdit y b) /\ K (bl (a == b)) []
 | _ => False
def TEqBytes : Trans := λ args K => match args with
 | [x, y] => ∃ a b : Bs, (IsRow8 x a /\ IsRow8 y b) /\ K (bl (a == b)) []
 | _ => False
def TSameEv : Trans := λ args K => match args with
 | [x, y] => ∃ a b : Ev, (IsEv x a /\ IsEv y b) /\ K (bl (sameE a b)) []
 | _ => False
def TSpoken : Trans := λ args K => match args with
 | [x] => ∃ e : Ev, (IsEv x e /\ 1 <= e.kind /\ e.kind <= 15) /\ K (spokenE e).av []
 | _ => False
def TLong : Trans := λ args K => match args with
 | [x] => ∃ ls : List Bs, (IsTexts x ls /\ ls.length <= 1000) /\ K (bl (ls.any longB)) []
 | _ => False
def TWrong : Trans := λ args K => match args with
 | [x] => ∃ e : Ev, IsEv x e /\ K (bl (wrongE e)) []
 | _ => False
def evAt (l : List Ev) (i : Nat) : Ev := l.getD i ev0
def evF (l : List Ev) (i : Nat) : AV := (evAt l i).av
def evsAV (l : List Ev) : AV := .rows 80 l.length (evF l)
def IsEvs (x : AV) (l : List Ev) : Prop := leR x (evsAV l)
theorem isEvs_self (l : List Ev) : IsEvs (evsAV l) l := ⟨rfl, rfl, λ i _ => (⟨rfl, rfl, rfl, rfl, ⟨rfl, rfl, λ _ _ => rfl⟩, ⟨rfl, rfl, λ _ _ => rfl⟩, rfl, ⟨rfl, rfl, λ _ _ => rfl⟩, ⟨rfl, rfl, λ _ _ => rfl⟩, rfl, rfl, rfl, rfl, rfl, rfl, ⟨rfl, rfl, λ _ _ => rfl⟩, ⟨rfl, rfl, λ _ _ => rfl⟩, ⟨rfl, rfl, λ _ _ => rfl⟩, trivial⟩ : leA [] (evAt l i).av (evAt l i).av)⟩
theorem isEv_self (e : Ev) : IsEv e.av e := ⟨rfl, rfl, rfl, rfl, ⟨rfl, rfl, λ _ _ => rfl⟩, ⟨rfl, rfl, λ _ _ => rfl⟩, rfl, ⟨rfl, rfl, λ _ _ => rfl⟩, ⟨rfl, rfl, λ _ _ => rfl⟩, rfl, rfl, rfl, rfl, rfl, rfl, ⟨rfl, rfl, λ _ _ => rfl⟩, ⟨rfl, rfl, λ _ _ => rfl⟩, ⟨rfl, rfl, λ _ _ => rfl⟩, trivial⟩
abbrev fnWrong : AV := .pl (.func (.func 25) ⟨[]⟩ ⟨[]⟩)
def idxW (l : List Ev) : Int := match l.findIdx? wrongE with
 | some i => (i : Int)
 | none => -1
def TIdxW : Trans := λ args K => match args with
 | [x, .pl (.func (.func 25) ⟨[]⟩ ⟨[]⟩)] => ∃ l : List Ev, IsEvs x l /\ K (nm (idxW l)) []
 | _ => False
def TContW : Trans := λ args K => match args with
 | [x, .pl (.func (.func 25) ⟨[]⟩ ⟨[]⟩)] => ∃ l : List Ev, IsEvs x l /\ K (bl (l.any wrongE)) []
 | _ => False
def TCheck : Trans := λ args K => match args with
 | [.agg [.pl (.int .i64 _), .pl (.int .i64 _), .pl (.int .i64 _), x]] => ∃ l : List Ev, IsEvs x l /\ K (nm (checkE l)) []
 | _ => False
end Go.Proofs.Sz

namespace Go.Proofs.Sz
open Go Go.Am Go.SP
def boolsAV (l : List Bool) : AV := .rows 1 l.length (boolF l)
def ints0AV (l : List Int) : AV := .rows 1 l.length (intF l)
def mapAV (l : List (Bs × Bs)) : AV := .rows 2 l.length (rowF l)
def editAV (l : List (Bs × Bool × Bs)) : AV := .rows 3 l.length (chgF l)
def row8AV (l : Bs) : AV := .rows 1 l.length (byteF (bs l))
def fn59 : AV := .pl (.func (.func 51) ⟨[]⟩ ⟨[]⟩)
def TLong1 : Trans := λ args K => match args with
 | [.pl (.string s)] => K (bl (longB s.data.toList)) []
 | _ => False
def TContL : Trans := λ args K => match args with
 | [x, .pl (.func (.func 51) ⟨[]⟩ ⟨[]⟩)] => ∃ ls : List Bs, (IsTexts x ls /\ ls.length <= 1000) /\ K (bl (ls.any longB)) []
 | _ => False
def idxL1 (ls : List Bs) : Int := match ls.findIdx? longB with
 | some i => (i : Int)
 | none => -1
def TIdxF : Trans := λ args K => match args with
 | [x, .pl (.func (.func 51) ⟨[]⟩ ⟨[]⟩)] => ∃ ls : List Bs, (IsTexts x ls /\ ls.length <= 1000) /\ K (nm (idxL1 ls)) []
 | _ => False
end Go.Proofs.Sz

namespace Go.Proofs.Sz
open Go Go.Am Go.SP
theorem vWords (R : AV -> List LObj -> Prop) : (vcA false false 0 [] Tryz.prog (mkTab []) (optC (Tryz.f42.body.getD .skip)) ([]) (finalK Tryz.prog Tryz.f42 (λ y H => ∃ _ : Unit, leSt 0 ⟨[y], H⟩ ⟨[.own 0 0 16], [.row 1
 tyStr 16 wordF]⟩ (R (.own 0 0 16) [.row 1 tyStr 16 wordF]))) (startSt Tryz.f42 ([]))) = (True /\ (True /\ True) /\ True /\ ∃ (x : Unit), ((True /\ 0 = 0 /\ 16 = 16) /\ True) /\ ((1 = 1 /\ 9 = 9 /\ Nat.le (16 : Nat) (16 :
 Nat) /\ ∀ i < 16, rowOf [((0 : Nat), AV.pl (Value.string (ByteArray.mk #[]))), ((1 : Nat), AV.pl (Value.string (ByteArray.mk #[116, 105, 99, 107]))), ((2 : Nat), AV.pl
 (Value.string (ByteArray.mk #[100, 101, 108, 105, 118, 101, 114]))), ((3 : Nat), AV.pl (Value.string (ByteArray.mk #[108, 111,
 115, 101]))), ((4 : Nat), AV.pl (Value.string (ByteArray.mk #[100, 111, 117, 98, 108, 101]))), ((5 : Nat), AV.pl (Value.string (ByteArray.mk
 #[(112 : UInt8), (97 : UInt8), (114 : UInt8), (116 : UInt8)]))), ((6 : Nat), AV.pl (Value.string (ByteArray.mk #[109, 101, 110, 100]))), ((7 : Nat), AV.pl (Value.string
 (ByteArray.mk #[97, 114, 109]))), ((8 : Nat), AV.pl (Value.string (ByteArray.mk #[99, 114, 97, 115, 104]))), ((9 : Nat), AV.pl (Value.string
 (ByteArray.mk #[111, 112, 101, 110]))), ((10 : Nat), AV.pl (Value.string (ByteArray.mk #[99, 104, 97, 110, 103, 101]))),
 ((11 : Nat), AV.pl (Value.string (ByteArray.mk #[114, 111, 111, 116]))), ((12 : Nat), AV.pl (Value.string (ByteArray.mk #[99, 111, 109, 109,
 105, 116]))), ((13 : Nat), AV.pl (Value.string (ByteArray.mk #[115, 121, 110, 99]))), ((14 : Nat), AV.pl (Value.string (ByteArray.mk #[100, 111]))), ((15 : Nat), AV.pl (Value.string (ByteArray.mk #[97, 115, 107])))] i = sl (wordsL.getD i [])) /\ True) /\ R (AV.own 0 0 16) [LObj.row 1 9 16 wordF]) := by kernel_rfl
theorem vIdxT (w : Bs) (ls : List Bs) (inv : Nat -> Prop) (R : AV -> List LObj -> Prop) : (vcA false false 0 [] Tryz.prog (mkTab []) (optC (Tryz.f79.body.getD .skip)) ([.loop 2 Nat inv (λ i => ⟨slotsOf 19 0 [(0,
 textsAV ls), (1, sl w), (7, nm ls.length), (8, nm i)], []⟩) (λ i => ls.length - i) (λ _ => [])]) (finalK Tryz.prog Tryz.f79 (R)) (startSt Tryz.f79 ([textsAV ls, sl w]))) = (let Q0 := (1 = 1 /\ ls.length = ls.length
 /\ ∀ i < ls.length, sl (ls.getD i []) = sl (ls.getD i [])); (∃ (x : Nat), (Q0 /\ bs w = bs w /\ (ls.length : Int) = (ls.length : Int) /\ (0 : Int) = (x : Int) /\ True) /\ True /\ inv x) /\ ∀ (x : Nat), let Q1 := ((bs
 w).toList == (bs (ls.getD (x : Int).toNat [])).toList); inv x -> (decide ((x : Int) < (ls.length : Int)) = true -> ((0 : Int) <= (x : Int) /\ (x : Int) + 1 <= (ls.length : Int)) /\ (Q1 = true -> (True /\ True) /\
 True /\ R (nm (x : Int)) []) /\ (Q1 = false -> ∃ (y : Nat), (Q0 /\ bs w = bs w /\ (ls.length : Int) = (ls.length : Int) /\ k64Q.wrap ((x : Int) + 1) = (y : Int) /\ True) /\ True /\ inv y /\ (ls.length - y).succ.le
 (ls.length - x))) /\ (decide ((x : Int) < (ls.length : Int)) = false -> (True /\ True) /\ True /\ R (nm (-1 : Int)) [])) := by kernel_rfl
theorem vStamped (k : Int) (f g : Nat -> Int) (R : AV -> List LObj -> Prop) : (vcA false false 0 [] Tryz.prog (mkTab []) (optC (Tryz.f44.body.getD .skip)) ([]) (finalK Tryz.prog Tryz.f44 (R)) (startSt Tryz.f44 ([.agg [nm
 k, .any, .any, .any, .any, .any, .any, .any, .any, .any, .any, .any, .any, .any, .any, .iarr .u8 32 f, .iarr .u8 32 g, .any]]))) = (True /\ (True /\ True) /\ True /\ R (bl (bif bif k == 11 then true else k == 12 then
 true else k == 13)) []) := by kernel_rfl
theorem vFieldsR (k a b c d e x y : Int) (s1 s2 s3 : ByteArray) (n1 n2 n3 n4 n5 : Nat) (f1 f2 f3 f4 f5 : Nat -> AV) (o w : Nat -> Int) (R : AV -> List LObj -> Prop) : (vcA false false (List.length ([.box tyEv [.pl (.int
 .i64 k), .pl (.int .i64 a), .pl (.int .i64 b), .pl (.int .i64 c), .rows 1 n1 f1, .rows 1 n2 f2, .pl (.string s1), .rows 2 n3 f3, .rows 3 n4 f4, .pl (.int .u32 x), .pl (.string s2), .pl (.int .i64 d), .pl (.int .i64 e),
 .pl (.int .u32 y), .pl (.string s3), .iarr .u8 32 o, .iarr .u8 32 w, .rows 1 n5 f5]] : List LObj)) [] Tryz.prog (mkTab []) (optC (Tryz.f43.body.getD .skip)) ([]) (finalKH Tryz.prog Tryz.f43 (R)) (startStH Tryz.f43 ([.box
 tyEv [.pl (.int .i64 k), .pl (.int .i64 a), .pl (.int .i64 b), .pl (.int .i64 c), .rows 1 n1 f1, .rows 1 n2 f2, .pl (.string s1), .rows 2 n3 f3, .rows 3 n4 f4, .pl (.int .u32 x), .pl (.string s2), .pl (.int .i64 d), .pl
 (.int .i64 e), .pl (.int .u32 y), .pl (.string s3), .iarr .u8 32 o, .iarr .u8 32 w, .rows 1 n5 f5]]) ([.ptr 0 0 0 0]))) = (((k == 1) = true -> (True /\ True) /\ R (AV.own 1 0 2) [LObj.box 62 [nm k, nm a, nm b, nm c,
 AV.rows 1 n1 f1, AV.rows 1 n2 f2, AV.pl (Value.string s1), AV.rows 2 n3 f3, AV.rows 3 n4 f4, nuQ x, AV.pl (Value.string s2), nm d, nm e, nuQ y, AV.pl (Value.string s3), iaQ o, iaQ w, AV.rows 1 n5 f5], LObj.prow 107
 [AV.ptr 0 0 1 0, AV.ptr 0 0 3 0]]) /\ ((k == 1) = false -> ((k == 7) = true -> (True /\ True) /\ R (AV.own 1 0 2) [LObj.box 62 [nm k, nm a, nm b, nm c, AV.rows 1 n1 f1, AV.rows 1 n2 f2, AV.pl (Value.string s1), AV.rows 2
 n3 f3, AV.rows 3 n4 f4, nuQ x, AV.pl (Value.string s2), nm d, nm e, nuQ y, AV.pl (Value.string s3), iaQ o, iaQ w, AV.rows 1 n5 f5], LObj.prow 107 [AV.ptr 0 0 1 0, AV.ptr 0 0 3 0]]) /\ ((k == 7) = false -> ((k == 9) =
 true -> (True /\ True) /\ R (AV.own 1 0 2) [LObj.box 62 [nm k, nm a, nm b, nm c, AV.rows 1 n1 f1, AV.rows 1 n2 f2, AV.pl (Value.string s1), AV.rows 2 n3 f3, AV.rows 3 n4 f4, nuQ x, AV.pl (Value.string s2), nm d, nm e,
 nuQ y, AV.pl (Value.string s3), iaQ o, iaQ w, AV.rows 1 n5 f5], LObj.prow 107 [AV.ptr 0 0 1 0, AV.ptr 0 0 3 0]]) /\ ((k == 9) = false -> ((k == 2) = true -> (True /\ True) /\ R (AV.own 1 0 1) [LObj.box 62 [nm k, nm a, nm
 b, nm c, AV.rows 1 n1 f1, AV.rows 1 n2 f2, AV.pl (Value.string s1), AV.rows 2 n3 f3, AV.rows 3 n4 f4, nuQ x, AV.pl (Value.string s2), nm d, nm e, nuQ y, AV.pl (Value.string s3), iaQ o, iaQ w, AV.rows 1 n5 f5], LObj.prow
 107 [AV.ptr 0 0 3 0]]) /\ ((k == 2) = false -> ((k == 3) = true -> (True /\ True) /\ R (AV.own 1 0 1) [LObj.box 62 [nm k, nm a, nm b, nm c, AV.rows 1 n1 f1, AV.rows 1 n2 f2, AV.pl (Value.string s1), AV.rows 2 n3 f3,
 AV.rows 3 n4 f4, nuQ x, AV.pl (Value.string s2), nm d, nm e, nuQ y, AV.pl (Value.string s3), iaQ o, iaQ w, AV.rows 1 n5 f5], LObj.prow 107 [AV.ptr 0 0 3 0]]) /\ ((k == 3) = false -> ((k == 4) = true -> (True /\ True) /\
 R (AV.own 1 0 1) [LObj.box 62 [nm k, nm a, nm b, nm c, AV.rows 1 n1 f1, AV.rows 1 n2 f2, AV.pl (Value.string s1), AV.rows 2 n3 f3, AV.rows 3 n4 f4, nuQ x, AV.pl (Value.string s2), nm d, nm e, nuQ y, AV.pl (Value.string
 s3), iaQ o, iaQ w, AV.rows 1 n5 f5], LObj.prow 107 [AV.ptr 0 0 3 0]]) /\ ((k == 4) = false -> ((k == 5) = true -> (True /\ True) /\ R (AV.own 1 0 2) [LObj.box 62 [nm k, nm a, nm b, nm c, AV.rows 1 n1 f1, AV.rows 1 n2 f2,
 AV.pl (Value.string s1), AV.rows 2 n3 f3, AV.rows 3 n4 f4, nuQ x, AV.pl (Value.string s2), nm d, nm e, nuQ y, AV.pl (Value.string s3), iaQ o, iaQ w, AV.rows 1 n5 f5], LObj.prow 107 [AV.ptr 0 0 1 0, AV.ptr 0 0 2 0]]) /\
 ((k == 5) = false -> ((k == 6) = true -> (True /\ True) /\ R (AV.own 1 0 2) [LObj.box 62 [nm k, nm a, nm b, nm c, AV.rows 1 n1 f1, AV.rows 1 n2 f2, AV.pl (Value.string s1), AV.rows 2 n3 f3, AV.rows 3 n4 f4, nuQ x, AV.pl
 (Value.string s2), nm d, nm e, nuQ y, AV.pl (Value.string s3), iaQ o, iaQ w, AV.rows 1 n5 f5], LObj.prow 107 [AV.ptr 0 0 1 0, AV.ptr 0 0 2 0]]) /\ ((k == 6) = false -> ((k == 15) = true -> (True /\ True) /\ R (AV.own 1 0
 2) [LObj.box 62 [nm k, nm a, nm b, nm c, AV.rows 1 n1 f1, AV.rows 1 n2 f2, AV.pl (Value.string s1), AV.rows 2 n3 f3, AV.rows 3 n4 f4, nuQ x, AV.pl (Value.string s2), nm d, nm e, nuQ y, AV.pl (Value.string s3), iaQ o, iaQ
 w, AV.rows 1 n5 f5], LObj.prow 107 [AV.ptr 0 0 1 0, AV.ptr 0 0 2 0]]) /\ ((k == 15) = false -> ((k == 8) = true -> (True /\ True) /\ R (AV.own 1 0 1) [LObj.box 62 [nm k, nm a, nm b, nm c, AV.rows 1 n1 f1, AV.rows 1 n2
 f2, AV.pl (Value.string s1), AV.rows 2 n3 f3, AV.rows 3 n4 f4, nuQ x, AV.pl (Value.string s2), nm d, nm e, nuQ y, AV.pl (Value.string s3), iaQ o, iaQ w, AV.rows 1 n5 f5], LObj.prow 107 [AV.ptr 0 0 1 0]]) /\ ((k == 8) =
 false -> ((k == 10) = true -> (True /\ True) /\ R (AV.own 1 0 1) [LObj.box 62 [nm k, nm a, nm b, nm c, AV.rows 1 n1 f1, AV.rows 1 n2 f2, AV.pl (Value.string s1), AV.rows 2 n3 f3, AV.rows 3 n4 f4, nuQ x, AV.pl
 (Value.string s2), nm d, nm e, nuQ y, AV.pl (Value.string s3), iaQ o, iaQ w, AV.rows 1 n5 f5], LObj.prow 107 [AV.ptr 0 0 1 0]]) /\ ((k == 10) = false -> ((k == 11) = true -> (True /\ True) /\ R (AV.own 1 0 1) [LObj.box
 62 [nm k, nm a, nm b, nm c, AV.rows 1 n1 f1, AV.rows 1 n2 f2, AV.pl (Value.string s1), AV.rows 2 n3 f3, AV.rows 3 n4 f4, nuQ x, AV.pl (Value.string s2), nm d, nm e, nuQ y, AV.pl (Value.string s3), iaQ o, iaQ w, AV.rows 1
 n5 f5], LObj.prow 107 [AV.ptr 0 0 1 0]]) /\ ((k == 11) = false -> ((k == 12) = true -> (True /\ True) /\ R (AV.own 1 0 1) [LObj.box 62 [nm k, nm a, nm b, nm c, AV.rows 1 n1 f1, AV.rows 1 n2 f2, AV.pl (Value.string s1),
 AV.rows 2 n3 f3, AV.rows 3 n4 f4, nuQ x, AV.pl (Value.string s2), nm d, nm e, nuQ y, AV.pl (Value.string s3), iaQ o, iaQ w, AV.rows 1 n5 f5], LObj.prow 107 [AV.ptr 0 0 1 0]]) /\ ((k == 12) = false -> ((k == 13) = true ->
 (True /\ True) /\ R (AV.own 1 0 1) [LObj.box 62 [nm k, nm a, nm b, nm c, AV.rows 1 n1 f1, AV.rows 1 n2 f2, AV.pl (Value.string s1), AV.rows 2 n3 f3, AV.rows 3 n4 f4, nuQ x, AV.pl (Value.string s2), nm d, nm e, nuQ y,
 AV.pl (Value.string s3), iaQ o, iaQ w, AV.rows 1 n5 f5], LObj.prow 107 [AV.ptr 0 0 1 0]]) /\ ((k == 13) = false -> ((k == 14) = true -> (True /\ True) /\ R (AV.own 1 0 2) [LObj.box 62 [nm k, nm a, nm b, nm c, AV.rows 1
 n1 f1, AV.rows 1 n2 f2, AV.pl (Value.string s1), AV.rows 2 n3 f3, AV.rows 3 n4 f4, nuQ x, AV.pl (Value.string s2), nm d, nm e, nuQ y, AV.pl (Value.string s3), iaQ o, iaQ w, AV.rows 1 n5 f5], LObj.prow 107 [AV.ptr 0 0 1
 0, AV.ptr 0 0 11 0]]) /\ ((k == 14) = false -> (True /\ True) /\ R nilS [LObj.box 62 [nm k, nm a, nm b, nm c, AV.rows 1 n1 f1, AV.rows 1 n2 f2, AV.pl (Value.string s1), AV.rows 2 n3 f3, AV.rows 3 n4 f4, nuQ x, AV.pl
 (Value.string s2), nm d, nm e, nuQ y, AV.pl (Value.string s3), iaQ o, iaQ w, AV.rows 1 n5 f5]])))))))))))))))) := by kernel_rfl
theorem vFieldsZ (k a b c d e x y : Int) (s1 s2 s3 : ByteArray) (o w : Nat -> Int) (R : AV -> List LObj -> Prop) : (vcA false false (List.length ([.box tyEv [.pl (.int .i64 k), .pl (.int .i64 a), .pl (.int .i64 b), .pl
 (.int .i64 c), .pl (.slice none 0 0), .pl (.slice none 0 0), .pl (.string s1), .pl (.slice none 0 0), .pl (.slice none 0 0), .pl (.int .u32 x), .pl (.string s2), .pl (.int .i64 d), .pl (.int .i64 e), .pl (.int .u32 y),
 .pl (.string s3), .iarr .u8 32 o, .iarr .u8 32 w, .pl (.slice none 0 0)]] : List LObj)) [] Tryz.prog (mkTab []) (optC (Tryz.f43.body.getD .skip)) ([]) (finalKH Tryz.prog Tryz.f43 (R)) (startStH Tryz.f43 ([.box tyEv [.pl
 (.int .i64 k), .pl (.int .i64 a), .pl (.int .i64 b), .pl (.int .i64 c), .pl (.slice none 0 0), .pl (.slice none 0 0), .pl (.string s1), .pl (.slice none 0 0), .pl (.slice none 0 0), .pl (.int .u32 x), .pl (.string s2),
 .pl (.int .i64 d), .pl (.int .i64 e), .pl (.int .u32 y), .pl (.string s3), .iarr .u8 32 o, .iarr .u8 32 w, .pl (.slice none 0 0)]]) ([.ptr 0 0 0 0]))) = (((k == 1) = true -> (True /\ True) /\ R (AV.own 1 0 2) [LObj.box
 62 [nm k, nm a, nm b, nm c, nilS, nilS, AV.pl (Value.string s1), nilS, nilS, nuQ x, AV.pl (Value.string s2), nm d, nm e, nuQ y, AV.pl (Value.string s3), iaQ o, iaQ w, nilS], LObj.prow 107 [AV.ptr 0 0 1 0, AV.ptr 0 0 3
 0]]) /\ ((k == 1) = false -> ((k == 7) = true -> (True /\ True) /\ R (AV.own 1 0 2) [LObj.box 62 [nm k, nm a, nm b, nm c, nilS, nilS, AV.pl (Value.string s1), nilS, nilS, nuQ x, AV.pl (Value.string s2), nm d, nm e, nuQ
 y, AV.pl (Value.string s3), iaQ o, iaQ w, nilS], LObj.prow 107 [AV.ptr 0 0 1 0, AV.ptr 0 0 3 0]]) /\ ((k == 7) = false -> ((k == 9) = true -> (True /\ True) /\ R (AV.own 1 0 2) [LObj.box 62 [nm k, nm a, nm b, nm c, nilS,
 nilS, AV.pl (Value.string s1), nilS, nilS, nuQ x, AV.pl (Value.string s2), nm d, nm e, nuQ y, AV.pl (Value.string s3), iaQ o, iaQ w, nilS], LObj.prow 107 [AV.ptr 0 0 1 0, AV.ptr 0 0 3 0]]) /\ ((k == 9) = false -> ((k ==
 2) = true -> (True /\ True) /\ R (AV.own 1 0 1) [LObj.box 62 [nm k, nm a, nm b, nm c, nilS, nilS, AV.pl (Value.string s1), nilS, nilS, nuQ x, AV.pl (Value.string s2), nm d, nm e, nuQ y, AV.pl (Value.string s3), iaQ o,
 iaQ w, nilS], LObj.prow 107 [AV.ptr 0 0 3 0]]) /\ ((k == 2) = false -> ((k == 3) = true -> (True /\ True) /\ R (AV.own 1 0 1) [LObj.box 62 [nm k, nm a, nm b, nm c, nilS, nilS, AV.pl (Value.string s1), nilS, nilS, nuQ x,
 AV.pl (Value.string s2), nm d, nm e, nuQ y, AV.pl (Value.string s3), iaQ o, iaQ w, nilS], LObj.prow 107 [AV.ptr 0 0 3 0]]) /\ ((k == 3) = false -> ((k == 4) = true -> (True /\ True) /\ R (AV.own 1 0 1) [LObj.box 62 [nm
 k, nm a, nm b, nm c, nilS, nilS, AV.pl (Value.string s1), nilS, nilS, nuQ x, AV.pl (Value.string s2), nm d, nm e, nuQ y, AV.pl (Value.string s3), iaQ o, iaQ w, nilS], LObj.prow 107 [AV.ptr 0 0 3 0]]) /\ ((k == 4) = false
 -> ((k == 5) = true -> (True /\ True) /\ R (AV.own 1 0 2) [LObj.box 62 [nm k, nm a, nm b, nm c, nilS, nilS, AV.pl (Value.string s1), nilS, nilS, nuQ x, AV.pl (Value.string s2), nm d, nm e, nuQ y, AV.pl (Value.string s3),
 iaQ o, iaQ w, nilS], LObj.prow 107 [AV.ptr 0 0 1 0, AV.ptr 0 0 2 0]]) /\ ((k == 5) = false -> ((k == 6) = true -> (True /\ True) /\ R (AV.own 1 0 2) [LObj.box 62 [nm k, nm a, nm b, nm c, nilS, nilS, AV.pl (Value.string
 s1), nilS, nilS, nuQ x, AV.pl (Value.string s2), nm d, nm e, nuQ y, AV.pl (Value.string s3), iaQ o, iaQ w, nilS], LObj.prow 107 [AV.ptr 0 0 1 0, AV.ptr 0 0 2 0]]) /\ ((k == 6) = false -> ((k == 15) = true -> (True /\
 True) /\ R (AV.own 1 0 2) [LObj.box 62 [nm k, nm a, nm b, nm c, nilS, nilS, AV.pl (Value.string s1), nilS, nilS, nuQ x, AV.pl (Value.string s2), nm d, nm e, nuQ y, AV.pl (Value.string s3), iaQ o, iaQ w, nilS], LObj.prow
 107 [AV.ptr 0 0 1 0, AV.ptr 0 0 2 0]]) /\ ((k == 15) = false -> ((k == 8) = true -> (True /\ True) /\ R (AV.own 1 0 1) [LObj.box 62 [nm k, nm a, nm b, nm c, nilS, nilS, AV.pl (Value.string s1), nilS, nilS, nuQ x, AV.pl
 (Value.string s2), nm d, nm e, nuQ y, AV.pl (Value.string s3), iaQ o, iaQ w, nilS], LObj.prow 107 [AV.ptr 0 0 1 0]]) /\ ((k == 8) = false -> ((k == 10) = true -> (True /\ True) /\ R (AV.own 1 0 1) [LObj.box 62 [nm k, nm
 a, nm b, nm c, nilS, nilS, AV.pl (Value.string s1), nilS, nilS, nuQ x, AV.pl (Value.string s2), nm d, nm e, nuQ y, AV.pl (Value.string s3), iaQ o, iaQ w, nilS], LObj.prow 107 [AV.ptr 0 0 1 0]]) /\ ((k == 10) = false ->
 ((k == 11) = true -> (True /\ True) /\ R (AV.own 1 0 1) [LObj.box 62 [nm k, nm a, nm b, nm c, nilS, nilS, AV.pl (Value.string s1), nilS, nilS, nuQ x, AV.pl (Value.string s2), nm d, nm e, nuQ y, AV.pl (Value.string s3),
 iaQ o, iaQ w, nilS], LObj.prow 107 [AV.ptr 0 0 1 0]]) /\ ((k == 11) = false -> ((k == 12) = true -> (True /\ True) /\ R (AV.own 1 0 1) [LObj.box 62 [nm k, nm a, nm b, nm c, nilS, nilS, AV.pl (Value.string s1), nilS,
 nilS, nuQ x, AV.pl (Value.string s2), nm d, nm e, nuQ y, AV.pl (Value.string s3), iaQ o, iaQ w, nilS], LObj.prow 107 [AV.ptr 0 0 1 0]]) /\ ((k == 12) = false -> ((k == 13) = true -> (True /\ True) /\ R (AV.own 1 0 1)
 [LObj.box 62 [nm k, nm a, nm b, nm c, nilS, nilS, AV.pl (Value.string s1), nilS, nilS, nuQ x, AV.pl (Value.string s2), nm d, nm e, nuQ y, AV.pl (Value.string s3), iaQ o, iaQ w, nilS], LObj.prow 107 [AV.ptr 0 0 1 0]]) /\
 ((k == 13) = false -> ((k == 14) = true -> (True /\ True) /\ R (AV.own 1 0 2) [LObj.box 62 [nm k, nm a, nm b, nm c, nilS, nilS, AV.pl (Value.string s1), nilS, nilS, nuQ x, AV.pl (Value.string s2), nm d, nm e, nuQ y,
 AV.pl (Value.string s3), iaQ o, iaQ w, nilS], LObj.prow 107 [AV.ptr 0 0 1 0, AV.ptr 0 0 11 0]]) /\ ((k == 14) = false -> (True /\ True) /\ R nilS [LObj.box 62 [nm k, nm a, nm b, nm c, nilS, nilS, AV.pl (Value.string s1),
 nilS, nilS, nuQ x, AV.pl (Value.string s2), nm d, nm e, nuQ y, AV.pl (Value.string s3), iaQ o, iaQ w, nilS]])))))))))))))))) := by kernel_rfl
theorem vEqBool (a b : List Bool) (inv : Nat -> Prop) (R : AV -> List LObj -> Prop) : (vcA false false 0 [] Tryz.prog (mkTab []) (optC (Tryz.f16.body.getD .skip)) ([.loop 4 Nat inv (λ i => ⟨slotsOf 26 0 [(0, boolsAV
 a), (1, boolsAV b), (11, boolsAV a), (12, nm a.length), (13, nm i)], []⟩) (λ i => a.length - i) (λ _ => [])]) (finalK Tryz.prog Tryz.f16 (R)) (startSt Tryz.f16 ([boolsAV a, boolsAV b]))) = (let Q1 := (1 = 1 /\
 b.length = b.length /\ ∀ i < b.length, boolF b i = boolF b i); let Q0 := (1 = 1 /\ a.length = a.length /\ ∀ i < a.length, boolF a i = boolF a i); (((a.length : Int) != (b.length : Int)) = true -> (True /\ True) /\ True
 /\ R (bl false) []) /\ (((a.length : Int) != (b.length : Int)) = false -> (∃ (x : Nat), (Q0 /\ Q1 /\ Q0 /\ (a.length : Int) = (a.length : Int) /\ (0 : Int) = (x : Int) /\ True) /\ True /\ inv x) /\ ∀ (x : Nat), let
 Q4 := ((0 : Int) <= (x : Int) /\ (x : Int) + 1 <= (b.length : Int)); let Q3 := ((0 : Int) <= (x : Int) /\ (x : Int) + 1 <= (a.length : Int)); let Q2 := (!a.getD (x : Int).toNat false == b.getD (x : Int).toNat
 false); inv x -> (decide ((x : Int) < (a.length : Int)) = true -> Q3 /\ Q3 /\ Q4 /\ Q4 /\ (Q2 = true -> (True /\ True) /\ True /\ R (bl false) []) /\ (Q2 = false -> ∃ (y : Nat), (Q0 /\ Q1 /\ Q0 /\ (a.length : Int) =
 (a.length : Int) /\ k64Q.wrap ((x : Int) + 1) = (y : Int) /\ True) /\ True /\ inv y /\ (a.length - y).succ.le (a.length - x))) /\ (decide ((x : Int) < (a.length : Int)) = false -> (True /\ True) /\ True /\ R (bl
 true) []))) := by kernel_rfl
theorem vEqInt (a b : List Int) (inv : Nat -> Prop) (R : AV -> List LObj -> Prop) : (vcA false false 0 [] Tryz.prog (mkTab []) (optC (Tryz.f61.body.getD .skip)) ([.loop 4 Nat inv (λ i => ⟨slotsOf 26 0 [(0, ints0AV a),
 (1, ints0AV b), (11, ints0AV a), (12, nm a.length), (13, nm i)], []⟩) (λ i => a.length - i) (λ _ => [])]) (finalK Tryz.prog Tryz.f61 (R)) (startSt Tryz.f61 ([ints0AV a, ints0AV b]))) = (let Q1 := (1 = 1 /\ b.length =
 b.length /\ ∀ i < b.length, intF b i = intF b i); let Q0 := (1 = 1 /\ a.length = a.length /\ ∀ i < a.length, intF a i = intF a i); (((a.length : Int) != (b.length : Int)) = true -> (True /\ True) /\ True /\ R (bl
 false) []) /\ (((a.length : Int) != (b.length : Int)) = false -> (∃ (x : Nat), (Q0 /\ Q1 /\ Q0 /\ (a.length : Int) = (a.length : Int) /\ (0 : Int) = (x : Int) /\ True) /\ True /\ inv x) /\ ∀ (x : Nat), let Q4 := ((0
 : Int) <= (x : Int) /\ (x : Int) + 1 <= (b.length : Int)); let Q3 := ((0 : Int) <= (x : Int) /\ (x : Int) + 1 <= (a.length : Int)); let Q2 := (a.getD (x : Int).toNat (0 : Int) != b.getD (x : Int).toNat (0 :
 Int)); inv x -> (decide ((x : Int) < (a.length : Int)) = true -> Q3 /\ Q3 /\ Q4 /\ Q4 /\ (Q2 = true -> (True /\ True) /\ True /\ R (bl false) []) /\ (Q2 = false -> ∃ (y : Nat), (Q0 /\ Q1 /\ Q0 /\ (a.length : Int) =
 (a.length : Int) /\ k64Q.wrap ((x : Int) + 1) = (y : Int) /\ True) /\ True /\ inv y /\ (a.length - y).succ.le (a.length - x))) /\ (decide ((x : Int) < (a.length : Int)) = false -> (True /\ True) /\ True /\ R (bl
 true) []))) := by kernel_rfl
theorem vEqMap (a b : List (Bs × Bs)) (inv : Nat -> Prop) (R : AV -> List LObj -> Prop) : (vcA false false 0 [] Tryz.prog (mkTab []) (optC (Tryz.f75.body.getD .skip)) ([.loop 4 Nat inv (λ i => ⟨slotsOf 26 0 [(0, mapAV
 a), (1, mapAV b), (11, mapAV a), (12, nm a.length), (13, nm i)], []⟩) (λ i => a.length - i) (λ _ => [])]) (finalK Tryz.prog Tryz.f75 (R)) (startSt Tryz.f75 ([mapAV a, mapAV b]))) = (let Q1 := (2 = 2 /\ b.length =
 b.length /\ ∀ i < b.length, rowF b i = rowF b i); let Q0 := (2 = 2 /\ a.length = a.length /\ ∀ i < a.length, rowF a i = rowF a i); (((a.length : Int) != (b.length : Int)) = true -> (True /\ True) /\ True /\ R (bl
 false) []) /\ (((a.length : Int) != (b.length : Int)) = false -> (∃ (x : Nat), (Q0 /\ Q1 /\ Q0 /\ (a.length : Int) = (a.length : Int) /\ (0 : Int) = (x : Int) /\ True) /\ True /\ inv x) /\ ∀ (x : Nat), let Q4 := ((0
 : Int) <= (x : Int) /\ (x : Int) + 1 <= (b.length : Int)); let Q3 := ((0 : Int) <= (x : Int) /\ (x : Int) + 1 <= (a.length : Int)); let Q2 := (! ((bs (a.getD (x : Int).toNat ([], [])).1).toList == (bs (b.getD (↑x
 : Int).toNat ([], [])).1).toList && ((bs (a.getD (x : Int).toNat ([], [])).2).toList == (bs (b.getD (x : Int).toNat ([], [])).2).toList && true))); inv x -> (decide ((x : Int) < (a.length : Int)) = true -> Q3 /\ Q3
 /\ Q4 /\ Q4 /\ (Q2 = true -> (True /\ True) /\ True /\ R (bl false) []) /\ (Q2 = false -> ∃ (y : Nat), (Q0 /\ Q1 /\ Q0 /\ (a.length : Int) = (a.length : Int) /\ k64Q.wrap ((x : Int) + 1) = (y : Int) /\ True) /\ True
 /\ inv y /\ (a.length - y).succ.le (a.length - x))) /\ (decide ((x : Int) < (a.length : Int)) = false -> (True /\ True) /\ True /\ R (bl true) []))) := by kernel_rfl
theorem vEqEdit (a b : List (Bs × Bool × Bs)) (inv : Nat -> Prop) (R : AV -> List LObj -> Prop) : (vcA false false 0 [] Tryz.prog (mkTab []) (optC (Tryz.f76.body.getD .skip)) ([.loop 4 Nat inv (λ i => ⟨slotsOf 26 0
 [(0, editAV a), (1, editAV b), (11, editAV a), (12, nm a.length), (13, nm i)], []⟩) (λ i => a.length - i) (λ _ => [])]) (finalK Tryz.prog Tryz.f76 (R)) (startSt Tryz.f76 ([editAV a, editAV b]))) = (let Q1 := (3 = 3
 /\ b.length = b.length /\ ∀ i < b.length, chgF b i = chgF b i); let Q0 := (3 = 3 /\ a.length = a.length /\ ∀ i < a.length, chgF a i = chgF a i); (((a.length : Int) != (b.length : Int)) = true -> (True /\ True) /\ True
 /\ R (bl false) []) /\ (((a.length : Int) != (b.length : Int)) = false -> (∃ (x : Nat), (Q0 /\ Q1 /\ Q0 /\ (a.length : Int) = (a.length : Int) /\ (0 : Int) = (x : Int) /\ True) /\ True /\ inv x) /\ ∀ (x : Nat), let
 Q6 := ((0 : Int) <= (x : Int) /\ (x : Int) + 1 <= (b.length : Int)); let Q5 := ((0 : Int) <= (x : Int) /\ (x : Int) + 1 <= (a.length : Int)); let Q4 := (b.getD (x : Int).toNat ([], false, [])); let Q3 := (a.getD
 (x : Int).toNat ([], false, [])); let Q2 := (! ((bs Q3.1).toList == (bs Q4.1).toList && (Q3.2.1 == Q4.2.1 && ((bs Q3.2.2).toList == (bs Q4.2.2).toList && true)))); inv x -> (decide ((x : Int) < (a.length : Int)) =
 true -> Q5 /\ Q5 /\ Q6 /\ Q6 /\ (Q2 = true -> (True /\ True) /\ True /\ R (bl false) []) /\ (Q2 = false -> ∃ (y : Nat), (Q0 /\ Q1 /\ Q0 /\ (a.length : Int) = (a.length : Int) /\ k64Q.wrap ((x : Int) + 1) = (y : Int)
 /\ True) /\ True /\ inv y /\ (a.length - y).succ.le (a.length - x))) /\ (decide ((x : Int) < (a.length : Int)) = false -> (True /\ True) /\ True /\ R (bl true) []))) := by kernel_rfl
theorem vSameMap (a b : List (Bs × Bs)) (R : AV -> List LObj -> Prop) : (vcA false false 0 [] Tryz.prog (mkTab [(75, .lend TEqMap)]) (optC (Tryz.f62.body.getD .skip)) ([]) (finalK Tryz.prog Tryz.f62 (R)) (startSt
 Tryz.f62 ([.agg [mapAV a], .agg [mapAV b]]))) = (True /\ True /\ ∃ (a_1 : List (Bs × Bs)), ∃ (b_1 : List (Bs × Bs)), (IsMap (AV.rows 2 a.length (rowF a)) a_1 /\ IsMap (AV.rows 2 b.length (rowF b)) b_1) /\ (True /\ True)
 /\ True /\ R (bl (a_1 == b_1)) []) := by kernel_rfl
theorem vSameEdit (a b : List (Bs × Bool × Bs)) (R : AV -> List LObj -> Prop) : (vcA false false 0 [] Tryz.prog (mkTab [(76, .lend TEqEdit)]) (optC (Tryz.f63.body.getD .skip)) ([]) (finalK Tryz.prog Tryz.f63 (R))
 (startSt Tryz.f63 ([.agg [editAV a], .agg [editAV b]]))) = (True /\ True /\ ∃ (a_1 : List (Bs × Bool × Bs)), ∃ (b_1 : List (Bs × Bool × Bs)), (IsEdit (AV.rows 3 a.length (chgF a)) a_1 /\ IsEdit (AV.rows 3 b.length (chgF
 b)) b_1) /\ (True /\ True) /\ True /\ R (bl (a_1 == b_1)) []) := by kernel_rfl
theorem vEqBytes (a b : Bs) (R : AV -> List LObj -> Prop) : (vcA false false 0 [] Tryz.prog (mkTab []) (optC (Tryz.f60.body.getD .skip)) ([]) (finalK Tryz.prog Tryz.f60 (R)) (startSt Tryz.f60 ([row8AV a, row8AV b]))) =
 (True /\ ∃ (bs : ByteArray), bs.size = a.length /\ (∀ i < a.length, AV.pl (Value.int k8Q (↑ ((SP.bs a).data.toList.getD i (0 : UInt8)).toNat : Int)) = AV.pl (Value.int k8Q (↑ (bs.data.toList.getD i (0 : UInt8)).toNat :
 Int))) /\ True /\ ∃ (bs_1 : ByteArray), bs_1.size = b.length /\ (∀ i < b.length, AV.pl (Value.int k8Q (↑ ((SP.bs b).data.toList.getD i (0 : UInt8)).toNat : Int)) = AV.pl (Value.int k8Q (↑ (bs_1.data.toList.getD i (0 :
 UInt8)).toNat : Int))) /\ (True /\ True) /\ True /\ R (bl (bs.toList == bs_1.toList)) []) := by kernel_rfl
theorem vLong1 (s : Bs) (R : AV -> List LObj -> Prop) :
  (vcA false false 0 [] Tryz.prog (mkTab []) (optC (Tryz.f51.body.getD .skip)) ([]) (finalK Tryz.prog Tryz.f51 (R)) (startSt Tryz.f51 ([sl s]))) = (
 (True /\ True) /\ True /\ R (bl (decide ((List.length s : Int) > (1024 : Int)))) []) := by kernel_rfl
theorem vIdxF (ls : List Bs) (inv : Nat -> Prop) (R : AV -> List LObj -> Prop) : (vcA false false 0 [] Tryz.prog (mkTab [(51, .lend TLong1)]) (optC (Tryz.f72.body.getD .skip)) ([.loop 2 Nat inv (λ i => ⟨slotsOf 19 0
 [(0, textsAV ls), (1, fn59), (7, nm ls.length), (8, nm i)], []⟩) (λ i => ls.length - i) (λ _ => [])]) (finalK Tryz.prog Tryz.f72 (R)) (startSt Tryz.f72 ([textsAV ls, fn59]))) = (let Q0 := (1 = 1 /\ ls.length =
 ls.length /\ ∀ i < ls.length, sl (ls.getD i []) = sl (ls.getD i [])); (∃ (x : Nat), (Q0 /\ Value.func (Fn.func (51 : Nat)) (Array.mk []) (Array.mk []) = Value.func (Fn.func (51 : Nat)) (Array.mk []) (Array.mk []) /\
 (ls.length : Int) = (ls.length : Int) /\ (0 : Int) = (x : Int) /\ True) /\ True /\ inv x) /\ ∀ (x : Nat), inv x -> (decide ((x : Int) < (ls.length : Int)) = true -> ((0 : Int) <= (x : Int) /\ (x : Int) + 1 <=
 (ls.length : Int)) /\ (longB (ls.getD (x : Int).toNat []) = true -> (True /\ True) /\ True /\ R (nm (x : Int)) []) /\ (longB (ls.getD (x : Int).toNat []) = false -> ∃ (y : Nat), (Q0 /\ Value.func (Fn.func (51 : Nat))
 (Array.mk []) (Array.mk []) = Value.func (Fn.func (51 : Nat)) (Array.mk []) (Array.mk []) /\ (ls.length : Int) = (ls.length : Int) /\ k64Q.wrap ((x : Int) + 1) = (y : Int) /\ True) /\ True /\ inv y /\ (ls.length -
 y).succ.le (ls.length - x))) /\ (decide ((x : Int) < (ls.length : Int)) = false -> (True /\ True) /\ True /\ R (nm (-1 : Int)) [])) := by kernel_rfl
theorem vContL (ls : List Bs) (R : AV -> List LObj -> Prop) : (vcA false false 0 [] Tryz.prog (mkTab [(72, .lend TIdxF)]) (optC (Tryz.f50.body.getD .skip)) ([]) (finalK Tryz.prog Tryz.f50 (R)) (startSt Tryz.f50 ([textsAV
 ls, fn59]))) = (∃ (ls_1 : List Bs), (IsTexts (AV.rows 1 ls.length λ (i : Nat) => sl (ls.getD i [])) ls_1 /\ ls_1.length.le (1000 : Nat)) /\ (True /\ True) /\ True /\ R (bl (decide (idxL1 ls_1 ≥ 0))) []) := by
 kernel_rfl
theorem vLong (ls : List Bs) (R : AV -> List LObj -> Prop) : (vcA false false 0 [] Tryz.prog (mkTab [(50, .lend TContL)]) (optC (Tryz.f49.body.getD .skip)) ([]) (finalK Tryz.prog Tryz.f49 (R)) (startSt Tryz.f49 ([textsAV
 ls]))) = (∃ (ls_1 : List Bs), (IsTexts (AV.rows 1 ls.length λ (i : Nat) => sl (ls.getD i [])) ls_1 /\ ls_1.length.le (1000 : Nat)) /\ (True /\ True) /\ True /\ R (bl (ls_1.any longB)) []) := by kernel_rfl
end Go.Proofs.Sz

namespace Go.Proofs.Sz
open Go Go.Am Go.SP
theorem take_eq_step {α : Type} (a b : List α) (d : α) (x : Nat) (ha : x < a.length) (hb : x < b.length) (h : a.take x = b.take x) (he : a.getD x d = b.getD x d) : a.take (x + 1) = b.take (x + 1) := by
 rw [List.take_succ_eq_append_getElem ha, List.take_succ_eq_append_getElem hb, h]
 simp only [List.getD_eq_getElem?_getD, List.getElem?_eq_getElem ha, List.getElem?_eq_getElem hb, Option.getD_some] at he
 rw [he]
theorem getD_len {α : Type} (a b : List α) (d : α) (x : Nat) (h : a = b) : a.getD x d = b.getD x d := by rw [h]
theorem XWords : EntOk Tryz.prog 42 (.lend TWords) := by
 refine ⟨Am.enters_of Tryz.func42 (by kernel_rfl) (by kernel_rfl), λ args R h => ?_⟩
 unfold TWords at h
 split at h
 ·refine Spec.weak (Z := Unit) (X := λ _ => .own 0 0 16) (HH := λ _ => [.row 1 tyStr 16 wordF]) (mkSo (vWords R) (tb az) Tryz.func42 (by kernel_rfl) ?_)
  simp only [true_and, and_true, and_self, implies_true, forall_const, gEq_true, gEq_false, nonneg_iff, natle_iff, decide_eq_true_eq, decide_eq_false_iff_not, Int.toNat_natCast, cond_bt, cond_bf, Bool.cond_true, Bool.cond_false, Bool.not_true, Bool.not_false, reduceCtorEq, false_implies, implies_true, Bool.true_eq_false, Bool.false_eq_true, Bool.not_eq_true', Bool.not_eq_false']
  refine ⟨(), ⟨Nat.le_refl _, λ i hi => ?_⟩, h⟩
  have : i = 0 ∨ i = 1 ∨ i = 2 ∨ i = 3 ∨ i = 4 ∨ i = 5 ∨ i = 6 ∨ i = 7 ∨ i = 8 ∨ i = 9 ∨ i = 10 ∨ i = 11 ∨ i = 12 ∨ i = 13 ∨ i = 14 ∨ i = 15 := by omega
  rcases this with rfl | rfl | rfl | rfl | rfl | rfl | rfl | rfl | rfl | rfl | rfl | rfl | rfl | rfl | rfl | rfl <;> rfl
 ·exact h.elim
theorem findIdx_none_take {p : Bs -> Bool} {ls : List Bs} (x : Nat) (hx : x < ls.length) (h : (ls.take x).findIdx? p = none) (hp : p (ls.getD x []) = false) : (ls.take (x + 1)).findIdx? p = none := by
 rw [List.findIdx?_eq_none_iff] at h ⊢
 intro y hy
 rw [List.take_succ_eq_append_getElem hx, List.mem_append, List.mem_singleton] at hy
 rcases hy with hy | rfl
 ·exact h y hy
 ·rw [List.getD_eq_getElem?_getD, List.getElem?_eq_getElem hx] at hp
  exact hp
theorem findIdx_some_take {p : Bs -> Bool} {ls : List Bs} (x : Nat) (hx : x < ls.length) (h : (ls.take x).findIdx? p = none) (hp : p (ls.getD x []) = true) : ls.findIdx? p = some x := by
 rw [List.findIdx?_eq_none_iff] at h
 rw [List.findIdx?_eq_some_iff_getElem]
 refine ⟨hx, ?_, λ j hj => ?_⟩
 ·rw [List.getD_eq_getElem?_getD, List.getElem?_eq_getElem hx] at hp
  exact hp
 ·have := h ls[j] (by rw [List.mem_take_iff_getElem]; exact ⟨j, by omega, rfl⟩)
  simp [this]
theorem XIdxT : EntOk Tryz.prog 79 (.lend TIdxT) := by
 refine ⟨Am.enters_of Tryz.func79 (by kernel_rfl) (by kernel_rfl), λ args R h => ?_⟩
 unfold TIdxT at h
 split at h
 ·rename_i x w
  obtain ⟨w, rfl⟩ : ∃ l, w = bs l := ⟨_, bs_of w⟩
  obtain ⟨ls, ⟨hx, hl⟩, h⟩ := h
  refine Spec.args (args' := [textsAV ls, sl w]) ⟨isTexts_le hx _, rfl, trivial⟩ ?_
  refine mkSo (vIdxT w ls (λ i => i <= ls.length /\ (ls.take i).findIdx? (· == w) = none) R) (tb az) Tryz.func79 (by kernel_rfl) ?_
  simp only [true_and, and_true, and_self, implies_true, forall_const, gEq_true, gEq_false, nonneg_iff, natle_iff, decide_eq_true_eq, decide_eq_false_iff_not, Int.toNat_natCast, cond_bt, cond_bf, Bool.cond_true, Bool.cond_false, Bool.not_true, Bool.not_false, reduceCtorEq, false_implies, implies_true, Bool.true_eq_false, Bool.false_eq_true, Bool.not_eq_true', Bool.not_eq_false', bs_size, bs_data, bs_toList, bs_extract, bs_append, bs_mk, byteF] at h ⊢
  refine ⟨⟨0, rfl, Nat.zero_le _, by simp⟩, λ i hi => ⟨λ hlt => ⟨⟨by omega, by omega⟩, λ hb => ?_, λ hb => ?_⟩, λ hge => ?_⟩⟩
  ·have e : ls.findIdx? (· == w) = some i := findIdx_some_take i (by omega) hi.2 (by have := beq_iff_eq.1 hb; simp only [this, beq_self_eq_true])
   rw [idxT, e] at h
   exact h
  ·refine ⟨i + 1, by rw [wrap64] <;> omega, ⟨by omega, findIdx_none_take i (by omega) hi.2 ?_⟩, by omega⟩
   rw [beq_eq_false_iff_ne] at hb ⊢
   exact λ e => hb e.symm
  ·have : i = ls.length := by omega
   subst this
   rw [List.take_length] at hi
   rw [idxT, hi.2] at h
   exact h
 ·exact h.elim
theorem slc_any {a : AV} (h : slcB a = true) (ks : Names) : leA ks a .any := by
 cases a <;> first | trivial | cases h
theorem XStamped : EntOk Tryz.prog 44 (.lend TStamped) := by
 refine ⟨Am.enters_of Tryz.func44 (by kernel_rfl) (by kernel_rfl), λ args R h => ?_⟩
 unfold TStamped at h
 split at h
 ·split at h
  ·rename_i k _ _ _ a b _ c d _ _ _ _ _ _ f g e _ hs
   simp only [Bool.and_eq_true] at hs
   obtain ⟨⟨⟨ha, hb⟩, hc, hd⟩, he⟩ := hs
   refine Spec.args (args' := [.agg [nm k, .any, .any, .any, .any, .any, .any, .any, .any, .any, .any, .any, .any, .any, .any, .iarr .u8 32 f, .iarr .u8 32 g, .any]]) ⟨⟨rfl, trivial, trivial, trivial, slc_any ha _, slc_any hb _, trivial, slc_any hc _, slc_any hd _, trivial, trivial, trivial, trivial, trivial, trivial, ⟨rfl, rfl, λ _ _ => rfl⟩, ⟨rfl, rfl, λ _ _ => rfl⟩, slc_any he _, trivial⟩, trivial⟩ ?_
   refine mkSo (vStamped k f g R) (tb az) Tryz.func44 (by kernel_rfl) ?_
   simp only [true_and, and_true, and_self, implies_true, forall_const, gEq_true, gEq_false, nonneg_iff, natle_iff, decide_eq_true_eq, decide_eq_false_iff_not, Int.toNat_natCast, cond_bt, cond_bf, Bool.cond_true, Bool.cond_false, Bool.not_true, Bool.not_false, reduceCtorEq, false_implies, implies_true, Bool.true_eq_false, Bool.false_eq_true, Bool.not_eq_true', Bool.not_eq_false', stampedK] at h ⊢
   simpa only [Bool.or_assoc] using h
  ·exact h.elim
 ·exact h.elim
theorem XFields : EntOk Tryz.prog 43 (.hand tkR TFields) := by
 refine ⟨Am.enters_of Tryz.func43 (by kernel_rfl) (by kernel_rfl), λ H0 args R h => ?_⟩
 unfold TFields at h
 split at h
 ·obtain ⟨rfl, h1, h2, h3, h4, h5, h0⟩ := h
  refine mkHo (vFieldsR (R := R) ..) (tb az) Tryz.func43 (by kernel_rfl) ?_
  simp only [true_and, and_true, and_self, implies_true, forall_const, gEq_true, gEq_false, nonneg_iff, natle_iff, decide_eq_true_eq, decide_eq_false_iff_not, Int.toNat_natCast, cond_bt, cond_bf, Bool.cond_true, Bool.cond_false, Bool.not_true, Bool.not_false, reduceCtorEq, false_implies, implies_true, Bool.true_eq_false, Bool.false_eq_true, Bool.not_eq_true', Bool.not_eq_false']
  exact ⟨λ q => h1 (by simp only [clsK, kNN, kN, kNT, k1, q]; rfl), λ n1 => ⟨λ q => h1 (by simp only [clsK, kNN, kN, kNT, k1, n1, q]; rfl), λ n7 => ⟨λ q => h1 (by simp only [clsK, kNN, kN, kNT, k1, n1, n7, q]; rfl), λ n9 => ⟨λ q => h2 (by simp only [clsK, kNN, kN, kNT, k1, n1, n7, n9, q]; rfl), λ n2 => ⟨λ q => h2 (by simp only [clsK, kNN, kN, kNT, k1, n1, n7, n9, n2, q]; rfl), λ n3 => ⟨λ q => h2 (by simp only [clsK, kNN, kN, kNT, k1, n1, n7, n9, n2, n3, q]; rfl), λ n4 => ⟨λ q => h3 (by simp only [clsK, kNN, kN, kNT, k1, n1, n7, n9, n2, n3, n4, q]; rfl), λ n5 => ⟨λ q => h3 (by simp only [clsK, kNN, kN, kNT, k1, n1, n7, n9, n2, n3, n4, n5, q]; rfl), λ n6 => ⟨λ q => h3 (by simp only [clsK, kNN, kN, kNT, k1, n1, n7, n9, n2, n3, n4, n5, n6, q]; rfl), λ n15 => ⟨λ q => h4 (by simp only [clsK, kNN, kN, kNT, k1, n1, n7, n9, n2, n3, n4, n5, n6, n15, q]; rfl), λ n8 => ⟨λ q => h4 (by simp only [clsK, kNN, kN, kNT, k1, n1, n7, n9, n2, n3, n4, n5, n6, n15, n8, q]; rfl), λ n10 => ⟨λ q => h4 (by simp only [clsK, kNN, kN, kNT, k1, n1, n7, n9, n2, n3, n4, n5, n6, n15, n8, n10, q]; rfl), λ n11 => ⟨λ q => h4 (by simp only [clsK, kNN, kN, kNT, k1, n1, n7, n9, n2, n3, n4, n5, n6, n15, n8, n10, n11, q]; rfl), λ n12 => ⟨λ q => h4 (by simp only [clsK, kNN, kN, kNT, k1, n1, n7, n9, n2, n3, n4, n5, n6, n15, n8, n10, n11, n12, q]; rfl), λ n13 => ⟨λ q => h5 (by simp only [clsK, kNN, kN, kNT, k1, n1, n7, n9, n2, n3, n4, n5, n6, n15, n8, n10, n11, n12, n13, q]; rfl), λ n14 => h0 (by simp only [clsK, kNN, kN, kNT, k1, n1, n7, n9, n2, n3, n4, n5, n6, n15, n8, n10, n11, n12, n13, n14]; rfl)⟩⟩⟩⟩⟩⟩⟩⟩⟩⟩⟩⟩⟩⟩⟩
 ·obtain ⟨rfl, h1, h2, h3, h4, h5, h0⟩ := h
  refine mkHo (vFieldsZ (R := R) ..) (tb az) Tryz.func43 (by kernel_rfl) ?_
  simp only [true_and, and_true, and_self, implies_true, forall_const, gEq_true, gEq_false, nonneg_iff, natle_iff, decide_eq_true_eq, decide_eq_false_iff_not, Int.toNat_natCast, cond_bt, cond_bf, Bool.cond_true, Bool.cond_false, Bool.not_true, Bool.not_false, reduceCtorEq, false_implies, implies_true, Bool.true_eq_false, Bool.false_eq_true, Bool.not_eq_true', Bool.not_eq_false']
  exact ⟨λ q => h1 (by simp only [clsK, kNN, kN, kNT, k1, q]; rfl), λ n1 => ⟨λ q => h1 (by simp only [clsK, kNN, kN, kNT, k1, n1, q]; rfl), λ n7 => ⟨λ q => h1 (by simp only [clsK, kNN, kN, kNT, k1, n1, n7, q]; rfl), λ n9 => ⟨λ q => h2 (by simp only [clsK, kNN, kN, kNT, k1, n1, n7, n9, q]; rfl), λ n2 => ⟨λ q => h2 (by simp only [clsK, kNN, kN, kNT, k1, n1, n7, n9, n2, q]; rfl), λ n3 => ⟨λ q => h2 (by simp only [clsK, kNN, kN, kNT, k1, n1, n7, n9, n2, n3, q]; rfl), λ n4 => ⟨λ q => h3 (by simp only [clsK, kNN, kN, kNT, k1, n1, n7, n9, n2, n3, n4, q]; rfl), λ n5 => ⟨λ q => h3 (by simp only [clsK, kNN, kN, kNT, k1, n1, n7, n9, n2, n3, n4, n5, q]; rfl), λ n6 => ⟨λ q => h3 (by simp only [clsK, kNN, kN, kNT, k1, n1, n7, n9, n2, n3, n4, n5, n6, q]; rfl), λ n15 => ⟨λ q => h4 (by simp only [clsK, kNN, kN, kNT, k1, n1, n7, n9, n2, n3, n4, n5, n6, n15, q]; rfl), λ n8 => ⟨λ q => h4 (by simp only [clsK, kNN, kN, kNT, k1, n1, n7, n9, n2, n3, n4, n5, n6, n15, n8, q]; rfl), λ n10 => ⟨λ q => h4 (by simp only [clsK, kNN, kN, kNT, k1, n1, n7, n9, n2, n3, n4, n5, n6, n15, n8, n10, q]; rfl), λ n11 => ⟨λ q => h4 (by simp only [clsK, kNN, kN, kNT, k1, n1, n7, n9, n2, n3, n4, n5, n6, n15, n8, n10, n11, q]; rfl), λ n12 => ⟨λ q => h4 (by simp only [clsK, kNN, kN, kNT, k1, n1, n7, n9, n2, n3, n4, n5, n6, n15, n8, n10, n11, n12, q]; rfl), λ n13 => ⟨λ q => h5 (by simp only [clsK, kNN, kN, kNT, k1, n1, n7, n9, n2, n3, n4, n5, n6, n15, n8, n10, n11, n12, n13, q]; rfl), λ n14 => h0 (by simp only [clsK, kNN, kN, kNT, k1, n1, n7, n9, n2, n3, n4, n5, n6, n15, n8, n10, n11, n12, n13, n14]; rfl)⟩⟩⟩⟩⟩⟩⟩⟩⟩⟩⟩⟩⟩⟩⟩
 ·exact h.elim
theorem XFieldsL : EntOk Tryz.prog 43 (.hand tkR TFieldsL) := by
 refine ⟨Am.enters_of Tryz.func43 (by kernel_rfl) (by kernel_rfl), λ H0 args R h => ?_⟩
 unfold TFieldsL at h
 refine XFields.2 _ _ _ ?_
 unfold TFields
 split at h
 ·exact ⟨h.1, resL_F h.2⟩
 ·exact ⟨h.1, resL_F h.2⟩
 ·exact h.elim
theorem XEqBool : EntOk Tryz.prog 16 (.lend TEqBool) := by
 refine ⟨Am.enters_of Tryz.func16 (by kernel_rfl) (by kernel_rfl), λ args R h => ?_⟩
 unfold TEqBool at h
 split at h
 ·rename_i x y
  obtain ⟨a, b, ⟨hx, hy⟩, h⟩ := h
  refine Spec.args (args' := [boolsAV a, boolsAV b]) ⟨hx, hy, trivial⟩ (Spec.given λ hg => ?_)
  obtain ⟨ga, gb, _⟩ := hg
  refine mkSo (vEqBool a b (λ i => i <= a.length /\ a.take i = b.take i) R) (tb az) Tryz.func16 (by kernel_rfl) ?_
  have hmx := maxLen_eq
  simp only [true_and, and_true, and_self, implies_true, forall_const, gEq_true, gEq_false, nonneg_iff, natle_iff, decide_eq_true_eq, decide_eq_false_iff_not, Int.toNat_natCast, cond_bt, cond_bf, Bool.cond_true, Bool.cond_false, Bool.not_true, Bool.not_false, reduceCtorEq, false_implies, implies_true, Bool.true_eq_false, Bool.false_eq_true, Bool.not_eq_true', Bool.not_eq_false', bs_size, bs_data, bs_toList, bs_extract, bs_append, bs_mk, byteF] at h ⊢
  refine ⟨λ hne => ?_, λ hne => ?_⟩
  ·have : (a == b) = false := beq_eq_false_iff_ne.2 λ e => by rw [e] at hne; simp at hne
   rw [this] at h
   exact h
  ·have hl : a.length = b.length := by simp at hne; omega
   refine ⟨⟨0, rfl, Nat.zero_le _, by simp⟩, λ i hi => ⟨λ hlt => ⟨⟨by omega, by omega⟩, ⟨by omega, by omega⟩, ⟨by omega, by omega⟩, ⟨by omega, by omega⟩, λ hb => ?_, λ hb => ?_⟩, λ hge => ?_⟩⟩
   ·have : (a == b) = false := beq_eq_false_iff_ne.2 λ e => by
     have e2 := getD_len a b false i e
     rw [e2] at hb; simp at hb
    rw [this] at h
    exact h
   ·have e : a.getD i false = b.getD i false := by
     simpa using hb
    exact ⟨i + 1, by rw [wrap64] <;> omega, ⟨by omega, take_eq_step a b false i (by omega) (by omega) hi.2 e⟩, by omega⟩
   ·have h8 : i = a.length := by omega
    obtain ⟨_, h9⟩ := hi
    rw [h8, List.take_length, hl, List.take_length] at h9
    have : (a == b) = true := beq_iff_eq.2 h9
    rw [this] at h
    exact h
 ·exact h.elim
theorem XEqInt : EntOk Tryz.prog 61 (.lend TEqInt) := by
 refine ⟨Am.enters_of Tryz.func61 (by kernel_rfl) (by kernel_rfl), λ args R h => ?_⟩
 unfold TEqInt at h
 split at h
 ·rename_i x y
  obtain ⟨a, b, ⟨hx, hy⟩, h⟩ := h
  refine Spec.args (args' := [ints0AV a, ints0AV b]) ⟨hx, hy, trivial⟩ (Spec.given λ hg => ?_)
  obtain ⟨ga, gb, _⟩ := hg
  refine mkSo (vEqInt a b (λ i => i <= a.length /\ a.take i = b.take i) R) (tb az) Tryz.func61 (by kernel_rfl) ?_
  have hmx := maxLen_eq
  simp only [true_and, and_true, and_self, implies_true, forall_const, gEq_true, gEq_false, nonneg_iff, natle_iff, decide_eq_true_eq, decide_eq_false_iff_not, Int.toNat_natCast, cond_bt, cond_bf, Bool.cond_true, Bool.cond_false, Bool.not_true, Bool.not_false, reduceCtorEq, false_implies, implies_true, Bool.true_eq_false, Bool.false_eq_true, Bool.not_eq_true', Bool.not_eq_false', bs_size, bs_data, bs_toList, bs_extract, bs_append, bs_mk, byteF] at h ⊢
  refine ⟨λ hne => ?_, λ hne => ?_⟩
  ·have : (a == b) = false := beq_eq_false_iff_ne.2 λ e => by rw [e] at hne; simp at hne
   rw [this] at h
   exact h
  ·have hl : a.length = b.length := by simp at hne; omega
   refine ⟨⟨0, rfl, Nat.zero_le _, by simp⟩, λ i hi => ⟨λ hlt => ⟨⟨by omega, by omega⟩, ⟨by omega, by omega⟩, ⟨by omega, by omega⟩, ⟨by omega, by omega⟩, λ hb => ?_, λ hb => ?_⟩, λ hge => ?_⟩⟩
   ·have : (a == b) = false := beq_eq_false_iff_ne.2 λ e => by
     have e2 := getD_len a b 0 i e
     rw [e2] at hb; simp at hb
    rw [this] at h
    exact h
   ·have e : a.getD i 0 = b.getD i 0 := by
     simpa using hb
    exact ⟨i + 1, by rw [wrap64] <;> omega, ⟨by omega, take_eq_step a b 0 i (by omega) (by omega) hi.2 e⟩, by omega⟩
   ·have h8 : i = a.length := by omega
    obtain ⟨_, h9⟩ := hi
    rw [h8, List.take_length, hl, List.take_length] at h9
    have : (a == b) = true := beq_iff_eq.2 h9
    rw [this] at h
    exact h
 ·exact h.elim
theorem XEqMap : EntOk Tryz.prog 75 (.lend TEqMap) := by
 refine ⟨Am.enters_of Tryz.func75 (by kernel_rfl) (by kernel_rfl), λ args R h => ?_⟩
 unfold TEqMap at h
 split at h
 ·rename_i x y
  obtain ⟨a, b, ⟨hx, hy⟩, h⟩ := h
  refine Spec.args (args' := [mapAV a, mapAV b]) ⟨hx, hy, trivial⟩ (Spec.given λ hg => ?_)
  obtain ⟨ga, gb, _⟩ := hg
  refine mkSo (vEqMap a b (λ i => i <= a.length /\ a.take i = b.take i) R) (tb az) Tryz.func75 (by kernel_rfl) ?_
  have hmx := maxLen_eq
  simp only [true_and, and_true, and_self, implies_true, forall_const, gEq_true, gEq_false, nonneg_iff, natle_iff, decide_eq_true_eq, decide_eq_false_iff_not, Int.toNat_natCast, cond_bt, cond_bf, Bool.cond_true, Bool.cond_false, Bool.not_true, Bool.not_false, reduceCtorEq, false_implies, implies_true, Bool.true_eq_false, Bool.false_eq_true, Bool.not_eq_true', Bool.not_eq_false', bs_size, bs_data, bs_toList, bs_extract, bs_append, bs_mk, byteF] at h ⊢
  refine ⟨λ hne => ?_, λ hne => ?_⟩
  ·have : (a == b) = false := beq_eq_false_iff_ne.2 λ e => by rw [e] at hne; simp at hne
   rw [this] at h
   exact h
  ·have hl : a.length = b.length := by simp at hne; omega
   refine ⟨⟨0, rfl, Nat.zero_le _, by simp⟩, λ i hi => ⟨λ hlt => ⟨⟨by omega, by omega⟩, ⟨by omega, by omega⟩, ⟨by omega, by omega⟩, ⟨by omega, by omega⟩, λ hb => ?_, λ hb => ?_⟩, λ hge => ?_⟩⟩
   ·have : (a == b) = false := beq_eq_false_iff_ne.2 λ e => by
     have e2 := getD_len a b ([], []) i e
     rw [e2] at hb; simp at hb
    rw [this] at h
    exact h
   ·have e : a.getD i ([], []) = b.getD i ([], []) := by
     simp at hb; exact Prod.ext hb.1 hb.2
    exact ⟨i + 1, by rw [wrap64] <;> omega, ⟨by omega, take_eq_step a b ([], []) i (by omega) (by omega) hi.2 e⟩, by omega⟩
   ·have h8 : i = a.length := by omega
    obtain ⟨_, h9⟩ := hi
    rw [h8, List.take_length, hl, List.take_length] at h9
    have : (a == b) = true := beq_iff_eq.2 h9
    rw [this] at h
    exact h
 ·exact h.elim
theorem XEqEdit : EntOk Tryz.prog 76 (.lend TEqEdit) := by
 refine ⟨Am.enters_of Tryz.func76 (by kernel_rfl) (by kernel_rfl), λ args R h => ?_⟩
 unfold TEqEdit at h
 split at h
 ·rename_i x y
  obtain ⟨a, b, ⟨hx, hy⟩, h⟩ := h
  refine Spec.args (args' := [editAV a, editAV b]) ⟨hx, hy, trivial⟩ (Spec.given λ hg => ?_)
  obtain ⟨ga, gb, _⟩ := hg
  refine mkSo (vEqEdit a b (λ i => i <= a.length /\ a.take i = b.take i) R) (tb az) Tryz.func76 (by kernel_rfl) ?_
  have hmx := maxLen_eq
  simp only [true_and, and_true, and_self, implies_true, forall_const, gEq_true, gEq_false, nonneg_iff, natle_iff, decide_eq_true_eq, decide_eq_false_iff_not, Int.toNat_natCast, cond_bt, cond_bf, Bool.cond_true, Bool.cond_false, Bool.not_true, Bool.not_false, reduceCtorEq, false_implies, implies_true, Bool.true_eq_false, Bool.false_eq_true, Bool.not_eq_true', Bool.not_eq_false', bs_size, bs_data, bs_toList, bs_extract, bs_append, bs_mk, byteF] at h ⊢
  refine ⟨λ hne => ?_, λ hne => ?_⟩
  ·have : (a == b) = false := beq_eq_false_iff_ne.2 λ e => by rw [e] at hne; simp at hne
   rw [this] at h
   exact h
  ·have hl : a.length = b.length := by simp at hne; omega
   refine ⟨⟨0, rfl, Nat.zero_le _, by simp⟩, λ i hi => ⟨λ hlt => ⟨⟨by omega, by omega⟩, ⟨by omega, by omega⟩, ⟨by omega, by omega⟩, ⟨by omega, by omega⟩, λ hb => ?_, λ hb => ?_⟩, λ hge => ?_⟩⟩
   ·have : (a == b) = false := beq_eq_false_iff_ne.2 λ e => by
     have e2 := getD_len a b ([], false, []) i e
     rw [e2] at hb; simp at hb
    rw [this] at h
    exact h
   ·have e : a.getD i ([], false, []) = b.getD i ([], false, []) := by
     simp at hb; exact Prod.ext hb.1 (Prod.ext hb.2.1 hb.2.2)
    exact ⟨i + 1, by rw [wrap64] <;> omega, ⟨by omega, take_eq_step a b ([], false, []) i (by omega) (by omega) hi.2 e⟩, by omega⟩
   ·have h8 : i = a.length := by omega
    obtain ⟨_, h9⟩ := hi
    rw [h8, List.take_length, hl, List.take_length] at h9
    have : (a == b) = true := beq_iff_eq.2 h9
    rw [this] at h
    exact h
 ·exact h.elim
theorem XSameMap : EntOk Tryz.prog 62 (.lend TSameMap) := by
 refine ⟨Am.enters_of Tryz.func62 (by kernel_rfl) (by kernel_rfl), λ args R h => ?_⟩
 unfold TSameMap at h
 split at h
 ·rename_i x y
  obtain ⟨a, b, ⟨hx, hy⟩, h⟩ := h
  refine Spec.args (args' := [.agg [mapAV a], .agg [mapAV b]]) ⟨⟨hx, trivial⟩, ⟨hy, trivial⟩, trivial⟩ ?_
  refine mkSo (vSameMap a b R) (tb (ac XEqMap az)) Tryz.func62 (by kernel_rfl) ?_
  simp only [true_and, and_true, and_self, implies_true, forall_const, gEq_true, gEq_false, nonneg_iff, natle_iff, decide_eq_true_eq, decide_eq_false_iff_not, Int.toNat_natCast, cond_bt, cond_bf, Bool.cond_true, Bool.cond_false, Bool.not_true, Bool.not_false, reduceCtorEq, false_implies, implies_true, Bool.true_eq_false, Bool.false_eq_true, Bool.not_eq_true', Bool.not_eq_false'] at h ⊢
  exact ⟨a, b, ⟨⟨rfl, rfl, λ _ _ => rfl⟩, ⟨rfl, rfl, λ _ _ => rfl⟩⟩, h⟩
 ·exact h.elim
theorem XSameEdit : EntOk Tryz.prog 63 (.lend TSameEdit) := by
 refine ⟨Am.enters_of Tryz.func63 (by kernel_rfl) (by kernel_rfl), λ args R h => ?_⟩
 unfold TSameEdit at h
 split at h
 ·rename_i x y
  obtain ⟨a, b, ⟨hx, hy⟩, h⟩ := h
  refine Spec.args (args' := [.agg [editAV a], .agg [editAV b]]) ⟨⟨hx, trivial⟩, ⟨hy, trivial⟩, trivial⟩ ?_
  refine mkSo (vSameEdit a b R) (tb (ac XEqEdit az)) Tryz.func63 (by kernel_rfl) ?_
  simp only [true_and, and_true, and_self, implies_true, forall_const, gEq_true, gEq_false, nonneg_iff, natle_iff, decide_eq_true_eq, decide_eq_false_iff_not, Int.toNat_natCast, cond_bt, cond_bf, Bool.cond_true, Bool.cond_false, Bool.not_true, Bool.not_false, reduceCtorEq, false_implies, implies_true, Bool.true_eq_false, Bool.false_eq_true, Bool.not_eq_true', Bool.not_eq_false'] at h ⊢
  exact ⟨a, b, ⟨⟨rfl, rfl, λ _ _ => rfl⟩, ⟨rfl, rfl, λ _ _ => rfl⟩⟩, h⟩
 ·exact h.elim
theorem XEqBytes : EntOk Tryz.prog 60 (.lend TEqBytes) := by
 refine ⟨Am.enters_of Tryz.func60 (by kernel_rfl) (by kernel_rfl), λ args R h => ?_⟩
 unfold TEqBytes at h
 split at h
 ·rename_i x y
  obtain ⟨a, b, ⟨hx, hy⟩, h⟩ := h
  refine Spec.args (args' := [row8AV a, row8AV b]) ⟨hx, hy, trivial⟩ ?_
  refine mkSo (vEqBytes a b R) (tb az) Tryz.func60 (by kernel_rfl) ?_
  simp only [true_and, and_true, and_self, implies_true, forall_const, gEq_true, gEq_false, nonneg_iff, natle_iff, decide_eq_true_eq, decide_eq_false_iff_not, Int.toNat_natCast, cond_bt, cond_bf, Bool.cond_true, Bool.cond_false, Bool.not_true, Bool.not_false, reduceCtorEq, false_implies, implies_true, Bool.true_eq_false, Bool.false_eq_true, Bool.not_eq_true', Bool.not_eq_false', bs_size, bs_data, bs_toList, bs_extract, bs_append, bs_mk, byteF] at h ⊢
  exact ⟨bs a, bs_size a, λ i _ => by rw [bs_data], bs b, bs_size b, λ i _ => by rw [bs_data], by simpa using h⟩
 ·exact h.elim
theorem XLong1 : EntOk Tryz.prog 51 (.lend TLong1) := by
 refine ⟨Am.enters_of Tryz.func51 (by kernel_rfl) (by kernel_rfl), λ args R h => ?_⟩
 unfold TLong1 at h
 split at h
 ·rename_i s
  obtain ⟨s, rfl⟩ : ∃ l, s = bs l := ⟨_, bs_of s⟩
  refine mkSo (vLong1 s R) (tb az) Tryz.func51 (by kernel_rfl) ?_
  have e : decide (((s.length : Nat) : Int) > 1024) = longB s := by unfold longB; rw [decide_eq_decide]; omega
  simp only [true_and, and_true, and_self, implies_true, forall_const, gEq_true, gEq_false, nonneg_iff, natle_iff, decide_eq_true_eq, decide_eq_false_iff_not, Int.toNat_natCast, cond_bt, cond_bf, Bool.cond_true, Bool.cond_false, Bool.not_true, Bool.not_false, reduceCtorEq, false_implies, implies_true, Bool.true_eq_false, Bool.false_eq_true, Bool.not_eq_true', Bool.not_eq_false', bs_size, bs_data, bs_toList, bs_extract, bs_append, bs_mk, byteF, e] at h ⊢
  exact h
 ·exact h.elim
theorem XIdxF : EntOk Tryz.prog 72 (.lend TIdxF) := by
 refine ⟨Am.enters_of Tryz.func72 (by kernel_rfl) (by kernel_rfl), λ args R h => ?_⟩
 unfold TIdxF at h
 split at h
 ·rename_i x
  obtain ⟨ls, ⟨hx, hl⟩, h⟩ := h
  refine Spec.args (args' := [textsAV ls, fn59]) ⟨isTexts_le hx _, rfl, trivial⟩ ?_
  refine mkSo (vIdxF ls (λ i => i <= ls.length /\ (ls.take i).findIdx? longB = none) R) (tb (ac XLong1 az)) Tryz.func72 (by kernel_rfl) ?_
  simp only [true_and, and_true, and_self, implies_true, forall_const, gEq_true, gEq_false, nonneg_iff, natle_iff, decide_eq_true_eq, decide_eq_false_iff_not, Int.toNat_natCast, cond_bt, cond_bf, Bool.cond_true, Bool.cond_false, Bool.not_true, Bool.not_false, reduceCtorEq, false_implies, implies_true, Bool.true_eq_false, Bool.false_eq_true, Bool.not_eq_true', Bool.not_eq_false', bs_size, bs_data, bs_toList, bs_extract, bs_append, bs_mk, byteF] at h ⊢
  refine ⟨⟨0, rfl, Nat.zero_le _, by simp⟩, λ i hi => ⟨λ hlt => ⟨⟨by omega, by omega⟩, λ hb => ?_, λ hb => ?_⟩, λ hge => ?_⟩⟩
  ·have e : ls.findIdx? longB = some i := findIdx_some_take i (by omega) hi.2 hb
   rw [idxL1, e] at h
   exact h
  ·exact ⟨i + 1, by rw [wrap64] <;> omega, ⟨by omega, findIdx_none_take i (by omega) hi.2 hb⟩, by omega⟩
  ·have : i = ls.length := by omega
   subst this
   rw [List.take_length] at hi
   rw [idxL1, hi.2] at h
   exact h
 ·exact h.elim
theorem idxL1_any (ls : List Bs) : decide (idxL1 ls ≥ 0) = ls.any longB := by
 unfold idxL1
 cases h : ls.findIdx? longB with
 | none =>
  rw [List.findIdx?_eq_none_iff] at h
  rw [Bool.eq_iff_iff]
  simp
  exact h
 | some i =>
  obtain ⟨hi, h1, _⟩ := List.findIdx?_eq_some_iff_getElem.1 h
  rw [Bool.eq_iff_iff]
  simp only [ge_iff_le, decide_eq_true_eq, List.any_eq_true]
  exact ⟨λ _ => ⟨_, List.getElem_mem hi, h1⟩, λ _ => by omega⟩
theorem XContL : EntOk Tryz.prog 50 (.lend TContL) := by
 refine ⟨Am.enters_of Tryz.func50 (by kernel_rfl) (by kernel_rfl), λ args R h => ?_⟩
 unfold TContL at h
 split at h
 ·rename_i x
  obtain ⟨ls, ⟨hx, hl⟩, h⟩ := h
  refine Spec.args (args' := [textsAV ls, fn59]) ⟨isTexts_le hx _, rfl, trivial⟩ ?_
  refine mkSo (vContL ls R) (tb (ac XIdxF az)) Tryz.func50 (by kernel_rfl) ?_
  simp only [true_and, and_true, and_self, implies_true, forall_const, gEq_true, gEq_false, nonneg_iff, natle_iff, decide_eq_true_eq, decide_eq_false_iff_not, Int.toNat_natCast, cond_bt, cond_bf, Bool.cond_true, Bool.cond_false, Bool.not_true, Bool.not_false, reduceCtorEq, false_implies, implies_true, Bool.true_eq_false, Bool.false_eq_true, Bool.not_eq_true', Bool.not_eq_false'] at h ⊢
  exact ⟨ls, ⟨⟨rfl, rfl, λ _ _ => rfl⟩, hl⟩, by rw [idxL1_any]; exact h⟩
 ·exact h.elim
theorem XLong : EntOk Tryz.prog 49 (.lend TLong) := by
 refine ⟨Am.enters_of Tryz.func49 (by kernel_rfl) (by kernel_rfl), λ args R h => ?_⟩
 unfold TLong at h
 split at h
 ·rename_i x
  obtain ⟨ls, ⟨hx, hl⟩, h⟩ := h
  refine Spec.args (args' := [textsAV ls]) ⟨isTexts_le hx _, trivial⟩ ?_
  refine mkSo (vLong ls R) (tb (ac XContL az)) Tryz.func49 (by kernel_rfl) ?_
  simp only [true_and, and_true, and_self, implies_true, forall_const, gEq_true, gEq_false, nonneg_iff, natle_iff, decide_eq_true_eq, decide_eq_false_iff_not, Int.toNat_natCast, cond_bt, cond_bf, Bool.cond_true, Bool.cond_false, Bool.not_true, Bool.not_false, reduceCtorEq, false_implies, implies_true, Bool.true_eq_false, Bool.false_eq_true, Bool.not_eq_true', Bool.not_eq_false'] at h ⊢
  exact ⟨ls, ⟨⟨rfl, rfl, λ _ _ => rfl⟩, hl⟩, h⟩
 ·exact h.elim
end Go.Proofs.Sz

namespace Go.Proofs.Sz
open Go Go.Am Go.SP
abbrev tySc : TypeId := 28
def IsPtrs (ps : List AV) (n : Nat) (k : Int) : Prop :=
 (clsK k = 1 /\ ps = [.ptr 1 0 1 0, .ptr 1 0 3 0] /\ n = 2) ∨ (clsK k = 2 /\ ps = [.ptr 1 0 3 0] /\ n = 1) ∨ (clsK k = 3 /\ ps = [.ptr 1 0 1 0, .ptr 1 0 2 0] /\ n = 2) ∨ (clsK k = 4 /\ ps = [.ptr 1 0 1 0] /\ n = 1) ∨ (clsK k = 5 /\ ps = [.ptr 1 0 1 0, .ptr 1 0 11 0] /\ n = 2)
def IsZ (cs : List AV) (e : Ev) : Prop := cs = cellsZ e
def tkN : List LObj -> List AV -> List Nat := λ H xs => match xs with
 | [.ptr l 0 0 0, .own q _ _] => match H[q]? with
  | some (.prow _ (.ptr b _ _ _ :: _)) => match H[b]? with
   | some (.box _ [_, _, _, .own r _ _]) => [l, b, q, r]
   | _ => [l, b, q]
  | _ => [l, q]
 | .ptr l 0 0 0 :: _ => [l]
 | _ => []
def TNumbers : HTrans := λ H args K => match H, args with
 | [.box t [.pl (.string s), .pl (.bool b)]], [.ptr 0 0 0 0, .pl (.slice none 0 0)] => t = tyRd /\ K (.tup []) [.box t [.pl (.string s), .pl (.bool b)]]
 | [.box t [.pl (.string s), .pl (.bool b)], .box t2 cs, .prow t3 ps], [.ptr 0 0 0 0, .own 2 0 n] => ∃ e : Ev, (t = tyRd /\ s.size <= rlim /\ t2 = tyEv /\ t3 = tyPI /\ IsZ cs e /\ IsPtrs ps n e.kind) /\
   K (.tup []) [rdO (numbersR (fieldsN e.kind) ⟨s.data.toList, b⟩).2, .box tyEv (cellsZ (e.setF (numbersR (fieldsN e.kind) ⟨s.data.toList, b⟩).1)), .prow tyPI ps]
 | [.box t [.pl (.string s), .pl (.bool b)], .box t2 [.pl (.int .i64 _), .pl (.int .i64 _), .pl (.int .i64 _), .own 3 0 m], .prow t3 [.ptr 1 0 0 0, .ptr 1 0 1 0, .ptr 1 0 2 0], .row k e m2 f], [.ptr 0 0 0 0, .own 2 0 3] => (t = tyRd /\ s.size <= rlim /\ t2 = tySc /\ t3 = tyPI) /\
   K (.tup []) [rdO (numbersR 3 ⟨s.data.toList, b⟩).2, .box tySc [nm ((numbersR 3 ⟨s.data.toList, b⟩).1.getD 0 0), nm ((numbersR 3 ⟨s.data.toList, b⟩).1.getD 1 0), nm ((numbersR 3 ⟨s.data.toList, b⟩).1.getD 2 0), .own 3 0 m], .prow tyPI [.ptr 1 0 0 0, .ptr 1 0 1 0, .ptr 1 0 2 0], .row k e m2 f]
 | _, _ => False
def TChange : HTrans := λ H args K => match H, args with
 | [.box t [.pl (.string s), .pl (.bool b)]], [.ptr 0 0 0 0] => (t = tyRd /\ s.size <= rlim) /\ K (.agg [sl (changeR ⟨s.data.toList, b⟩).1.1, bl (changeR ⟨s.data.toList, b⟩).1.2.1, sl (changeR ⟨s.data.toList, b⟩).1.2.2]) [rdO (changeR ⟨s.data.toList, b⟩).2]
 | _, _ => False
def idE (s : Bs) : Int := bif (idR s).2 then 0 else 130
def TIdP : Trans := λ args K => match args with
 | [.pl (.string s)] => s.size <= rlim /\ K (.tup [.agg [.iarr .u8 32 (idR s.data.toList).1], nm (idE s.data.toList)]) []
 | _ => False
def TIdT : Trans := λ args K => match args with
 | [.agg [.iarr .u8 32 f]] => (∀ i, i < 32 -> 0 <= f i /\ f i < 256) /\ K (sl (idL f)) []
 | _ => False
def idUp (s : Bs) (n i : Nat) : Int := if 2 * i + 1 < n then ((digV (s.getD (2 * i) 0) * 16 + digV (s.getD (2 * i + 1) 0) : Nat) : Int) else if 2 * i < n then (digV (s.getD (2 * i) 0) : Nat) else 0
def idTk (f : Idv) (n : Nat) : Bs := (List.range n).flatMap λ i => [hexD ((f i).toNat / 16), hexD ((f i).toNat % 16)]
end Go.Proofs.Sz

namespace Go.Proofs.Sz
open Go Go.Am Go.SP
abbrev tyBool : TypeId := 4
abbrev tyInt : TypeId := 3
abbrev tyRow : TypeId := 96
abbrev tyChg : TypeId := 64
def cellsQ (e : Ev) (a b c d : AV) : List AV := [nm e.kind, nm e.node, nm e.to, nm e.n, a, b, sl e.branch, c, d, .pl (.int .u32 e.author), sl e.note, nm e.ck, nm e.client, .pl (.int .u32 e.seq), sl e.cbranch, .iarr .u8 32 e.old, .iarr .u8 32 e.new, nilS]
def TEvent : HTrans := λ H args K => match H, args with
 | [.box t [.pl (.string s), .pl (.bool b)]], [.ptr 0 0 0 0, .pl (.string w)] => (t = tyRd /\ s.size <= rlim) /\ K (eventR w.data.toList ⟨s.data.toList, b⟩).1.av [rdO (eventR w.data.toList ⟨s.data.toList, b⟩).2]
 | _, _ => False
def scBox (q : Nat) (s : Sc) : LObj := .box tySc [nm s.servers, nm s.clients, nm s.area, .own q 0 s.evs.length]
def rowE (l : List Ev) : LObj := .row 80 tyEv l.length (evF l)
def IsEvRow (k : Nat) (e : TypeId) (m n : Nat) (f : Nat -> AV) (l : List Ev) : Prop := k = 80 /\ e = tyEv /\ m = l.length /\ n = l.length /\ ∀ i, i < l.length -> f i = evF l i
theorem isEvRow_self (l : List Ev) : IsEvRow 80 tyEv l.length l.length (evF l) l := ⟨rfl, rfl, rfl, rfl, λ _ _ => rfl⟩
def tkL : List LObj -> List AV -> List Nat := λ H xs => match xs with
 | .ptr l 0 0 0 :: _ => match H[l]? with
  | some (.box _ [_, _, _, .own q _ _]) => [l, q]
  | _ => [l]
 | _ => []
def TLine : HTrans := λ H args K => match H, args with
 | [.box t [.pl (.int .i64 a), .pl (.int .i64 b), .pl (.int .i64 c), .own 1 0 n], .row k e m f], [.ptr 0 0 0 0, .pl (.string s), .pl (.int .i64 j)] => ∃ (l : List Ev) (q : Nat), (t = tySc /\ IsEvRow k e m n f l /\ s.size <= rlim /\ l.length <= rlim /\ j = q) /\
   K (bl (lineR ⟨a, b, c, l⟩ s.data.toList q).2) [scBox 2 (lineR ⟨a, b, c, l⟩ s.data.toList q).1, .dead, rowE (lineR ⟨a, b, c, l⟩ s.data.toList q).1.evs]
 | _, _ => False
def scAV (s : Sc) : AV := .agg [nm s.servers, nm s.clients, nm s.area, evsAV s.evs]
def TParse : Trans := λ args K => match args with
 | [.pl (.string s)] => K (.tup [scAV (parseR s.data.toList).1, nm (parseR s.data.toList).2.1, nm (parseR s.data.toList).2.2]) []
 | _ => False
structure Dn where
 client : Int
 ck : Int
 cclient : Int
 seq : Int
 branch : Bs
 old : Idv
 new : Idv
 data : Bs
 err : Int
 id : Idv
def Dn.av (d : Dn) : AV := .agg [nm d.client, nm d.ck, nm d.cclient, .pl (.int .u32 d.seq), sl d.branch, .iarr .u8 32 d.old, .iarr .u8 32 d.new, .rows 1 d.data.length (byteF (bs d.data)), nm d.err, .iarr .u8 32 d.id]
def EvOk (e : Ev) : Prop := Int64 e.kind /\ Int64 e.node /\ Int64 e.to /\ Int64 e.n /\ (∀ x ∈ e.conf, Int64 x) /\ Int64 e.ck /\ (0 <= e.author /\ e.author < 4294967296) /\ ∀ i, i < 32 -> 0 <= e.new i /\ e.new i < 256
def TWEvent : HTrans := λ H args K => match H, args with
 | [.box t [.ptr 0 0 0 0, .own 1 0 n], .row k e m f], [.ptr 0 0 0 0, x] => ∃ (l : Bs) (v : Ev), (t = tyW /\ IsBytes k e m n f l /\ IsEv x v /\ EvOk v /\ wrongE v = false /\ l.length + 1000000 <= lim) /\ K (.tup []) (WR (l ++ evL v))
 | _, _ => False
def TPrint : Trans := λ args K => match args with
 | [.agg [.pl (.int .i64 a), .pl (.int .i64 b), .pl (.int .i64 c), x]] => ∃ l : List Ev, (IsEvs x l /\ Int64 a /\ Int64 b /\ Int64 c /\ ∀ e ∈ l, EvOk e) /\ K (.tup [sl (printR ⟨a, b, c, l⟩).1, nm (printR ⟨a, b, c, l⟩).2]) []
 | _ => False
def wB (q : Nat) (l : Bs) : List LObj := [.box tyW [.ptr q 0 0 0, .own (q + 1) 0 l.length], rowB l]
end Go.Proofs.Sz

namespace Go.Proofs.Sz
open Go Go.Am Go.SP
def TJoin : Trans := λ args K => match args with
 | [x, .pl (.string p)] => ∃ ls : List Bs, (IsTexts x ls /\ 0 < ls.length /\ ls.length <= 1000 /\ (Lib.join ls p.data.toList).length <= 1000000) /\ K (sl (Lib.join ls p.data.toList)) []
 | _ => False
def TNum : Trans := λ args K => match args with
 | [.pl (.int .i64 n)] => Int64 n /\ K (sl (Lib.itoa n)) []
 | _ => False
def TSign : Trans := λ args K => match args with
 | [.pl (.int .u8 c)] => (0 <= c /\ c < 16) /\ K (u8 (hexD c.toNat)) []
 | _ => False
def TWakes : Trans := λ args K => match args with
 | [] => K (bl true) []
 | _ => False
end Go.Proofs.Sz
