/- Seat r1: the contract of IdealHeads. Seat r1: IdealHeads in plain Lean: no other head turns, and that by OK alone. Seat r1: the arguments of the laws, as they are read. Proved: whatever the input, IdealHeads returns true and each argument reads as it did (Rows.IdealHeadsSaid); under no condition beside those of the row. Seat r1: what the document's answers compute (branches). Seat r1: contracts of the document's answers (branches). Seat r1: the program's answers and the document's are the same (branches), in plain Lean. Seat r1: rows of commands and answers. Seat r1: the contract of IdealFits. Proved: whatever the input, IdealFits returns true and each argument reads as it did (Rows.IdealFitsSaid); under no condition beside those of the row. Seat r1: what the document's answers compute (histories). -/
import Derived.Test.YtbjonljojnjceaaSB
import Derived.Test.YtbjonljojnjceaaMC
import Derived.Test.YtbjonljojnjceaaRows
namespace Go.Proofs.R1
open Go Go.Am

theorem v5 (L M F : List Br) (c d : Cmd) (a : Ans) (inv : Nat → Prop) (R : AV → List LObj → Prop) :
    (vcA false 0 [] Try.prog (mkTab [(6, .lend T6), (7, .lend T7), (8, .lend T8), (9, .lend T9), (24, .lend T24), (25, .lend T25), (26, .lend T26)]) (Try.f5.body.getD .skip) ([.loop 9 Nat inv (fun i => ⟨slotsOf 82 0 [(0, .own 2 0 M.length), (4, .ptr 0 0 0 0), (5, .ptr 1 0 0 0), (7, .own 3 0 F.length), (9, .pl (.func (.func 24) #[] #[])), (33, .own 4 0 (M ++ F).length), (34, nm (M ++ F).length), (35, nm i)], [.box 31 (partsL d.av), .box 34 (partsL a.av), brsO M, brsO F, brsO (M ++ F)]⟩) (fun i => (M ++ F).length - i) (fun _ => [])]) (finalK Try.prog Try.f5 (R)) (startSt Try.f5 ([brs L, c.av, a.av]))) = (
    True ∧
    True ∧
    ((!true) = true → (True ∧ True) ∧ True ∧ R (AV.pl (Value.bool false)) []) ∧
    ((!true) = false →
    ∃ (L_1 : List Br),
    IsBrs (AV.rows (33 : Nat) L.length (brsF L)) L_1 ∧
    ∃ (c_1 : Cmd),
    IsCmd
    (AV.agg
    [AV.pl (Value.int IntKind.i64 c.kind), AV.pl (Value.int IntKind.i64 c.client),
    AV.pl (Value.int IntKind.u32 c.seq), AV.pl (Value.string c.branch),
    AV.iarr IntKind.u8 (32 : Nat) c.old, AV.iarr IntKind.u8 (32 : Nat) c.new,
    AV.rows (1 : Nat) c.dn c.df])
    c_1 ∧
    True ∧
    (((0 : Nat) + (cutL L_1).length).le (cutL L_1).length ∧
    (True ∧ True ∧ True ∧ True ∧ True ∧ True ∧ True ∧ True) ∧ (True ∧ True ∧ True) ∧ True) ∧
    ∃ (L : List Br),
    ∃ (c : Cmd),
    ∃ (a_2 : Ans),
    IsBrs
    (AV.rows (33 : Nat) (cutL L_1).length fun (i : Nat) =>
    AV.agg
    [AV.pl (Value.string (brAt (cutL L_1) ((0 : Nat) + i)).name),
    AV.iarr IntKind.u8 (32 : Nat) (brAt (cutL L_1) ((0 : Nat) + i)).id])
    L ∧
    IsCmd
    (AV.agg
    [AV.pl (Value.int IntKind.i64 (cutC c_1).kind),
    AV.pl (Value.int IntKind.i64 (cutC c_1).client),
    AV.pl (Value.int IntKind.u32 (cutC c_1).seq),
    AV.pl (Value.string (cutC c_1).branch),
    AV.iarr IntKind.u8 (32 : Nat) (cutC c_1).old,
    AV.iarr IntKind.u8 (32 : Nat) (cutC c_1).new,
    AV.rows (1 : Nat) (cutC c_1).dn (cutC c_1).df])
    c ∧
    IsAns (AV.agg [AV.pl (Value.int IntKind.i64 a.err), AV.iarr IntKind.u8 (32 : Nat) a.id])
    a_2 ∧
    Bd L ∧
    True ∧
    ((∀ (i : Nat), i < (FitsL L c a_2).length → flatB (brsF (FitsL L c a_2) i) = true) ∧
    True) ∧
    ((!FitsB L c a_2) = true →
    (True ∧ True) ∧
    True ∧
    R (AV.pl (Value.bool ((↑(FitsL L c a_2).length : Int) == (0 : Int))))
    []) ∧
    ((!FitsB L c a_2) = false →
    (((0 : Nat) + (cutL L_1).length).le (cutL L_1).length ∧ True) ∧
    ∃ (L_2 : List Br),
    IsBrs
    (AV.rows (33 : Nat) (cutL L_1).length fun (i : Nat) =>
    AV.agg
    [AV.pl (Value.string (brAt (cutL L_1) ((0 : Nat) + i)).name),
    AV.iarr IntKind.u8 (32 : Nat)
    (brAt (cutL L_1) ((0 : Nat) + i)).id])
    L_2 ∧
    Bd L_2 ∧
    True ∧
    ((∀ (i : Nat), i < L_2.length → flatB (brsF L_2 i) = true) ∧ True) ∧
    (((0 : Nat) + (FitsL L c a_2).length).le (FitsL L c a_2).length ∧
    L_2.length = L_2.length ∧
    (L_2.length + (FitsL L c a_2).length).le maxLen ∧
    ((L_2.length + (FitsL L c a_2).length) * (48 : Nat)).le
    (140737488355328 : Nat)) ∧
    (∃ (x : Nat),
    ((True ∧
    (0 : Nat) = (0 : Nat) ∧
    (cutL L_1).length = M.length) ∧
    (True ∧
    (0 : Nat) = (0 : Nat) ∧
    (0 : Nat) = (0 : Nat) ∧ (0 : Nat) = (0 : Nat)) ∧
    (True ∧
    (0 : Nat) = (0 : Nat) ∧
    (0 : Nat) = (0 : Nat) ∧ (0 : Nat) = (0 : Nat)) ∧
    (True ∧
    (0 : Nat) = (0 : Nat) ∧
    (FitsL L c a_2).length = F.length) ∧
    Value.func (Fn.func (24 : Nat)) (Array.mk [])
    (Array.mk []) =
    Value.func (Fn.func (24 : Nat)) (Array.mk [])
    (Array.mk []) ∧
    (True ∧
    (0 : Nat) = (0 : Nat) ∧
    L_2.length + (FitsL L c a_2).length =
    (M ++ F).length) ∧
    (↑(L_2.length + (FitsL L c a_2).length) :
    Int) =
    (↑(M ++ F).length : Int) ∧
    (0 : Int) = (↑x : Int) ∧ True) ∧
    (((31 : Nat) = (31 : Nat) ∧
    (cutC c_1).kind = d.kind ∧
    (cutC c_1).client = d.client ∧
    (cutC c_1).seq = d.seq ∧
    (cutC c_1).branch = d.branch ∧
    (IntKind.u8 = IntKind.u8 ∧
    (32 : Nat) = (32 : Nat) ∧
    ∀ (i : Nat),
    i < (32 : Nat) →
    (cutC c_1).old i = d.old i) ∧
    (IntKind.u8 = IntKind.u8 ∧
    (32 : Nat) = (32 : Nat) ∧
    ∀ (i : Nat),
    i < (32 : Nat) →
    (cutC c_1).new i = d.new i) ∧
    ((1 : Nat) = (1 : Nat) ∧
    (cutC c_1).dn = d.dn ∧
    ∀ (i : Nat),
    i < (cutC c_1).dn →
    (cutC c_1).df i = d.df i) ∧
    True) ∧
    ((34 : Nat) = (34 : Nat) ∧
    a.err = a.err ∧
    (IntKind.u8 = IntKind.u8 ∧
    (32 : Nat) = (32 : Nat) ∧
    ∀ (i : Nat),
    i < (32 : Nat) → a.id i = a.id i) ∧
    True) ∧
    ((33 : Nat) = (33 : Nat) ∧
    (45 : Nat) = (45 : Nat) ∧
    M.length.le (cutL L_1).length ∧
    ∀ (i : Nat),
    i < M.length →
    AV.agg
    [AV.pl
    (Value.string
    (brAt (cutL L_1) i).name),
    AV.iarr IntKind.u8 (32 : Nat)
    (brAt (cutL L_1) i).id] =
    AV.agg
    [AV.pl
    (Value.string (brAt M i).name),
    AV.iarr IntKind.u8 (32 : Nat)
    (brAt M i).id]) ∧
    ((33 : Nat) = (33 : Nat) ∧
    (45 : Nat) = (45 : Nat) ∧
    F.length.le (FitsL L c a_2).length ∧
    ∀ (i : Nat),
    i < F.length →
    AV.agg
    [AV.pl
    (Value.string
    (brAt (FitsL L c a_2)
    i).name),
    AV.iarr IntKind.u8 (32 : Nat)
    (brAt (FitsL L c a_2) i).id] =
    AV.agg
    [AV.pl
    (Value.string
    (brAt F i).name),
    AV.iarr IntKind.u8 (32 : Nat)
    (brAt F i).id]) ∧
    ((33 : Nat) = (33 : Nat) ∧
    (45 : Nat) = (45 : Nat) ∧
    (M ++ F).length.le
    (L_2.length +
    (FitsL L c a_2).length) ∧
    ∀ (i : Nat),
    i < (M ++ F).length →
    (if i < L_2.length then
    AV.agg
    [AV.pl
    (Value.string
    (brAt L_2 i).name),
    AV.iarr IntKind.u8
    (32 : Nat)
    (brAt L_2 i).id]
    else
    AV.agg
    [AV.pl
    (Value.string
    (brAt (FitsL L c a_2)
    ((0 : Nat) +
    (i -
    L_2.length))).name),
    AV.iarr IntKind.u8
    (32 : Nat)
    (brAt (FitsL L c a_2)
    ((0 : Nat) +
    (i -
    L_2.length))).id]) =
    AV.agg
    [AV.pl
    (Value.string
    (brAt (M ++ F) i).name),
    AV.iarr IntKind.u8 (32 : Nat)
    (brAt (M ++ F) i).id]) ∧
    True) ∧
    inv x) ∧
    ∀ (x : Nat),
    inv x →
    (decide ((↑x : Int) < (↑(M ++ F).length : Int)) = true →
    ((0 : Int) ≤ (↑x : Int) ∧
    (↑x : Int) + (1 : Int) ≤
    (↑(M ++ F).length : Int)) ∧
    (((0 : Nat) + (↑x : Int).toNat).succ.le
    (M ++ F).length ∧
    True) ∧
    True ∧
    True ∧
    (gEq
    (!(brAt (M ++ F)
    ((0 : Nat) +
    (↑x :
    Int).toNat)).name.toList ==
    d.branch.toList)
    true =
    true →
    (((0 : Nat) + M.length).le M.length ∧
    True ∧ True) ∧
    ∃ (L : List Br),
    IsBrs
    (AV.rows (33 : Nat) M.length
    fun (i : Nat) =>
    AV.agg
    [AV.pl
    (Value.string
    (brAt M
    ((0 : Nat) +
    i)).name),
    AV.iarr IntKind.u8
    (32 : Nat)
    (brAt M
    ((0 : Nat) + i)).id])
    L ∧
    True ∧
    True ∧
    (((0 : Nat) + F.length).le
    F.length ∧
    True ∧ True) ∧
    ∃ (L_3 : List Br),
    IsBrs
    (AV.rows (33 : Nat)
    F.length
    fun (i : Nat) =>
    AV.agg
    [AV.pl
    (Value.string
    (brAt F
    ((0 :
    Nat) +
    i)).name),
    AV.iarr IntKind.u8
    (32 : Nat)
    (brAt F
    ((0 : Nat) +
    i)).id])
    L_3 ∧
    True ∧
    True ∧
    true = true ∧
    ((bif true then
    !(List.range
    (32 :
    Nat)).all
    fun
    (i :
    Nat) =>
    headW L
    (brAt
    (M ++
    F)
    ((0 :
    Nat) +
    (↑x :
    Int).toNat)).name
    i ==
    headW
    L_3
    (brAt
    (M ++
    F)
    ((0 :
    Nat) +
    (↑x :
    Int).toNat)).name
    i
    else false) =
    true →
    (True ∧ True) ∧
    True ∧
    R
    (AV.pl
    (Value.bool
    false))
    []) ∧
    ((bif true then
    !(List.range
    (32 :
    Nat)).all
    fun
    (i :
    Nat) =>
    headW L
    (brAt
    (M ++
    F)
    ((0 :
    Nat) +
    (↑x :
    Int).toNat)).name
    i ==
    headW
    L_3
    (brAt
    (M ++
    F)
    ((0 :
    Nat) +
    (↑x :
    Int).toNat)).name
    i
    else false) =
    false →
    ∃ (y : Nat),
    ((True ∧
    (0 :
    Nat) =
    (0 :
    Nat) ∧
    M.length =
    M.length) ∧
    (True ∧
    (0 :
    Nat) =
    (0 :
    Nat) ∧
    (0 :
    Nat) =
    (0 :
    Nat) ∧
    (0 :
    Nat) =
    (0 :
    Nat)) ∧
    (True ∧
    (0 :
    Nat) =
    (0 :
    Nat) ∧
    (0 :
    Nat) =
    (0 :
    Nat) ∧
    (0 :
    Nat) =
    (0 :
    Nat)) ∧
    (True ∧
    (0 :
    Nat) =
    (0 :
    Nat) ∧
    F.length =
    F.length) ∧
    Value.func
    (Fn.func
    (24 :
    Nat))
    (Array.mk
    [])
    (Array.mk
    []) =
    Value.func
    (Fn.func
    (24 :
    Nat))
    (Array.mk
    [])
    (Array.mk
    []) ∧
    (True ∧
    (0 :
    Nat) =
    (0 :
    Nat) ∧
    (M ++
    F).length =
    (M ++
    F).length) ∧
    (↑(M ++
    F).length :
    Int) =
    (↑(M ++
    F).length :
    Int) ∧
    IntKind.i64.wrap
    ((↑x :
    Int) +
    (1 :
    Int)) =
    (↑y :
    Int) ∧
    True) ∧
    (((31 :
    Nat) =
    (31 :
    Nat) ∧
    d.kind =
    d.kind ∧
    d.client =
    d.client ∧
    d.seq =
    d.seq ∧
    d.branch =
    d.branch ∧
    (IntKind.u8 =
    IntKind.u8 ∧
    (32 :
    Nat) =
    (32 :
    Nat) ∧
    ∀
    (i :
    Nat),
    i <
    (32 :
    Nat) →
    d.old
    i =
    d.old
    i) ∧
    (IntKind.u8 =
    IntKind.u8 ∧
    (32 :
    Nat) =
    (32 :
    Nat) ∧
    ∀
    (i :
    Nat),
    i <
    (32 :
    Nat) →
    d.new
    i =
    d.new
    i) ∧
    ((1 :
    Nat) =
    (1 :
    Nat) ∧
    d.dn =
    d.dn ∧
    ∀
    (i :
    Nat),
    i <
    d.dn →
    d.df
    i =
    d.df
    i) ∧
    True) ∧
    ((34 :
    Nat) =
    (34 :
    Nat) ∧
    a.err =
    a.err ∧
    (IntKind.u8 =
    IntKind.u8 ∧
    (32 :
    Nat) =
    (32 :
    Nat) ∧
    ∀
    (i :
    Nat),
    i <
    (32 :
    Nat) →
    a.id
    i =
    a.id
    i) ∧
    True) ∧
    ((33 :
    Nat) =
    (33 :
    Nat) ∧
    (45 :
    Nat) =
    (45 :
    Nat) ∧
    M.length.le
    M.length ∧
    ∀
    (i :
    Nat),
    i <
    M.length →
    brsF
    M
    i =
    brsF
    M
    i) ∧
    ((33 :
    Nat) =
    (33 :
    Nat) ∧
    (45 :
    Nat) =
    (45 :
    Nat) ∧
    F.length.le
    F.length ∧
    ∀
    (i :
    Nat),
    i <
    F.length →
    brsF
    F
    i =
    brsF
    F
    i) ∧
    ((33 :
    Nat) =
    (33 :
    Nat) ∧
    (45 :
    Nat) =
    (45 :
    Nat) ∧
    (M ++
    F).length.le
    (M ++
    F).length ∧
    ∀
    (i :
    Nat),
    i <
    (M ++
    F).length →
    AV.agg
    [AV.pl
    (Value.string
    (brAt
    (M ++
    F)
    i).name),
    AV.iarr
    IntKind.u8
    (32 :
    Nat)
    (brAt
    (M ++
    F)
    i).id] =
    AV.agg
    [AV.pl
    (Value.string
    (brAt
    (M ++
    F)
    i).name),
    AV.iarr
    IntKind.u8
    (32 :
    Nat)
    (brAt
    (M ++
    F)
    i).id]) ∧
    True) ∧
    inv y ∧
    ((M ++
    F).length -
    y).succ.le
    ((M ++
    F).length -
    x))) ∧
    (gEq
    (!(brAt (M ++ F)
    ((0 : Nat) +
    (↑x :
    Int).toNat)).name.toList ==
    d.branch.toList)
    true =
    false →
    true = true ∧
    (false = true →
    (True ∧ True) ∧
    True ∧
    R (AV.pl (Value.bool false))
    []) ∧
    (false = false →
    ∃ (y : Nat),
    ((True ∧
    (0 : Nat) = (0 : Nat) ∧
    M.length = M.length) ∧
    (True ∧
    (0 : Nat) = (0 : Nat) ∧
    (0 : Nat) = (0 : Nat) ∧
    (0 : Nat) =
    (0 : Nat)) ∧
    (True ∧
    (0 : Nat) = (0 : Nat) ∧
    (0 : Nat) =
    (0 : Nat) ∧
    (0 : Nat) =
    (0 : Nat)) ∧
    (True ∧
    (0 : Nat) =
    (0 : Nat) ∧
    F.length =
    F.length) ∧
    Value.func
    (Fn.func
    (24 : Nat))
    (Array.mk [])
    (Array.mk []) =
    Value.func
    (Fn.func
    (24 : Nat))
    (Array.mk [])
    (Array.mk []) ∧
    (True ∧
    (0 : Nat) =
    (0 : Nat) ∧
    (M ++
    F).length =
    (M ++
    F).length) ∧
    (↑(M ++ F).length :
    Int) =
    (↑(M ++
    F).length :
    Int) ∧
    IntKind.i64.wrap
    ((↑x :
    Int) +
    (1 :
    Int)) =
    (↑y : Int) ∧
    True) ∧
    (((31 : Nat) = (31 : Nat) ∧
    d.kind = d.kind ∧
    d.client = d.client ∧
    d.seq = d.seq ∧
    d.branch =
    d.branch ∧
    (IntKind.u8 =
    IntKind.u8 ∧
    (32 : Nat) =
    (32 :
    Nat) ∧
    ∀ (i : Nat),
    i <
    (32 :
    Nat) →
    d.old
    i =
    d.old
    i) ∧
    (IntKind.u8 =
    IntKind.u8 ∧
    (32 : Nat) =
    (32 :
    Nat) ∧
    ∀
    (i :
    Nat),
    i <
    (32 :
    Nat) →
    d.new
    i =
    d.new
    i) ∧
    ((1 : Nat) =
    (1 :
    Nat) ∧
    d.dn =
    d.dn ∧
    ∀
    (i :
    Nat),
    i <
    d.dn →
    d.df
    i =
    d.df
    i) ∧
    True) ∧
    ((34 : Nat) = (34 : Nat) ∧
    a.err = a.err ∧
    (IntKind.u8 =
    IntKind.u8 ∧
    (32 : Nat) =
    (32 : Nat) ∧
    ∀ (i : Nat),
    i <
    (32 :
    Nat) →
    a.id i =
    a.id i) ∧
    True) ∧
    ((33 : Nat) = (33 : Nat) ∧
    (45 : Nat) =
    (45 : Nat) ∧
    M.length.le
    M.length ∧
    ∀ (i : Nat),
    i < M.length →
    brsF M i =
    brsF M i) ∧
    ((33 : Nat) =
    (33 : Nat) ∧
    (45 : Nat) =
    (45 : Nat) ∧
    F.length.le
    F.length ∧
    ∀ (i : Nat),
    i < F.length →
    brsF F i =
    brsF F
    i) ∧
    ((33 : Nat) =
    (33 : Nat) ∧
    (45 : Nat) =
    (45 : Nat) ∧
    (M ++
    F).length.le
    (M ++
    F).length ∧
    ∀ (i : Nat),
    i <
    (M ++
    F).length →
    AV.agg
    [AV.pl
    (Value.string
    (brAt
    (M ++
    F)
    i).name),
    AV.iarr
    IntKind.u8
    (32 :
    Nat)
    (brAt
    (M ++
    F)
    i).id] =
    AV.agg
    [AV.pl
    (Value.string
    (brAt
    (M ++
    F)
    i).name),
    AV.iarr
    IntKind.u8
    (32 :
    Nat)
    (brAt
    (M ++
    F)
    i).id]) ∧
    True) ∧
    inv y ∧
    ((M ++ F).length -
    y).succ.le
    ((M ++ F).length - x)))) ∧
    (decide ((↑x : Int) < (↑(M ++ F).length : Int)) =
    false →
    ((bif a.err == (0 : Int) then
    bif d.kind == (2 : Int) then true
    else d.kind == (3 : Int)
    else false) =
    true →
    (((0 : Nat) + F.length).le F.length ∧
    True ∧ True) ∧
    ∃ (L : List Br),
    IsBrs
    (AV.rows (33 : Nat) F.length
    fun (i : Nat) =>
    AV.agg
    [AV.pl
    (Value.string
    (brAt F ((0 : Nat) + i)).name),
    AV.iarr IntKind.u8 (32 : Nat)
    (brAt F ((0 : Nat) + i)).id])
    L ∧
    True ∧
    True ∧
    (True ∧ True) ∧
    True ∧
    R
    (AV.pl
    (Value.bool
    ((List.range (32 : Nat)).all
    fun (i : Nat) =>
    headW L d.branch i ==
    d.new i)))
    []) ∧
    ((bif a.err == (0 : Int) then
    bif d.kind == (2 : Int) then true
    else d.kind == (3 : Int)
    else false) =
    false →
    (((0 : Nat) + M.length).le M.length ∧
    ((0 : Nat) + F.length).le F.length ∧ True) ∧
    ∃ (L : List Br),
    ∃ (M_1 : List Br),
    IsBrs
    (AV.rows (33 : Nat) M.length
    fun (i : Nat) =>
    AV.agg
    [AV.pl
    (Value.string
    (brAt M
    ((0 : Nat) + i)).name),
    AV.iarr IntKind.u8 (32 : Nat)
    (brAt M ((0 : Nat) + i)).id])
    L ∧
    IsBrs
    (AV.rows (33 : Nat) F.length
    fun (i : Nat) =>
    AV.agg
    [AV.pl
    (Value.string
    (brAt F
    ((0 : Nat) + i)).name),
    AV.iarr IntKind.u8 (32 : Nat)
    (brAt F ((0 : Nat) + i)).id])
    M_1 ∧
    True ∧
    True ∧
    (True ∧ True) ∧
    True ∧
    R
    (AV.pl
    (Value.bool (brsEq L M_1)))
    []))))) := by kernel_rfl
/-- The law, as what is computed. -/
def okH (M F : List Br) (d : Cmd) (i : Nat) : Bool := (brAt (M ++ F) i).name.toList == d.branch.toList || idEq (headW M (brAt (M ++ F) i).name) (headW F (brAt (M ++ F) i).name)
def headsOf (M F : List Br) (d : Cmd) (a : Ans) : Bool := match firstNo (M ++ F).length (okH M F d) with
  | some _ => false
  | none => bif a.err == 0 && (d.kind == 2 || d.kind == 3) then idEq (headW F d.branch) d.new else brsEq M F
def headsB (L : List Br) (c : Cmd) (a : Ans) : Bool := bif FitsB (cutL L) (cutC c) a then headsOf (cutL L) (FitsL (cutL L) (cutC c) a) (cutC c) a else ((FitsL (cutL L) (cutC c) a).length : Int) == 0
def T5 : Trans := fun args K => match args with
  | [x, y, z] => ∃ (L : List Br) (c : Cmd) (a : Ans), IsBrs x L ∧ IsCmd y c ∧ IsAns z a ∧ K (bl (headsB L c a)) []
  | _ => False
theorem brAt_app (M F : List Br) (i : Nat) : (if i < M.length then brAt M i else brAt F (i - M.length)) = brAt (M ++ F) i := by
  unfold brAt
  simp only [List.getD_eq_getElem?_getD]
  split
  · rename_i h; rw [List.getElem?_append_left h]
  · rename_i h; rw [List.getElem?_append_right (by omega)]
theorem X5 : EntOk Try.prog 5 (.lend T5) := by
  refine ⟨enters_of (fn := Try.f5) rfl rfl (by kernel_rfl), fun args R h => ?_⟩
  unfold T5 at h
  split at h
  case h_2 => exact h.elim
  obtain ⟨L, c, a, hx, hy, hz, h⟩ := h
  have hm : (cutL L).length ≤ 20 := by simp [cutL]; omega
  have hl : (FitsL (cutL L) (cutC c) a).length ≤ 21 := by have := len_FitsL (cutL L) (cutC c) a; omega
  refine Spec.args (args' := [brs L, c.av, a.av]) ⟨hx, hy, hz, trivial⟩ (mkS (v5 L (cutL L) (FitsL (cutL L) (cutC c) a) c (cutC c) a (fun i => i ≤ (cutL L ++ FitsL (cutL L) (cutC c) a).length ∧ ∀ j, j < i → okH (cutL L) (FitsL (cutL L) (cutC c) a) (cutC c) j = true) R) (tb (ac X6 (ac X7 (ac X8 (ac X9 (ac X24 (ac X25 (ac X26 az)))))))) rfl rfl ?_)
  simp only [true_and, and_true, and_self, implies_true, forall_const, gEq_true, natle_iff, decide_eq_true_eq, decide_eq_false_iff_not, Int.toNat_natCast, cond_bt, cond_bf, Bool.cond_true, Bool.not_true, false_implies, implies_true, Bool.false_eq_true, Bool.not_eq_true', Bool.not_eq_false']
  unfold headsB at h
  generalize hM : cutL L = M at *
  generalize hd : cutC c = d at *
  generalize hF : FitsL M d a = F at *
  have bsh : ∀ b : List Br, IsBrs (AV.rows 33 b.length fun i => AV.agg [AV.pl (Value.string (brAt b (0 + i)).name), AV.iarr IntKind.u8 32 (brAt b (0 + i)).id]) b := fun b => ⟨rfl, rfl, fun i _ => by dsimp only; rw [Nat.zero_add]; rfl⟩
  have hlen : (M ++ F).length = M.length + F.length := by simp
  have hmax : 1000 ≤ maxLen := by rw [maxLen_eq]; omega
  refine ⟨L, isBrs_self L, c, isCmd_self c, by omega, M, d, a, by rw [hM]; exact bsh M, by rw [hd]; exact isCmd_self d, isAns_self a, by unfold Bd; omega, fun _ _ => rfl, fun hf => ?_, fun hf => ⟨by omega, M, by rw [hM]; exact bsh M, by unfold Bd; omega, fun _ _ => rfl, by rw [hF]; exact ⟨by omega, by omega, by omega⟩, ⟨0, ⟨by rw [hM], by rw [hF], by rw [hF, hlen], by rw [hF, hlen], rfl⟩, ⟨⟨by rw [hd], by rw [hd], by rw [hd], by rw [hd], fun _ _ => by rw [hd], fun _ _ => by rw [hd], by rw [hd], fun _ _ => by rw [hd]⟩, ⟨by rw [hM]; exact Nat.le_refl _, fun _ _ => by rw [hM]⟩, ⟨by rw [hF]; exact Nat.le_refl _, fun _ _ => by rw [hF]⟩, by rw [hF]; omega, fun i _ => ?_⟩, Nat.zero_le _, fun j hj => by omega⟩, fun x hx => ⟨fun hlt => ⟨⟨by omega, by omega⟩, by omega, fun hne => ⟨by omega, M, bsh M, by omega, F, bsh F, fun hno => ?_, fun hyes => ⟨x + 1, by rw [wrap64] <;> omega, ⟨Nat.le_refl _, Nat.le_refl _, Nat.le_refl _⟩, ⟨by omega, allTo hx.2 ?_⟩, by omega⟩⟩, fun heq => ⟨x + 1, by rw [wrap64] <;> omega, ⟨Nat.le_refl _, Nat.le_refl _, Nat.le_refl _⟩, ⟨by omega, allTo hx.2 ?_⟩, by omega⟩⟩, fun hge => ⟨fun hk => ⟨by omega, F, bsh F, ?_⟩, fun hk => ⟨⟨by omega, by omega⟩, M, F, bsh M, bsh F, ?_⟩⟩⟩⟩⟩
  · rw [hF]
    rw [hf] at h
    exact h
  · rw [hF, Nat.zero_add, ← brAt_app]
    split <;> rfl
  · rw [hf, cond_true, headsOf, firstNo_some (by omega) hx.2 (i := x)] at h
    · exact h
    · rw [okH]
      simp only [Nat.zero_add] at hne hno
      rw [hne, Bool.false_or]
      exact hno
  · rw [okH]
    simp only [Nat.zero_add] at hyes
    rw [show idEq _ _ = true from hyes, Bool.or_true]
  · rw [okH]
    simp only [Nat.zero_add] at heq
    rw [heq, Bool.true_or]
  · have : x = (M ++ F).length := by omega
    subst this
    rw [hf, cond_true, headsOf, firstNo_none hx.2] at h
    simp only [hk, cond_true] at h
    exact h
  · have : x = (M ++ F).length := by omega
    subst this
    rw [hf, cond_true, headsOf, firstNo_none hx.2] at h
    simp only [hk, cond_false] at h
    exact h
end Go.Proofs.R1

namespace Go.Proofs.R1
open Go Go.Am

theorem idEq_self (a : Idv) : idEq a a = true := by simp [idEq]
theorem idEq_symm {a b : Idv} (h : idEq a b = true) : idEq b a = true := by
  simp only [idEq, List.all_eq_true, beq_iff_eq] at h ⊢
  exact fun i hi => (h i hi).symm
theorem brsEq_self : ∀ L : List Br, brsEq L L = true := by
  intro L
  induction L with
  | nil => rfl
  | cons b L ih => simp [brsEq, brEq, idEq_self, ih]
theorem headW_app {s : ByteArray} : ∀ {A B : List Br}, (∀ b ∈ A, b.name.toList ≠ s.toList) → headW (A ++ B) s = headW B s := by
  intro A
  induction A with
  | nil => intro B _; rfl
  | cons a A ih =>
    intro B h
    have h0 : (a.name.toList == s.toList) = false := by simpa using h a List.mem_cons_self
    rw [List.cons_append, headW, h0, cond_false]
    exact ih fun b hb => h b (List.mem_cons_of_mem _ hb)
theorem headW_skip {s : ByteArray} {b : Br} (hb : b.name.toList ≠ s.toList) : ∀ {A B : List Br}, headW (A ++ b :: B) s = headW (A ++ B) s := by
  intro A
  induction A with
  | nil =>
    intro B
    have h0 : (b.name.toList == s.toList) = false := by simpa using hb
    rw [List.nil_append, headW, h0, cond_false, List.nil_append]
  | cons a A ih => intro B; rw [List.cons_append, List.cons_append, headW, headW, ih]
theorem headW_none {s : ByteArray} {A : List Br} (h : ∀ b ∈ A, b.name.toList ≠ s.toList) : headW A s = z0 := by
  have := headW_app (B := []) h
  rw [List.append_nil] at this
  rw [this]; rfl
theorem headW_here {s : ByteArray} {b : Br} (hb : b.name.toList = s.toList) {A B : List Br} (h : ∀ b ∈ A, b.name.toList ≠ s.toList) : headW (A ++ b :: B) s = b.id := by
  rw [headW_app h, headW]
  simp [hb]

theorem mem_takeW {p : Br → Bool} : ∀ {L : List Br} {b : Br}, b ∈ L.takeWhile p → p b = true := by
  intro L
  induction L with
  | nil => intro b h; cases h
  | cons c L ih =>
    intro b h
    rw [List.takeWhile_cons] at h
    split at h
    · rename_i hp
      rcases List.mem_cons.1 h with rfl | h
      · exact hp
      · exact ih h
    · cases h
theorem take_drop (p : Br → Bool) (L : List Br) : L = L.takeWhile p ++ L.dropWhile p := (List.takeWhile_append_dropWhile).symm
/-- A sorted row, parted at a name. -/
theorem part {L : List Br} (hs : Sorted L) (s : ByteArray) : ∃ A B, L = A ++ B ∧ findI L s = A.length ∧ (∀ b ∈ A, b.name.toList ≠ s.toList) ∧
    ((hasB L s = true ∧ ∃ b C, B = b :: C ∧ b.name.toList = s.toList ∧ ∀ c ∈ C, c.name.toList ≠ s.toList) ∨ (hasB L s = false ∧ ∀ b ∈ B, b.name.toList ≠ s.toList)) := by
  refine ⟨L.takeWhile fun b => lt b.name.toList s.toList, L.dropWhile fun b => lt b.name.toList s.toList, take_drop _ L, rfl, fun b hb => ?_, ?_⟩
  · exact lt_ne (mem_takeW (p := fun b => lt b.name.toList s.toList) hb)
  · have hA : ∀ b ∈ L.takeWhile fun b => lt b.name.toList s.toList, b.name.toList ≠ s.toList := fun b hb => lt_ne (mem_takeW (p := fun b => lt b.name.toList s.toList) hb)
    have hL := take_drop (fun b => lt b.name.toList s.toList) L
    generalize L.takeWhile (fun b => lt b.name.toList s.toList) = A at hA hL
    cases hB : L.dropWhile (fun b => lt b.name.toList s.toList) with
    | nil =>
      right
      rw [hB, List.append_nil] at hL
      refine ⟨?_, fun b hb => by cases hb⟩
      rw [hL, hasB, List.any_eq_false]
      intro b hb
      simpa using hA b hb
    | cons b C =>
      rw [hB] at hL
      have hb : lt b.name.toList s.toList = false := by
        have := List.head?_dropWhile_not (fun b : Br => lt b.name.toList s.toList) L
        rw [hB] at this
        simpa using this
      have hC : ∀ c ∈ C, lt b.name.toList c.name.toList = true := by
        intro c hc
        rw [hL] at hs
        exact (List.pairwise_cons.1 (List.pairwise_append.1 hs).2.1).1 c hc
      rcases ge_of_not_lt hb with he | hgt
      · left
        refine ⟨?_, b, C, rfl, he, fun c hc hh => ?_⟩
        · rw [hL, hasB, List.any_eq_true]
          exact ⟨b, by simp, by simpa using he⟩
        · have := hC c hc
          rw [hh, he, lt_irrefl] at this
          cases this
      · right
        have hall : ∀ c ∈ b :: C, c.name.toList ≠ s.toList := by
          intro c hc
          rcases List.mem_cons.1 hc with rfl | hc
          · exact (lt_ne hgt).symm
          · exact (lt_ne (lt_trans hgt (hC c hc))).symm
        refine ⟨?_, hall⟩
        rw [hL, hasB, List.any_eq_false]
        intro c hc
        rcases List.mem_append.1 hc with hc | hc
        · simpa using hA c hc
        · simpa using hall c hc

theorem del_part (A C : List Br) (b : Br) : delB (A ++ b :: C) A.length = A ++ C := by simp [delB]
theorem put_part (A C : List Br) (b : Br) (x : Idv) : putId (A ++ b :: C) A.length x = A ++ ⟨b.name, x⟩ :: C := by
  have : brAt (A ++ b :: C) A.length = b := by simp [brAt]
  simp [putId, this]
theorem ins_part (A B : List Br) (b : Br) : insB (A ++ B) A.length b = A ++ b :: B := by simp [insB]

/-- The heads of other names stay. -/
theorem moved_other {L : List Br} (hs : Sorted L) (c : Cmd) {t : ByteArray} (ht : t.toList ≠ c.branch.toList) : headW (moved L c) t = headW L t := by
  obtain ⟨A, B, hL, hf, hA, hB⟩ := part hs c.branch
  unfold moved
  rcases hB with ⟨hh, b, C, rfl, hb, hC⟩ | ⟨hh, hB⟩
  · have hbt : b.name.toList ≠ t.toList := fun e => ht (by rw [← e, hb])
    cases h0 : idEq c.new z0 <;> simp only [hh, cond_true, cond_false]
    · rw [hf, hL, put_part, headW_skip hbt]
      exact headW_skip (b := ⟨b.name, c.new⟩) hbt
    · rw [hf, hL, del_part, headW_skip hbt]
  · cases h0 : idEq c.new z0 <;> simp only [hh, cond_true, cond_false]
    rw [hf, hL, ins_part]
    exact headW_skip (b := ⟨c.branch, c.new⟩) (fun e => ht e.symm)
/-- The head of the name that moves. -/
theorem moved_own {L : List Br} (hs : Sorted L) (c : Cmd) : idEq (headW (moved L c) c.branch) c.new = true := by
  obtain ⟨A, B, hL, hf, hA, hB⟩ := part hs c.branch
  unfold moved
  rcases hB with ⟨hh, b, C, rfl, hb, hC⟩ | ⟨hh, hB⟩
  · cases h0 : idEq c.new z0 <;> simp only [hh, cond_true, cond_false]
    · rw [hf, hL, put_part, headW_here (b := ⟨b.name, c.new⟩) hb hA]
      exact idEq_self _
    · rw [hf, hL, del_part, headW_app hA, headW_none hC]
      exact idEq_symm h0
  · cases h0 : idEq c.new z0 <;> simp only [hh, cond_true, cond_false]
    · rw [hf, hL, ins_part, headW_here (b := ⟨c.branch, c.new⟩) rfl hA]
      exact idEq_self _
    · rw [hL, headW_app hA, headW_none hB]
      exact idEq_symm h0

theorem heads_true (L : List Br) (c : Cmd) (a : Ans) : headsB L c a = true := by
  unfold headsB
  generalize cutL L = M
  generalize cutC c = d
  cases hF : FitsB M d a with
  | false => simp [FitsL, hF]
  | true =>
    rw [cond_true]
    have hFL : FitsL M d a = fitsL M d a := by rw [FitsL, hF, cond_true]
    rw [hFL]
    unfold FitsB at hF
    simp only [Bool.and_eq_true] at hF
    obtain ⟨⟨hr, hc⟩, hfit⟩ := hF
    have hs := right_sorted hr
    have hok : ∀ i, i < (M ++ fitsL M d a).length → okH M (fitsL M d a) d i = true := by
      intro i _
      unfold okH
      cases he : (brAt (M ++ fitsL M d a) i).name.toList == d.branch.toList with
      | true => rfl
      | false =>
        rw [Bool.false_or]
        have hne : (brAt (M ++ fitsL M d a) i).name.toList ≠ d.branch.toList := by simpa using he
        have : headW (fitsL M d a) (brAt (M ++ fitsL M d a) i).name = headW M (brAt (M ++ fitsL M d a) i).name := by
          generalize (brAt (M ++ fitsL M d a) i).name = t at hne
          unfold fitsL
          cases (d.kind == 1 || d.kind == 4 || (d.kind == 2 && !idEq (headI M d.branch) d.old) || !ansEq a 0 d.new) with
          | true => rfl
          | false => exact moved_other hs d hne
        rw [this]
        exact idEq_self _
    rw [headsOf, firstNo_none hok]
    simp only
    have hk : 1 ≤ d.kind ∧ d.kind ≤ 4 := by
      unfold checkB at hc
      simp only [Bool.and_eq_true, decide_eq_true_eq] at hc
      exact ⟨hc.1.1.1.1.1.1.1, hc.1.1.1.1.1.1.2⟩
    cases hx : (a.err == 0 && (d.kind == 2 || d.kind == 3)) with
    | true =>
      rw [cond_true]
      simp only [Bool.and_eq_true, Bool.or_eq_true, beq_iff_eq] at hx
      obtain ⟨he, hk2⟩ := hx
      have k1 : (d.kind == 1) = false := by simp; omega
      have k4 : (d.kind == 4) = false := by simp; omega
      unfold fitsB at hfit
      rw [k1, k4, cond_false, cond_false] at hfit
      unfold fitsL
      rw [k1, k4, Bool.false_or, Bool.false_or]
      cases hst : (d.kind == 2 && !idEq (headI M d.branch) d.old) with
      | true =>
        rw [hst, cond_true, ansEq, he] at hfit
        simp at hfit
      | false =>
        rw [hst, cond_false] at hfit
        cases hans : ansEq a 0 d.new with
        | true =>
          simp only [Bool.not_true, Bool.or_false, cond_false]
          exact moved_own hs d
        | false =>
          rw [hans, cond_false, isB, isB, he] at hfit
          simp at hfit
    | false =>
      rw [cond_false]
      have : fitsL M d a = M := by
        unfold fitsL
        cases h1 : (d.kind == 1 || d.kind == 4) with
        | true => simp
        | false =>
          have hk2 : (d.kind == 2 || d.kind == 3) = true := by
            simp at h1 ⊢; omega
          rw [hk2, Bool.and_true] at hx
          have : ansEq a 0 d.new = false := by rw [ansEq, hx, Bool.false_and]
          rw [this]
          simp
      rw [this]
      exact brsEq_self M
end Go.Proofs.R1

namespace Go.Proofs.R1
open Go Go.Am

theorem g22 : goodT Try.prog 6 22 = true := by kernel_rfl
theorem g31 : goodT Try.prog 6 31 = true := by kernel_rfl
theorem g34 : goodT Try.prog 6 34 = true := by kernel_rfl
theorem c45 : Try.prog.cellsOf 45 = 33 := by kernel_rfl
theorem c5 : Try.prog.cellsOf 5 = 1 := by kernel_rfl
theorem partsId {n : Nat} {Xs : List AV} (h : Parts Try.prog (n + 1) 28 Xs) : ∃ f, Xs = [.iarr .u8 32 f] := by
  obtain ⟨f, hf, _⟩ := Parts.array Try.underlying28 Try.underlying5 h
  exact ⟨f, hf⟩
theorem partsBr {n : Nat} {Xs : List AV} (h : Parts Try.prog (n + 2) 45 Xs) : ∃ b : Br, Xs = [.pl (.string b.name), .iarr .u8 32 b.id] := by
  obtain ⟨_, _, rfl, h1, _, _, rfl, h2, rfl⟩ := Parts.struct Try.underlying45 h
  obtain ⟨s, rfl, _⟩ := Parts.string Try.underlying9 h1
  obtain ⟨f, rfl⟩ := partsId h2
  exact ⟨⟨s, f⟩, rfl⟩
theorem partsBrs {Xs : List AV} (h : Parts Try.prog 6 22 Xs) : ∃ L : List Br, IsBrs (wrapV Try.prog 22 Xs) L := by
  obtain ⟨m, f, rfl, _, h1⟩ := Parts.slice Try.underlying22 h
  obtain ⟨L, hl, hL⟩ := list_of (fun i (b : Br) => f i = b.av) m (fun i hi => by
    obtain ⟨Ys, hp, hf⟩ := h1 i hi
    obtain ⟨b, rfl⟩ := partsBr hp
    rw [wrapE_struct Try.underlying45] at hf
    exact ⟨b, hf⟩)
  refine ⟨L, ?_⟩
  rw [wrapV_slice Try.underlying22, c45]
  refine ⟨rfl, hl.symm, fun i hi => ?_⟩
  rw [hL i (by omega)]
  simp [brsF, brAt, hl, hi]
theorem partsData {n : Nat} {Xs : List AV} (h : Parts Try.prog (n + 2) 29 Xs) : ∃ m f, Xs = [.rows 1 m f] := by
  obtain ⟨m, f, rfl, _⟩ := Parts.slice Try.underlying29 h
  exact ⟨m, f, by rw [c5]⟩
theorem partsCmd {n : Nat} {Xs : List AV} (h : Parts Try.prog (n + 3) 31 Xs) : ∃ c : Cmd, Xs = partsL c.av := by
  obtain ⟨_, _, rfl, h1, _, _, rfl, h2, _, _, rfl, h3, _, _, rfl, h4, _, _, rfl, h5, _, _, rfl, h6, _, _, rfl, h7, rfl⟩ := Parts.struct Try.underlying31 h
  obtain ⟨k, rfl, _⟩ := Parts.int Try.underlying3 h1
  obtain ⟨cl, rfl, _⟩ := Parts.int Try.underlying3 h2
  obtain ⟨sq, rfl, _⟩ := Parts.int Try.underlying26 h3
  obtain ⟨s, rfl, _⟩ := Parts.string Try.underlying9 h4
  obtain ⟨o, rfl⟩ := partsId h5
  obtain ⟨w, rfl⟩ := partsId h6
  obtain ⟨m, f, rfl⟩ := partsData h7
  exact ⟨⟨k, cl, sq, s, o, w, m, f⟩, rfl⟩
theorem partsAns {n : Nat} {Xs : List AV} (h : Parts Try.prog (n + 2) 34 Xs) : ∃ a : Ans, Xs = partsL a.av := by
  obtain ⟨_, _, rfl, h1, _, _, rfl, h2, rfl⟩ := Parts.struct Try.underlying34 h
  obtain ⟨k, rfl, _⟩ := Parts.int Try.underlying32 h1
  obtain ⟨f, rfl⟩ := partsId h2
  exact ⟨⟨k, f⟩, rfl⟩

/-- What IdealHeads computes of all that it may be given: true. -/
theorem heads_spec (xs : List AV) (h : ArgsOf Try.prog 6 Try.f5.params.toList xs) : Am.Spec Try.prog 5 xs fun y _ => y = .pl (.bool true) := by
  rw [Try.params5] at h
  obtain ⟨Ys, xs, rfl, hp, h⟩ := args_cons h
  obtain ⟨Zs, xs, rfl, hq, h⟩ := args_cons h
  obtain ⟨Ws, xs, rfl, hr, h⟩ := args_cons h
  obtain rfl := args_nil h
  obtain ⟨L, hL⟩ := partsBrs hp
  obtain ⟨c, rfl⟩ := partsCmd hq
  obtain ⟨a, rfl⟩ := partsAns hr
  refine X5.2 _ _ ⟨L, c, a, hL, ?_, ?_, ?_⟩
  · rw [wrapV_struct Try.underlying31]; exact isCmd_self c
  · rw [wrapV_struct Try.underlying34]; exact isAns_self a
  · rw [heads_true]
end Go.Proofs.R1

namespace Go.Proofs.Ytbjonljojnjceaa
open Go Go.Am Go.ChangeShapes Go.WideShapes Go.ChangeAt Go.RowKit Go.Proofs.R1

theorem Try.own : ownKnob Try.prog.godebug = none := by kernel_rfl
theorem Try.laidOut : laidOutB Try.prog = true := by kernel_rfl
theorem heads_types : ∀ t ∈ Try.f5.params.toList, goodT Try.prog 6 t = true ∧ Try.prog.readableRec t = true ∧ t < Try.prog.types.size := by
  rw [Try.params5]
  intro t ht
  rcases List.mem_cons.1 ht with rfl | ht
  · exact ⟨g22, by kernel_rfl, of_decide_eq_true (by kernel_rfl)⟩
  rcases List.mem_cons.1 ht with rfl | ht
  · exact ⟨g31, by kernel_rfl, of_decide_eq_true (by kernel_rfl)⟩
  rcases List.mem_cons.1 ht with rfl | ht
  · exact ⟨g34, by kernel_rfl, of_decide_eq_true (by kernel_rfl)⟩
  cases ht
theorem heads_fn {H : Type} (ds : List (DataW H)) (h : ds.length = Try.f5.params.toList.length) : Rows.idealHeadsSpec.fn H (ds ++ []) = { results := [.lit (.bool true)], args := ds, vars := [] } := by
  rw [Try.params5] at h
  match ds, h with
  | [d1, d2, d3], _ => rfl

set_option maxRecDepth 100000 in
theorem idealHeads_lifted (os : Os) (started : os.Started) (H : Type) (enc : TypeId × Value → H) :
    ReturnsInHanded {} Try.checked os 5 .any (Rows.idealHeadsSpec.pre6 enc Try.prog Try.f5 Rows.idealHeadsRow.domain false) (Rows.idealHeadsSpec.post enc Try.prog Try.f5 false true false false) := by
  refine returnsInHanded_of_change (C := Try.checked) Try.own started (by kernel_rfl) Try.func5
    (ChangeSpec.witness6 (enc := enc) (C := Try.checked) false ⟨#[], #[.slice none 0 0, .agg (#[.int .i64 0, .int .i64 0, .int .u32 0, .string ByteArray.empty] ++ Array.replicate 64 (.int .u8 0) ++ #[.slice none 0 0]), .agg (#[.int .i64 0] ++ Array.replicate 32 (.int .u8 0))], []⟩ 8 (by kernel_rfl) (by kernel_rfl) (by kernel_rfl) (by kernel_rfl)) ?_
  intro W base args ds gs before hval hW _ _
  exact law_post (tb := 4) (n := 6) Try.laidOut heads_types rfl (fun ds h => heads_fn ds h) rfl (by kernel_rfl) heads_spec hval hW

theorem idealHeads_holds : Rows.IdealHeadsSaid :=
  OpenClaim.holds_of_wide 5 Try.f5 rfl rfl rfl rfl rfl rfl rfl ⟨rfl, rfl, rfl, rfl, rfl⟩ rfl rfl rfl rfl rfl (by kernel_rfl) Try.func5 (by kernel_rfl)
    (of_decide_eq_true (by kernel_rfl)) (by unfold Func.isWrapper; first | (rw [if_pos (by decide +kernel)]; kernel_rfl) | (rw [if_neg (by decide +kernel)]; exact ⟨rfl, rfl⟩))
    (fun os started H enc _ => idealHeads_lifted os started H enc)
end Go.Proofs.Ytbjonljojnjceaa

namespace Go.Proofs.R1
open Go Go.Am

abbrev T31 : Trans := T24
def T11 : Trans := T26
def T12 : Trans := T28
def T13 : Trans := fun args K => match args with
  | [x] => ∃ c : Cmd, IsCmd x c ∧ 0 ≤ c.seq ∧ K (bl (checkB c)) []
  | _ => False
/-- Branches, one of which has that head; d: that is done. -/
def recW (s : ByteArray) (x : Idv) : Bool → List Br → List Br
  | d, [] => bif d then [] else [⟨s, x⟩]
  | d, b :: L => (bif !d && !lt b.name.toList s.toList then [⟨s, x⟩] else []) ++ ((bif b.name.toList == s.toList then [] else [b]) ++ recW s x (d || !lt b.name.toList s.toList) L)
def withL (L : List Br) (s : ByteArray) (x : Idv) : List Br := recW s x (idEq x z0) L
def T32 : Trans := fun args K => match args with
  | [y, .pl (.string s), .agg [.iarr .u8 32 x]] => ∃ L : List Br, IsBrs y L ∧ Bd L ∧ K (.own 0 0 (withL L s x).length) [brsO (withL L s x)]
  | _ => False
def fitsRL (L : List Br) (c : Cmd) (a : Ans) : List Br := bif c.kind == 1 || c.kind == 4 || (c.kind == 2 && !idEq (headW L c.branch) c.old) || !ansEq a 0 c.new then L else withL L c.branch c.new
def fitsRB (L : List Br) (c : Cmd) (a : Ans) : Bool :=
  bif c.kind == 1 then (bif idEq (headW L c.branch) z0 then isB a 4 else ansEq a 0 (headW L c.branch))
  else bif c.kind == 4 then (a.err == 0 && !idEq a.id z0) || isB a 6 || isB a 160 || isB a 161
  else bif c.kind == 2 && !idEq (headW L c.branch) c.old then ansEq a 263 (headW L c.branch)
  else bif ansEq a 0 c.new then true else !idEq c.new z0 && (isB a 6 || isB a 264)
def T14 : Trans := fun args K => match args with
  | [x, y, z] => ∃ (L : List Br) (c : Cmd) (a : Ans), IsBrs x L ∧ IsCmd y c ∧ IsAns z a ∧ Bd L ∧ K (.tup [.own 0 0 (fitsRL L c a).length, bl (fitsRB L c a)]) [brsO (fitsRL L c a)]
  | _ => False
def DoesR (L : List Br) (c : Cmd) : List Br := bif c.kind == 4 then L else bif fitsRB L c ⟨0, c.new⟩ then fitsRL L c ⟨0, c.new⟩ else L
def T15 : Trans := fun args K => match args with
  | [x, y] => ∃ (L : List Br) (c : Cmd), IsBrs x L ∧ IsCmd y c ∧ Bd L ∧ K (.own 0 0 (DoesR L c).length) [brsO (DoesR L c)]
  | _ => False
theorem len_recW (s : ByteArray) (x : Idv) : ∀ (L : List Br) (d : Bool), (recW s x d L).length ≤ L.length + (bif d then 0 else 1) := by
  intro L
  induction L with
  | nil => intro d; cases d <;> simp [recW]
  | cons b L ih =>
    intro d
    rw [recW]
    have h1 := ih true
    have h2 := ih false
    cases d <;> cases lt b.name.toList s.toList <;> cases b.name.toList == s.toList <;> simp at h1 h2 ⊢ <;> omega
theorem len_withL (L : List Br) (s : ByteArray) (x : Idv) : (withL L s x).length ≤ L.length + 1 := by
  have := len_recW s x L (idEq x z0)
  unfold withL
  cases h : idEq x z0 <;> rw [h] at this <;> simp at this ⊢ <;> omega
theorem len_fitsRL (L : List Br) (c : Cmd) (a : Ans) : (fitsRL L c a).length ≤ L.length + 1 := by
  unfold fitsRL
  have := len_withL L c.branch c.new
  cases (c.kind == 1 || c.kind == 4 || (c.kind == 2 && !idEq (headW L c.branch) c.old) || !ansEq a 0 c.new) <;> simp only [cond_true, cond_false] <;> omega
end Go.Proofs.R1

namespace Go.Proofs.R1
open Go Go.Am

theorem v11 (L M : List Br) (inv : Nat → Prop) (R : AV → List LObj → Prop) :
    (vcA false 0 [] Try.prog (mkTab []) (Try.f11.body.getD .skip) ([.loop 4 Nat inv (fun p => ⟨slotsOf 26 0 [(0, brs L), (1, brs M), (12, nm L.length), (13, nm p)], []⟩) (fun p => L.length - p) (fun _ => [])]) (finalK Try.prog Try.f11 (R)) (startSt Try.f11 ([brs L, brs M]))) = (
    (((↑L.length : Int) != (↑M.length : Int)) = true → (True ∧ True) ∧ True ∧ R (AV.pl (Value.bool false)) []) ∧
      (((↑L.length : Int) != (↑M.length : Int)) = false →
        (∃ (x : Nat),
            (((33 : Nat) = (33 : Nat) ∧ L.length = L.length ∧ ∀ (i : Nat), i < L.length → brsF L i = brsF L i) ∧
                ((33 : Nat) = (33 : Nat) ∧ M.length = M.length ∧ ∀ (i : Nat), i < M.length → brsF M i = brsF M i) ∧
                  (↑L.length : Int) = (↑L.length : Int) ∧ (0 : Int) = (↑x : Int) ∧ True) ∧
              True ∧ inv x) ∧
          ∀ (x : Nat),
            inv x →
              (decide ((↑x : Int) < (↑L.length : Int)) = true →
                  ((0 : Int) ≤ (↑x : Int) ∧ (↑x : Int) + (1 : Int) ≤ (↑L.length : Int)) ∧
                    ((0 : Int) ≤ (↑x : Int) ∧ (↑x : Int) + (1 : Int) ≤ (↑L.length : Int)) ∧
                      ((0 : Int) ≤ (↑x : Int) ∧ (↑x : Int) + (1 : Int) ≤ (↑M.length : Int)) ∧
                        ((0 : Int) ≤ (↑x : Int) ∧ (↑x : Int) + (1 : Int) ≤ (↑M.length : Int)) ∧
                          ((!((brAt L (↑x : Int).toNat).name.toList == (brAt M (↑x : Int).toNat).name.toList &&
                                    (((List.range (32 : Nat)).all fun (i : Nat) =>
                                        (brAt L (↑x : Int).toNat).id i == (brAt M (↑x : Int).toNat).id i) &&
                                      true))) =
                                true →
                              (True ∧ True) ∧ True ∧ R (AV.pl (Value.bool false)) []) ∧
                            ((!((brAt L (↑x : Int).toNat).name.toList == (brAt M (↑x : Int).toNat).name.toList &&
                                    (((List.range (32 : Nat)).all fun (i : Nat) =>
                                        (brAt L (↑x : Int).toNat).id i == (brAt M (↑x : Int).toNat).id i) &&
                                      true))) =
                                false →
                              ∃ (y : Nat),
                                (((33 : Nat) = (33 : Nat) ∧
                                      L.length = L.length ∧ ∀ (i : Nat), i < L.length → brsF L i = brsF L i) ∧
                                    ((33 : Nat) = (33 : Nat) ∧
                                        M.length = M.length ∧ ∀ (i : Nat), i < M.length → brsF M i = brsF M i) ∧
                                      (↑L.length : Int) = (↑L.length : Int) ∧
                                        IntKind.i64.wrap ((↑x : Int) + (1 : Int)) = (↑y : Int) ∧ True) ∧
                                  True ∧ inv y ∧ (L.length - y).succ.le (L.length - x))) ∧
                (decide ((↑x : Int) < (↑L.length : Int)) = false → (True ∧ True) ∧ True ∧ R (AV.pl (Value.bool true)) []))) := by kernel_rfl
theorem v12 (L : List Br) (inv : Nat → Prop) (R : AV → List LObj → Prop) :
    (vcA false 0 [] Try.prog (mkTab [(13, .lend T13)]) (Try.f12.body.getD .skip) ([.loop 2 Nat inv (fun p => ⟨slotsOf 39 0 [(0, brs L), (5, brs L), (6, nm L.length), (7, nm p)], []⟩) (fun p => L.length - p) (fun _ => [])]) (finalK Try.prog Try.f12 (R)) (startSt Try.f12 ([brs L]))) = (
    (∃ (x : Nat),
        (((33 : Nat) = (33 : Nat) ∧ L.length = L.length ∧ ∀ (i : Nat), i < L.length → brsF L i = brsF L i) ∧
            ((33 : Nat) = (33 : Nat) ∧ L.length = L.length ∧ ∀ (i : Nat), i < L.length → brsF L i = brsF L i) ∧
              (↑L.length : Int) = (↑L.length : Int) ∧ (0 : Int) = (↑x : Int) ∧ True) ∧
          True ∧ inv x) ∧
      ∀ (x : Nat),
        inv x →
          (decide ((↑x : Int) < (↑L.length : Int)) = true →
              ((0 : Int) ≤ (↑x : Int) ∧ (↑x : Int) + (1 : Int) ≤ (↑L.length : Int)) ∧
                True ∧
                  True ∧
                    (gEq ((List.range (32 : Nat)).all fun (i : Nat) => (brAt L (↑x : Int).toNat).id i == (0 : Int)) false =
                          true →
                        ∃ (c : Cmd),
                          IsCmd
                              (AV.agg
                                [AV.pl (Value.int IntKind.i64 (1 : Int)), AV.pl (Value.int IntKind.i64 (1 : Int)),
                                  AV.pl (Value.int IntKind.u32 (1 : Int)),
                                  AV.pl (Value.string (brAt L (↑x : Int).toNat).name),
                                  AV.iarr IntKind.u8 (32 : Nat) fun (_ : Nat) => (0 : Int),
                                  AV.iarr IntKind.u8 (32 : Nat) fun (_ : Nat) => (0 : Int),
                                  AV.pl (Value.slice none (0 : Nat) (0 : Nat))])
                              c ∧
                            (0 : Int) ≤ c.seq ∧
                              true = true ∧
                                ((gEq
                                          (bif
                                              (List.range (32 : Nat)).all fun (i : Nat) =>
                                                (brAt L (↑x : Int).toNat).id i == (0 : Int) then
                                            true
                                          else !checkB c)
                                          false &&
                                        gEq (decide ((↑x : Int) > (0 : Int))) true) =
                                      true →
                                    ((0 : Int) ≤ IntKind.i64.wrap ((↑x : Int) - (1 : Int)) ∧
                                        IntKind.i64.wrap ((↑x : Int) - (1 : Int)) + (1 : Int) ≤ (↑L.length : Int)) ∧
                                      True) ∧
                                  ((gEq (bif false then true else !checkB c) false &&
                                          gEq (decide ((↑x : Int) > (0 : Int))) true) =
                                        true →
                                      ((0 : Int) ≤ IntKind.i64.wrap ((↑x : Int) - (1 : Int)) ∧
                                          IntKind.i64.wrap ((↑x : Int) - (1 : Int)) + (1 : Int) ≤ (↑L.length : Int)) ∧
                                        True) ∧
                                    ((bif bif false then true else !checkB c then true
                                          else
                                            bif decide ((↑x : Int) > (0 : Int)) then
                                              !Op.bytesLess
                                                  (brAt L (IntKind.i64.wrap ((↑x : Int) - (1 : Int))).toNat).name.toList
                                                  (brAt L (↑x : Int).toNat).name.toList
                                            else false) =
                                          true →
                                        (True ∧ True) ∧ True ∧ R (AV.pl (Value.bool false)) []) ∧
                                      ((bif bif false then true else !checkB c then true
                                          else
                                            bif decide ((↑x : Int) > (0 : Int)) then
                                              !Op.bytesLess
                                                  (brAt L (IntKind.i64.wrap ((↑x : Int) - (1 : Int))).toNat).name.toList
                                                  (brAt L (↑x : Int).toNat).name.toList
                                            else false) =
                                          false →
                                        ∃ (y : Nat),
                                          (((33 : Nat) = (33 : Nat) ∧
                                                L.length = L.length ∧ ∀ (i : Nat), i < L.length → brsF L i = brsF L i) ∧
                                              ((33 : Nat) = (33 : Nat) ∧
                                                  L.length = L.length ∧ ∀ (i : Nat), i < L.length → brsF L i = brsF L i) ∧
                                                (↑L.length : Int) = (↑L.length : Int) ∧
                                                  IntKind.i64.wrap ((↑x : Int) + (1 : Int)) = (↑y : Int) ∧ True) ∧
                                            True ∧ inv y ∧ (L.length - y).succ.le (L.length - x))) ∧
                      (gEq ((List.range (32 : Nat)).all fun (i : Nat) => (brAt L (↑x : Int).toNat).id i == (0 : Int))
                            false =
                          false →
                        true = true ∧
                          ((gEq true false && gEq (decide ((↑x : Int) > (0 : Int))) true) = true →
                              ((0 : Int) ≤ IntKind.i64.wrap ((↑x : Int) - (1 : Int)) ∧
                                  IntKind.i64.wrap ((↑x : Int) - (1 : Int)) + (1 : Int) ≤ (↑L.length : Int)) ∧
                                True) ∧
                            (((bif true then true
                                    else
                                      bif decide ((↑x : Int) > (0 : Int)) then
                                        !Op.bytesLess (brAt L (IntKind.i64.wrap ((↑x : Int) - (1 : Int))).toNat).name.toList
                                            (brAt L (↑x : Int).toNat).name.toList
                                      else false) =
                                    true →
                                  (True ∧ True) ∧ True ∧ R (AV.pl (Value.bool false)) []) ∧
                                ((bif true then true
                                    else
                                      bif decide ((↑x : Int) > (0 : Int)) then
                                        !Op.bytesLess (brAt L (IntKind.i64.wrap ((↑x : Int) - (1 : Int))).toNat).name.toList
                                            (brAt L (↑x : Int).toNat).name.toList
                                      else false) =
                                    false →
                                  ∃ (y : Nat),
                                    (((33 : Nat) = (33 : Nat) ∧
                                          L.length = L.length ∧ ∀ (i : Nat), i < L.length → brsF L i = brsF L i) ∧
                                        ((33 : Nat) = (33 : Nat) ∧
                                            L.length = L.length ∧ ∀ (i : Nat), i < L.length → brsF L i = brsF L i) ∧
                                          (↑L.length : Int) = (↑L.length : Int) ∧
                                            IntKind.i64.wrap ((↑x : Int) + (1 : Int)) = (↑y : Int) ∧ True) ∧
                                      True ∧ inv y ∧ (L.length - y).succ.le (L.length - x))) ∧
                              ((bif true then true
                                    else
                                      bif decide ((↑x : Int) > (0 : Int)) then
                                        !Op.bytesLess (brAt L (IntKind.i64.wrap ((↑x : Int) - (1 : Int))).toNat).name.toList
                                            (brAt L (↑x : Int).toNat).name.toList
                                      else false) =
                                    true →
                                  (True ∧ True) ∧ True ∧ R (AV.pl (Value.bool false)) []) ∧
                                ((bif true then true
                                    else
                                      bif decide ((↑x : Int) > (0 : Int)) then
                                        !Op.bytesLess (brAt L (IntKind.i64.wrap ((↑x : Int) - (1 : Int))).toNat).name.toList
                                            (brAt L (↑x : Int).toNat).name.toList
                                      else false) =
                                    false →
                                  ∃ (y : Nat),
                                    (((33 : Nat) = (33 : Nat) ∧
                                          L.length = L.length ∧ ∀ (i : Nat), i < L.length → brsF L i = brsF L i) ∧
                                        ((33 : Nat) = (33 : Nat) ∧
                                            L.length = L.length ∧ ∀ (i : Nat), i < L.length → brsF L i = brsF L i) ∧
                                          (↑L.length : Int) = (↑L.length : Int) ∧
                                            IntKind.i64.wrap ((↑x : Int) + (1 : Int)) = (↑y : Int) ∧ True) ∧
                                      True ∧ inv y ∧ (L.length - y).succ.le (L.length - x)))) ∧
            (decide ((↑x : Int) < (↑L.length : Int)) = false → (True ∧ True) ∧ True ∧ R (AV.pl (Value.bool true)) [])) := by kernel_rfl
theorem v13 (c : Cmd) (inv : Nat → Prop) (R : AV → List LObj → Prop) :
    (vcA false 0 [] Try.prog (mkTab []) (Try.f13.body.getD .skip) ([.loop 9 Nat inv (fun p => ⟨slotsOf 114 0 [(1, .ptr 0 0 0 0), (3, .ptr 1 0 0 0), (4, nm p)], [.box 31 (partsL c.av), .box 28 [.iarr .u8 32 z0]]⟩) (fun p => c.branch.size - p) (fun _ => [])]) (finalK Try.prog Try.f13 (R)) (startSt Try.f13 ([c.av]))) = (
    True ∧
      True ∧
        True ∧
          ((bif
                    bif
                        bif bif decide (c.kind < (1 : Int)) then true else decide (c.kind > (4 : Int)) then true
                        else decide (c.client < (1 : Int)) then
                      true
                    else decide (c.client > (3 : Int)) then
                  true
                else c.seq == (0 : Int)) =
                true →
              (True ∧ True) ∧ True ∧ R (AV.pl (Value.bool false)) []) ∧
            ((bif
                    bif
                        bif bif decide (c.kind < (1 : Int)) then true else decide (c.kind > (4 : Int)) then true
                        else decide (c.client < (1 : Int)) then
                      true
                    else decide (c.client > (3 : Int)) then
                  true
                else c.seq == (0 : Int)) =
                false →
              ((c.kind == (4 : Int)) = true →
                  (True ∧ True) ∧
                    True ∧
                      R
                        (AV.pl
                          (Value.bool
                            (bif
                                bif
                                    bif
                                        bif c.branch.toList == (ByteArray.mk #[]).toList then
                                          (List.range (32 : Nat)).all fun (i : Nat) => c.old i == (0 : Int)
                                        else false then
                                      (List.range (32 : Nat)).all fun (i : Nat) => c.new i == (0 : Int)
                                    else false then
                                  decide ((↑c.dn : Int) > (0 : Int))
                                else false then
                              decide ((↑c.dn : Int) ≤ (800 : Int))
                            else false)))
                        []) ∧
                ((c.kind == (4 : Int)) = false →
                  ((bif
                            bif decide ((↑c.branch.size : Int) < (1 : Int)) then true
                            else decide ((↑c.branch.size : Int) > (24 : Int)) then
                          true
                        else decide ((↑c.dn : Int) > (0 : Int))) =
                        true →
                      (True ∧ True) ∧ True ∧ R (AV.pl (Value.bool false)) []) ∧
                    ((bif
                            bif decide ((↑c.branch.size : Int) < (1 : Int)) then true
                            else decide ((↑c.branch.size : Int) > (24 : Int)) then
                          true
                        else decide ((↑c.dn : Int) > (0 : Int))) =
                        false →
                      (∃ (x : Nat),
                          ((True ∧ (0 : Nat) = (0 : Nat) ∧ (0 : Nat) = (0 : Nat) ∧ (0 : Nat) = (0 : Nat)) ∧
                              (True ∧ (0 : Nat) = (0 : Nat) ∧ (0 : Nat) = (0 : Nat) ∧ (0 : Nat) = (0 : Nat)) ∧
                                (0 : Int) = (↑x : Int) ∧ True) ∧
                            (((31 : Nat) = (31 : Nat) ∧
                                  c.kind = c.kind ∧
                                    c.client = c.client ∧
                                      c.seq = c.seq ∧
                                        c.branch = c.branch ∧
                                          (IntKind.u8 = IntKind.u8 ∧
                                              (32 : Nat) = (32 : Nat) ∧ ∀ (i : Nat), i < (32 : Nat) → c.old i = c.old i) ∧
                                            (IntKind.u8 = IntKind.u8 ∧
                                                (32 : Nat) = (32 : Nat) ∧ ∀ (i : Nat), i < (32 : Nat) → c.new i = c.new i) ∧
                                              ((1 : Nat) = (1 : Nat) ∧
                                                  c.dn = c.dn ∧ ∀ (i : Nat), i < c.dn → c.df i = c.df i) ∧
                                                True) ∧
                                ((28 : Nat) = (28 : Nat) ∧
                                    (IntKind.u8 = IntKind.u8 ∧
                                        (32 : Nat) = (32 : Nat) ∧ ∀ (i : Nat), i < (32 : Nat) → (0 : Int) = z0 i) ∧
                                      True) ∧
                                  True) ∧
                              inv x) ∧
                        ∀ (x : Nat),
                          inv x →
                            (decide ((↑x : Int) < (↑c.branch.size : Int)) = true →
                                ((0 : Int) ≤ (↑x : Int) ∧ (↑x : Int) + (1 : Int) ≤ (↑c.branch.size : Int)) ∧
                                  (gEq
                                          (decide
                                            ((↑(c.branch.data.toList.getD (↑x : Int).toNat (0 : UInt8)).toNat : Int) <
                                              (33 : Int)))
                                          false =
                                        true →
                                      ((0 : Int) ≤ (↑x : Int) ∧ (↑x : Int) + (1 : Int) ≤ (↑c.branch.size : Int)) ∧ True) ∧
                                    ((bif
                                              decide
                                                ((↑(c.branch.data.toList.getD (↑x : Int).toNat (0 : UInt8)).toNat : Int) <
                                                  (33 : Int)) then
                                            true
                                          else
                                            decide
                                              ((↑(c.branch.data.toList.getD (↑x : Int).toNat (0 : UInt8)).toNat : Int) >
                                                (126 : Int))) =
                                          true →
                                        (True ∧ True) ∧ True ∧ R (AV.pl (Value.bool false)) []) ∧
                                      ((bif
                                              decide
                                                ((↑(c.branch.data.toList.getD (↑x : Int).toNat (0 : UInt8)).toNat : Int) <
                                                  (33 : Int)) then
                                            true
                                          else
                                            decide
                                              ((↑(c.branch.data.toList.getD (↑x : Int).toNat (0 : UInt8)).toNat : Int) >
                                                (126 : Int))) =
                                          false →
                                        ∃ (y : Nat),
                                          ((True ∧ (0 : Nat) = (0 : Nat) ∧ (0 : Nat) = (0 : Nat) ∧ (0 : Nat) = (0 : Nat)) ∧
                                              (True ∧
                                                  (0 : Nat) = (0 : Nat) ∧ (0 : Nat) = (0 : Nat) ∧ (0 : Nat) = (0 : Nat)) ∧
                                                IntKind.i64.wrap ((↑x : Int) + (1 : Int)) = (↑y : Int) ∧ True) ∧
                                            (((31 : Nat) = (31 : Nat) ∧
                                                  c.kind = c.kind ∧
                                                    c.client = c.client ∧
                                                      c.seq = c.seq ∧
                                                        c.branch = c.branch ∧
                                                          (IntKind.u8 = IntKind.u8 ∧
                                                              (32 : Nat) = (32 : Nat) ∧
                                                                ∀ (i : Nat), i < (32 : Nat) → c.old i = c.old i) ∧
                                                            (IntKind.u8 = IntKind.u8 ∧
                                                                (32 : Nat) = (32 : Nat) ∧
                                                                  ∀ (i : Nat), i < (32 : Nat) → c.new i = c.new i) ∧
                                                              ((1 : Nat) = (1 : Nat) ∧
                                                                  c.dn = c.dn ∧ ∀ (i : Nat), i < c.dn → c.df i = c.df i) ∧
                                                                True) ∧
                                                ((28 : Nat) = (28 : Nat) ∧
                                                    (IntKind.u8 = IntKind.u8 ∧
                                                        (32 : Nat) = (32 : Nat) ∧
                                                          ∀ (i : Nat), i < (32 : Nat) → z0 i = z0 i) ∧
                                                      True) ∧
                                                  True) ∧
                                              inv y ∧ (c.branch.size - y).succ.le (c.branch.size - x))) ∧
                              (decide ((↑x : Int) < (↑c.branch.size : Int)) = false →
                                (True ∧ True) ∧
                                  True ∧
                                    R
                                      (AV.pl
                                        (Value.bool
                                          (bif
                                              bif c.kind == (2 : Int) then true
                                              else (List.range (32 : Nat)).all fun (i : Nat) => c.old i == z0 i then
                                            bif c.kind != (1 : Int) then true
                                            else (List.range (32 : Nat)).all fun (i : Nat) => c.new i == z0 i
                                          else false)))
                                      []))))) := by kernel_rfl
theorem v14 (L : List Br) (c : Cmd) (a : Ans) (R : AV → List LObj → Prop) :
    (vcA false 0 [] Try.prog (mkTab [(31, .lend T31), (32, .lend T32)]) (Try.f14.body.getD .skip) ([]) (finalK Try.prog Try.f14 (fun y H => ∃ _ : Unit, leSt 0 ⟨[y], H⟩ ⟨[.tup [.own 0 0 (fitsRL L c a).length, bl (fitsRB L c a)]], [brsO (fitsRL L c a)]⟩ (R (.tup [.own 0 0 (fitsRL L c a).length, bl (fitsRB L c a)]) [brsO (fitsRL L c a)]))) (startSt Try.f14 ([brs L, c.av, a.av]))) = (
    True ∧
      True ∧
        ∃ (L_1 : List Br),
          IsBrs (AV.rows (33 : Nat) L.length (brsF L)) L_1 ∧
            True ∧
              True ∧
                True ∧
                  True ∧
                    True ∧
                      (True ∧ L.length.le maxLen ∧ (L.length * (48 : Nat)).le (140737488355328 : Nat)) ∧
                        ((bif c.kind == (1 : Int) then
                                (List.range (32 : Nat)).all fun (i : Nat) => headW L_1 c.branch i == (0 : Int)
                              else false) =
                              true →
                            (True ∧ True ∧ True) ∧
                              True ∧
                                ∃ (_ : Unit),
                                  (((True ∧ (0 : Nat) = (0 : Nat) ∧ L.length = (fitsRL L c a).length) ∧
                                        (a.err == (4 : Int) &&
                                              (((List.range (32 : Nat)).all fun (i : Nat) => a.id i == (0 : Int)) &&
                                                true)) =
                                            fitsRB L c a ∧
                                          True) ∧
                                      True) ∧
                                    (((33 : Nat) = (33 : Nat) ∧
                                          (45 : Nat) = (45 : Nat) ∧
                                            (fitsRL L c a).length.le L.length ∧
                                              ∀ (i : Nat),
                                                i < (fitsRL L c a).length →
                                                  AV.agg
                                                      [AV.pl (Value.string (brAt L i).name),
                                                        AV.iarr IntKind.u8 (32 : Nat) (brAt L i).id] =
                                                    AV.agg
                                                      [AV.pl (Value.string (brAt (fitsRL L c a) i).name),
                                                        AV.iarr IntKind.u8 (32 : Nat) (brAt (fitsRL L c a) i).id]) ∧
                                        True) ∧
                                      R
                                        (AV.tup
                                          [AV.own (0 : Nat) (0 : Nat) (fitsRL L c a).length,
                                            AV.pl (Value.bool (fitsRB L c a))])
                                        [LObj.row (33 : Nat) (45 : Nat) (fitsRL L c a).length (brsF (fitsRL L c a))]) ∧
                          ((bif c.kind == (1 : Int) then
                                (List.range (32 : Nat)).all fun (i : Nat) => headW L_1 c.branch i == (0 : Int)
                              else false) =
                              false →
                            ((c.kind == (1 : Int)) = true →
                                (True ∧ True ∧ True) ∧
                                  True ∧
                                    ∃ (_ : Unit),
                                      (((True ∧ (0 : Nat) = (0 : Nat) ∧ L.length = (fitsRL L c a).length) ∧
                                            (a.err == (0 : Int) &&
                                                  (((List.range (32 : Nat)).all fun (i : Nat) =>
                                                      a.id i == headW L_1 c.branch i) &&
                                                    true)) =
                                                fitsRB L c a ∧
                                              True) ∧
                                          True) ∧
                                        (((33 : Nat) = (33 : Nat) ∧
                                              (45 : Nat) = (45 : Nat) ∧
                                                (fitsRL L c a).length.le L.length ∧
                                                  ∀ (i : Nat),
                                                    i < (fitsRL L c a).length →
                                                      AV.agg
                                                          [AV.pl (Value.string (brAt L i).name),
                                                            AV.iarr IntKind.u8 (32 : Nat) (brAt L i).id] =
                                                        AV.agg
                                                          [AV.pl (Value.string (brAt (fitsRL L c a) i).name),
                                                            AV.iarr IntKind.u8 (32 : Nat) (brAt (fitsRL L c a) i).id]) ∧
                                            True) ∧
                                          R
                                            (AV.tup
                                              [AV.own (0 : Nat) (0 : Nat) (fitsRL L c a).length,
                                                AV.pl (Value.bool (fitsRB L c a))])
                                            [LObj.row (33 : Nat) (45 : Nat) (fitsRL L c a).length (brsF (fitsRL L c a))]) ∧
                              ((c.kind == (1 : Int)) = false →
                                ((c.kind == (4 : Int)) = true →
                                    (True ∧ True ∧ True) ∧
                                      True ∧
                                        ∃ (_ : Unit),
                                          (((True ∧ (0 : Nat) = (0 : Nat) ∧ L.length = (fitsRL L c a).length) ∧
                                                (bif
                                                        bif
                                                            bif
                                                                bif a.err == (0 : Int) then
                                                                  !(List.range (32 : Nat)).all fun (i : Nat) =>
                                                                      a.id i == (0 : Int)
                                                                else false then
                                                              true
                                                            else
                                                              a.err == (6 : Int) &&
                                                                (((List.range (32 : Nat)).all fun (i : Nat) =>
                                                                    a.id i == (0 : Int)) &&
                                                                  true) then
                                                          true
                                                        else
                                                          a.err == (160 : Int) &&
                                                            (((List.range (32 : Nat)).all fun (i : Nat) =>
                                                                a.id i == (0 : Int)) &&
                                                              true) then
                                                      true
                                                    else
                                                      a.err == (161 : Int) &&
                                                        (((List.range (32 : Nat)).all fun (i : Nat) =>
                                                            a.id i == (0 : Int)) &&
                                                          true)) =
                                                    fitsRB L c a ∧
                                                  True) ∧
                                              True) ∧
                                            (((33 : Nat) = (33 : Nat) ∧
                                                  (45 : Nat) = (45 : Nat) ∧
                                                    (fitsRL L c a).length.le L.length ∧
                                                      ∀ (i : Nat),
                                                        i < (fitsRL L c a).length →
                                                          AV.agg
                                                              [AV.pl (Value.string (brAt L i).name),
                                                                AV.iarr IntKind.u8 (32 : Nat) (brAt L i).id] =
                                                            AV.agg
                                                              [AV.pl (Value.string (brAt (fitsRL L c a) i).name),
                                                                AV.iarr IntKind.u8 (32 : Nat) (brAt (fitsRL L c a) i).id]) ∧
                                                True) ∧
                                              R
                                                (AV.tup
                                                  [AV.own (0 : Nat) (0 : Nat) (fitsRL L c a).length,
                                                    AV.pl (Value.bool (fitsRB L c a))])
                                                [LObj.row (33 : Nat) (45 : Nat) (fitsRL L c a).length
                                                    (brsF (fitsRL L c a))]) ∧
                                  ((c.kind == (4 : Int)) = false →
                                    ((bif c.kind == (2 : Int) then
                                            !(List.range (32 : Nat)).all fun (i : Nat) => headW L_1 c.branch i == c.old i
                                          else false) =
                                          true →
                                        (True ∧ True ∧ True) ∧
                                          True ∧
                                            ∃ (_ : Unit),
                                              (((True ∧ (0 : Nat) = (0 : Nat) ∧ L.length = (fitsRL L c a).length) ∧
                                                    (a.err == (263 : Int) &&
                                                          (((List.range (32 : Nat)).all fun (i : Nat) =>
                                                              a.id i == headW L_1 c.branch i) &&
                                                            true)) =
                                                        fitsRB L c a ∧
                                                      True) ∧
                                                  True) ∧
                                                (((33 : Nat) = (33 : Nat) ∧
                                                      (45 : Nat) = (45 : Nat) ∧
                                                        (fitsRL L c a).length.le L.length ∧
                                                          ∀ (i : Nat),
                                                            i < (fitsRL L c a).length →
                                                              AV.agg
                                                                  [AV.pl (Value.string (brAt L i).name),
                                                                    AV.iarr IntKind.u8 (32 : Nat) (brAt L i).id] =
                                                                AV.agg
                                                                  [AV.pl (Value.string (brAt (fitsRL L c a) i).name),
                                                                    AV.iarr IntKind.u8 (32 : Nat)
                                                                      (brAt (fitsRL L c a) i).id]) ∧
                                                    True) ∧
                                                  R
                                                    (AV.tup
                                                      [AV.own (0 : Nat) (0 : Nat) (fitsRL L c a).length,
                                                        AV.pl (Value.bool (fitsRB L c a))])
                                                    [LObj.row (33 : Nat) (45 : Nat) (fitsRL L c a).length
                                                        (brsF (fitsRL L c a))]) ∧
                                      ((bif c.kind == (2 : Int) then
                                            !(List.range (32 : Nat)).all fun (i : Nat) => headW L_1 c.branch i == c.old i
                                          else false) =
                                          false →
                                        ((a.err == (0 : Int) &&
                                                (((List.range (32 : Nat)).all fun (i : Nat) => a.id i == c.new i) &&
                                                  true)) =
                                              true →
                                            ∃ (L_2 : List Br),
                                              IsBrs (AV.rows (33 : Nat) L.length (brsF L)) L_2 ∧
                                                Bd L_2 ∧
                                                  (True ∧ True ∧ True) ∧
                                                    True ∧
                                                      ∃ (_ : Unit),
                                                        (((True ∧
                                                                (0 : Nat) = (0 : Nat) ∧
                                                                  (withL L_2 c.branch c.new).length =
                                                                    (fitsRL L c a).length) ∧
                                                              true = fitsRB L c a ∧ True) ∧
                                                            True) ∧
                                                          (((33 : Nat) = (33 : Nat) ∧
                                                                (45 : Nat) = (45 : Nat) ∧
                                                                  (fitsRL L c a).length.le
                                                                      (withL L_2 c.branch c.new).length ∧
                                                                    ∀ (i : Nat),
                                                                      i < (fitsRL L c a).length →
                                                                        AV.agg
                                                                            [AV.pl
                                                                                (Value.string
                                                                                  (brAt (withL L_2 c.branch c.new) i).name),
                                                                              AV.iarr IntKind.u8 (32 : Nat)
                                                                                (brAt (withL L_2 c.branch c.new) i).id] =
                                                                          AV.agg
                                                                            [AV.pl
                                                                                (Value.string (brAt (fitsRL L c a) i).name),
                                                                              AV.iarr IntKind.u8 (32 : Nat)
                                                                                (brAt (fitsRL L c a) i).id]) ∧
                                                              True) ∧
                                                            R
                                                              (AV.tup
                                                                [AV.own (0 : Nat) (0 : Nat) (fitsRL L c a).length,
                                                                  AV.pl (Value.bool (fitsRB L c a))])
                                                              [LObj.row (33 : Nat) (45 : Nat) (fitsRL L c a).length
                                                                  (brsF (fitsRL L c a))]) ∧
                                          ((a.err == (0 : Int) &&
                                                (((List.range (32 : Nat)).all fun (i : Nat) => a.id i == c.new i) &&
                                                  true)) =
                                              false →
                                            (True ∧ True ∧ True) ∧
                                              True ∧
                                                ∃ (_ : Unit),
                                                  (((True ∧ (0 : Nat) = (0 : Nat) ∧ L.length = (fitsRL L c a).length) ∧
                                                        (bif
                                                                !(List.range (32 : Nat)).all fun (i : Nat) =>
                                                                    c.new i == (0 : Int) then
                                                              bif
                                                                  a.err == (6 : Int) &&
                                                                    (((List.range (32 : Nat)).all fun (i : Nat) =>
                                                                        a.id i == (0 : Int)) &&
                                                                      true) then
                                                                true
                                                              else
                                                                a.err == (264 : Int) &&
                                                                  (((List.range (32 : Nat)).all fun (i : Nat) =>
                                                                      a.id i == (0 : Int)) &&
                                                                    true)
                                                            else false) =
                                                            fitsRB L c a ∧
                                                          True) ∧
                                                      True) ∧
                                                    (((33 : Nat) = (33 : Nat) ∧
                                                          (45 : Nat) = (45 : Nat) ∧
                                                            (fitsRL L c a).length.le L.length ∧
                                                              ∀ (i : Nat),
                                                                i < (fitsRL L c a).length →
                                                                  AV.agg
                                                                      [AV.pl (Value.string (brAt L i).name),
                                                                        AV.iarr IntKind.u8 (32 : Nat) (brAt L i).id] =
                                                                    AV.agg
                                                                      [AV.pl (Value.string (brAt (fitsRL L c a) i).name),
                                                                        AV.iarr IntKind.u8 (32 : Nat)
                                                                          (brAt (fitsRL L c a) i).id]) ∧
                                                        True) ∧
                                                      R
                                                        (AV.tup
                                                          [AV.own (0 : Nat) (0 : Nat) (fitsRL L c a).length,
                                                            AV.pl (Value.bool (fitsRB L c a))])
                                                        [LObj.row (33 : Nat) (45 : Nat) (fitsRL L c a).length
                                                            (brsF (fitsRL L c a))])))))) := by kernel_rfl
theorem v15 (L : List Br) (c : Cmd) (R : AV → List LObj → Prop) :
    (vcA false 0 [] Try.prog (mkTab [(14, .lend T14)]) (Try.f15.body.getD .skip) ([]) (finalK Try.prog Try.f15 (fun y H => ∃ _ : Unit, leSt 0 ⟨[y], H⟩ ⟨[.own 0 0 (DoesR L c).length], [brsO (DoesR L c)]⟩ (R (.own 0 0 (DoesR L c).length) [brsO (DoesR L c)]))) (startSt Try.f15 ([brs L, c.av]))) = (
    True ∧
      ((c.kind == (4 : Int)) = true →
          True ∧
            (True ∧ L.length.le maxLen ∧ (L.length * (48 : Nat)).le (140737488355328 : Nat)) ∧
              (True ∧ True) ∧
                True ∧
                  ∃ (_ : Unit),
                    ((True ∧ (0 : Nat) = (0 : Nat) ∧ L.length = (DoesR L c).length) ∧ True) ∧
                      (((33 : Nat) = (33 : Nat) ∧
                            (45 : Nat) = (45 : Nat) ∧
                              (DoesR L c).length.le L.length ∧
                                ∀ (i : Nat),
                                  i < (DoesR L c).length →
                                    AV.agg
                                        [AV.pl (Value.string (brAt L i).name),
                                          AV.iarr IntKind.u8 (32 : Nat) (brAt L i).id] =
                                      AV.agg
                                        [AV.pl (Value.string (brAt (DoesR L c) i).name),
                                          AV.iarr IntKind.u8 (32 : Nat) (brAt (DoesR L c) i).id]) ∧
                          True) ∧
                        R (AV.own (0 : Nat) (0 : Nat) (DoesR L c).length)
                          [LObj.row (33 : Nat) (45 : Nat) (DoesR L c).length (brsF (DoesR L c))]) ∧
        ((c.kind == (4 : Int)) = false →
          ∃ (L_1 : List Br),
            ∃ (c_1 : Cmd),
              ∃ (a : Ans),
                IsBrs (AV.rows (33 : Nat) L.length (brsF L)) L_1 ∧
                  IsCmd
                      (AV.agg
                        [AV.pl (Value.int IntKind.i64 c.kind), AV.pl (Value.int IntKind.i64 c.client),
                          AV.pl (Value.int IntKind.u32 c.seq), AV.pl (Value.string c.branch),
                          AV.iarr IntKind.u8 (32 : Nat) c.old, AV.iarr IntKind.u8 (32 : Nat) c.new,
                          AV.rows (1 : Nat) c.dn c.df])
                      c_1 ∧
                    IsAns (AV.agg [AV.pl (Value.int IntKind.i64 (0 : Int)), AV.iarr IntKind.u8 (32 : Nat) c.new]) a ∧
                      Bd L_1 ∧
                        (fitsRB L_1 c_1 a = true →
                            (True ∧ True) ∧
                              True ∧
                                ∃ (_ : Unit),
                                  ((True ∧ (0 : Nat) = (0 : Nat) ∧ (fitsRL L_1 c_1 a).length = (DoesR L c).length) ∧ True) ∧
                                    (((33 : Nat) = (33 : Nat) ∧
                                          (45 : Nat) = (45 : Nat) ∧
                                            (DoesR L c).length.le (fitsRL L_1 c_1 a).length ∧
                                              ∀ (i : Nat),
                                                i < (DoesR L c).length →
                                                  AV.agg
                                                      [AV.pl (Value.string (brAt (fitsRL L_1 c_1 a) i).name),
                                                        AV.iarr IntKind.u8 (32 : Nat) (brAt (fitsRL L_1 c_1 a) i).id] =
                                                    AV.agg
                                                      [AV.pl (Value.string (brAt (DoesR L c) i).name),
                                                        AV.iarr IntKind.u8 (32 : Nat) (brAt (DoesR L c) i).id]) ∧
                                        True) ∧
                                      R (AV.own (0 : Nat) (0 : Nat) (DoesR L c).length)
                                        [LObj.row (33 : Nat) (45 : Nat) (DoesR L c).length (brsF (DoesR L c))]) ∧
                          (fitsRB L_1 c_1 a = false →
                            True ∧
                              (True ∧ L.length.le maxLen ∧ (L.length * (48 : Nat)).le (140737488355328 : Nat)) ∧
                                (True ∧ True) ∧
                                  True ∧
                                    ∃ (_ : Unit),
                                      ((True ∧ (0 : Nat) = (0 : Nat) ∧ L.length = (DoesR L c).length) ∧ True) ∧
                                        (((33 : Nat) = (33 : Nat) ∧
                                              (45 : Nat) = (45 : Nat) ∧
                                                (DoesR L c).length.le L.length ∧
                                                  ∀ (i : Nat),
                                                    i < (DoesR L c).length →
                                                      AV.agg
                                                          [AV.pl (Value.string (brAt L i).name),
                                                            AV.iarr IntKind.u8 (32 : Nat) (brAt L i).id] =
                                                        AV.agg
                                                          [AV.pl (Value.string (brAt (DoesR L c) i).name),
                                                            AV.iarr IntKind.u8 (32 : Nat) (brAt (DoesR L c) i).id]) ∧
                                            True) ∧
                                          R (AV.own (0 : Nat) (0 : Nat) (DoesR L c).length)
                                            [LObj.row (33 : Nat) (45 : Nat) (DoesR L c).length (brsF (DoesR L c))]))) := by kernel_rfl
theorem v31 (L : List Br) (s : ByteArray) (inv : Nat → Prop) (R : AV → List LObj → Prop) :
    (vcA false 0 [] Try.prog (mkTab []) (Try.f31.body.getD .skip) ([.loop 2 Nat inv (fun i => ⟨slotsOf 21 0 [(1, st s), (4, .ptr 0 0 0 0), (7, brs L), (8, nm L.length), (9, nm i)], [.box 28 [.iarr .u8 32 z0]]⟩) (fun i => L.length - i) (fun _ => [])]) (finalK Try.prog Try.f31 (R)) (startSt Try.f31 ([brs L, st s]))) = (
    True ∧
      (∃ (x : Nat),
          (s = s ∧
              (True ∧ (0 : Nat) = (0 : Nat) ∧ (0 : Nat) = (0 : Nat) ∧ (0 : Nat) = (0 : Nat)) ∧
                ((33 : Nat) = (33 : Nat) ∧ L.length = L.length ∧ ∀ (i : Nat), i < L.length → brsF L i = brsF L i) ∧
                  (↑L.length : Int) = (↑L.length : Int) ∧ (0 : Int) = (↑x : Int) ∧ True) ∧
            (((28 : Nat) = (28 : Nat) ∧
                  (IntKind.u8 = IntKind.u8 ∧ (32 : Nat) = (32 : Nat) ∧ ∀ (i : Nat), i < (32 : Nat) → (0 : Int) = z0 i) ∧
                    True) ∧
                True) ∧
              inv x) ∧
        ∀ (x : Nat),
          inv x →
            (decide ((↑x : Int) < (↑L.length : Int)) = true →
                ((0 : Int) ≤ (↑x : Int) ∧ (↑x : Int) + (1 : Int) ≤ (↑L.length : Int)) ∧
                  True ∧
                    True ∧
                      (((brAt L (↑x : Int).toNat).name.toList == s.toList) = true →
                          True ∧
                            (True ∧ True) ∧
                              (True ∧ True) ∧ R (AV.agg [AV.iarr IntKind.u8 (32 : Nat) (brAt L (↑x : Int).toNat).id]) []) ∧
                        (((brAt L (↑x : Int).toNat).name.toList == s.toList) = false →
                          ∃ (y : Nat),
                            (s = s ∧
                                (True ∧ (0 : Nat) = (0 : Nat) ∧ (0 : Nat) = (0 : Nat) ∧ (0 : Nat) = (0 : Nat)) ∧
                                  ((33 : Nat) = (33 : Nat) ∧
                                      L.length = L.length ∧ ∀ (i : Nat), i < L.length → brsF L i = brsF L i) ∧
                                    (↑L.length : Int) = (↑L.length : Int) ∧
                                      IntKind.i64.wrap ((↑x : Int) + (1 : Int)) = (↑y : Int) ∧ True) ∧
                              (((28 : Nat) = (28 : Nat) ∧
                                    (IntKind.u8 = IntKind.u8 ∧
                                        (32 : Nat) = (32 : Nat) ∧ ∀ (i : Nat), i < (32 : Nat) → z0 i = z0 i) ∧
                                      True) ∧
                                  True) ∧
                                inv y ∧ (L.length - y).succ.le (L.length - x))) ∧
              (decide ((↑x : Int) < (↑L.length : Int)) = false →
                True ∧
                  (True ∧ True) ∧ (True ∧ True) ∧ R (AV.agg [AV.iarr IntKind.u8 (32 : Nat) fun (_ : Nat) => (0 : Int)]) [])) := by kernel_rfl
theorem v32 (L : List Br) (s : ByteArray) (x : Idv) (inv : Nat × List Br × Bool → Prop) (R : AV → List LObj → Prop) :
    (vcA false 0 [] Try.prog (mkTab []) (Try.f32.body.getD .skip) ([.loop 4 (Nat × List Br × Bool) inv (fun p => ⟨slotsOf 52 0 [(1, st s), (5, .ptr 0 0 0 0), (7, .own 1 0 p.2.1.length), (8, bl p.2.2), (14, brs L), (15, nm L.length), (16, nm p.1)], [.box 28 [.iarr .u8 32 x], brsO p.2.1]⟩) (fun p => L.length - p.1) (fun _ => [])]) (finalK Try.prog Try.f32 (fun y H => ∃ _ : Unit, leSt 0 ⟨[y], H⟩ ⟨[.own 0 0 (withL L s x).length], [brsO (withL L s x)]⟩ (R (.own 0 0 (withL L s x).length) [brsO (withL L s x)]))) (startSt Try.f32 ([brs L, st s, .agg [.iarr .u8 32 x]]))) = (
    True ∧
      (∃ (x_1 : Nat × List Br × Bool),
          (s = s ∧
              (True ∧ (0 : Nat) = (0 : Nat) ∧ (0 : Nat) = (0 : Nat) ∧ (0 : Nat) = (0 : Nat)) ∧
                (True ∧ True ∧ (0 : Nat) = (0 : Nat) ∧ x_1.snd.fst.length = (0 : Nat)) ∧
                  ((List.range (32 : Nat)).all fun (i : Nat) => x i == (0 : Int)) = x_1.snd.snd ∧
                    ((33 : Nat) = (33 : Nat) ∧ L.length = L.length ∧ ∀ (i : Nat), i < L.length → brsF L i = brsF L i) ∧
                      (↑L.length : Int) = (↑L.length : Int) ∧ (0 : Int) = (↑x_1.fst : Int) ∧ True) ∧
            (((28 : Nat) = (28 : Nat) ∧
                  (IntKind.u8 = IntKind.u8 ∧ (32 : Nat) = (32 : Nat) ∧ ∀ (i : Nat), i < (32 : Nat) → x i = x i) ∧ True) ∧
                x_1.snd.fst.length = (0 : Nat) ∧ True) ∧
              inv x_1) ∧
        ∀ (x_1 : Nat × List Br × Bool),
          inv x_1 →
            (decide ((↑x_1.fst : Int) < (↑L.length : Int)) = true →
                ((0 : Int) ≤ (↑x_1.fst : Int) ∧ (↑x_1.fst : Int) + (1 : Int) ≤ (↑L.length : Int)) ∧
                  True ∧
                    True ∧
                      ((bif !x_1.snd.snd then !Op.bytesLess (brAt L (↑x_1.fst : Int).toNat).name.toList s.toList
                            else false) =
                            true →
                          True ∧
                            (((0 : Nat) + (1 : Nat)).le (1 : Nat) ∧
                                x_1.snd.fst.length = x_1.snd.fst.length ∧
                                  (x_1.snd.fst.length + (1 : Nat)).le maxLen ∧
                                    ((x_1.snd.fst.length + (1 : Nat)) * (48 : Nat)).le (140737488355328 : Nat)) ∧
                              ((!(brAt L (↑x_1.fst : Int).toNat).name.toList == s.toList) = true →
                                  True ∧
                                    (((0 : Nat) + (1 : Nat)).le (1 : Nat) ∧
                                        x_1.snd.fst.length + (1 : Nat) = x_1.snd.fst.length + (1 : Nat) ∧
                                          (x_1.snd.fst.length + (1 : Nat) + (1 : Nat)).le maxLen ∧
                                            ((x_1.snd.fst.length + (1 : Nat) + (1 : Nat)) * (48 : Nat)).le
                                              (140737488355328 : Nat)) ∧
                                      ∃ (y : Nat × List Br × Bool),
                                        (s = s ∧
                                            (True ∧ (0 : Nat) = (0 : Nat) ∧ (0 : Nat) = (0 : Nat) ∧ (0 : Nat) = (0 : Nat)) ∧
                                              (True ∧
                                                  (0 : Nat) = (0 : Nat) ∧
                                                    x_1.snd.fst.length + (1 : Nat) + (1 : Nat) = y.snd.fst.length) ∧
                                                true = y.snd.snd ∧
                                                  ((33 : Nat) = (33 : Nat) ∧
                                                      L.length = L.length ∧
                                                        ∀ (i : Nat), i < L.length → brsF L i = brsF L i) ∧
                                                    (↑L.length : Int) = (↑L.length : Int) ∧
                                                      IntKind.i64.wrap ((↑x_1.fst : Int) + (1 : Int)) = (↑y.fst : Int) ∧
                                                        True) ∧
                                          (((28 : Nat) = (28 : Nat) ∧
                                                (IntKind.u8 = IntKind.u8 ∧
                                                    (32 : Nat) = (32 : Nat) ∧ ∀ (i : Nat), i < (32 : Nat) → x i = x i) ∧
                                                  True) ∧
                                              ((33 : Nat) = (33 : Nat) ∧
                                                  (45 : Nat) = (45 : Nat) ∧
                                                    y.snd.fst.length.le (x_1.snd.fst.length + (1 : Nat) + (1 : Nat)) ∧
                                                      ∀ (i : Nat),
                                                        i < y.snd.fst.length →
                                                          (if i < x_1.snd.fst.length + (1 : Nat) then
                                                              if i < x_1.snd.fst.length then
                                                                AV.agg
                                                                  [AV.pl (Value.string (brAt x_1.snd.fst i).name),
                                                                    AV.iarr IntKind.u8 (32 : Nat) (brAt x_1.snd.fst i).id]
                                                              else
                                                                rowOf
                                                                  [((0 : Nat),
                                                                      AV.agg
                                                                        [AV.pl (Value.string s),
                                                                          AV.iarr IntKind.u8 (32 : Nat) x])]
                                                                  ((0 : Nat) + (i - x_1.snd.fst.length))
                                                            else
                                                              rowOf
                                                                [((0 : Nat),
                                                                    AV.agg
                                                                      [AV.pl
                                                                          (Value.string
                                                                            (brAt L (↑x_1.fst : Int).toNat).name),
                                                                        AV.iarr IntKind.u8 (32 : Nat)
                                                                          (brAt L (↑x_1.fst : Int).toNat).id])]
                                                                ((0 : Nat) + (i - (x_1.snd.fst.length + (1 : Nat))))) =
                                                            AV.agg
                                                              [AV.pl (Value.string (brAt y.snd.fst i).name),
                                                                AV.iarr IntKind.u8 (32 : Nat) (brAt y.snd.fst i).id]) ∧
                                                True) ∧
                                            inv y ∧ (L.length - y.fst).succ.le (L.length - x_1.fst)) ∧
                                ((!(brAt L (↑x_1.fst : Int).toNat).name.toList == s.toList) = false →
                                  ∃ (y : Nat × List Br × Bool),
                                    (s = s ∧
                                        (True ∧ (0 : Nat) = (0 : Nat) ∧ (0 : Nat) = (0 : Nat) ∧ (0 : Nat) = (0 : Nat)) ∧
                                          (True ∧
                                              (0 : Nat) = (0 : Nat) ∧ x_1.snd.fst.length + (1 : Nat) = y.snd.fst.length) ∧
                                            true = y.snd.snd ∧
                                              ((33 : Nat) = (33 : Nat) ∧
                                                  L.length = L.length ∧ ∀ (i : Nat), i < L.length → brsF L i = brsF L i) ∧
                                                (↑L.length : Int) = (↑L.length : Int) ∧
                                                  IntKind.i64.wrap ((↑x_1.fst : Int) + (1 : Int)) = (↑y.fst : Int) ∧ True) ∧
                                      (((28 : Nat) = (28 : Nat) ∧
                                            (IntKind.u8 = IntKind.u8 ∧
                                                (32 : Nat) = (32 : Nat) ∧ ∀ (i : Nat), i < (32 : Nat) → x i = x i) ∧
                                              True) ∧
                                          ((33 : Nat) = (33 : Nat) ∧
                                              (45 : Nat) = (45 : Nat) ∧
                                                y.snd.fst.length.le (x_1.snd.fst.length + (1 : Nat)) ∧
                                                  ∀ (i : Nat),
                                                    i < y.snd.fst.length →
                                                      (if i < x_1.snd.fst.length then
                                                          AV.agg
                                                            [AV.pl (Value.string (brAt x_1.snd.fst i).name),
                                                              AV.iarr IntKind.u8 (32 : Nat) (brAt x_1.snd.fst i).id]
                                                        else
                                                          rowOf
                                                            [((0 : Nat),
                                                                AV.agg
                                                                  [AV.pl (Value.string s),
                                                                    AV.iarr IntKind.u8 (32 : Nat) x])]
                                                            ((0 : Nat) + (i - x_1.snd.fst.length))) =
                                                        AV.agg
                                                          [AV.pl (Value.string (brAt y.snd.fst i).name),
                                                            AV.iarr IntKind.u8 (32 : Nat) (brAt y.snd.fst i).id]) ∧
                                            True) ∧
                                        inv y ∧ (L.length - y.fst).succ.le (L.length - x_1.fst))) ∧
                        ((bif !x_1.snd.snd then !Op.bytesLess (brAt L (↑x_1.fst : Int).toNat).name.toList s.toList
                            else false) =
                            false →
                          ((!(brAt L (↑x_1.fst : Int).toNat).name.toList == s.toList) = true →
                              True ∧
                                (((0 : Nat) + (1 : Nat)).le (1 : Nat) ∧
                                    x_1.snd.fst.length = x_1.snd.fst.length ∧
                                      (x_1.snd.fst.length + (1 : Nat)).le maxLen ∧
                                        ((x_1.snd.fst.length + (1 : Nat)) * (48 : Nat)).le (140737488355328 : Nat)) ∧
                                  ∃ (y : Nat × List Br × Bool),
                                    (s = s ∧
                                        (True ∧ (0 : Nat) = (0 : Nat) ∧ (0 : Nat) = (0 : Nat) ∧ (0 : Nat) = (0 : Nat)) ∧
                                          (True ∧
                                              (0 : Nat) = (0 : Nat) ∧ x_1.snd.fst.length + (1 : Nat) = y.snd.fst.length) ∧
                                            x_1.snd.snd = y.snd.snd ∧
                                              ((33 : Nat) = (33 : Nat) ∧
                                                  L.length = L.length ∧ ∀ (i : Nat), i < L.length → brsF L i = brsF L i) ∧
                                                (↑L.length : Int) = (↑L.length : Int) ∧
                                                  IntKind.i64.wrap ((↑x_1.fst : Int) + (1 : Int)) = (↑y.fst : Int) ∧ True) ∧
                                      (((28 : Nat) = (28 : Nat) ∧
                                            (IntKind.u8 = IntKind.u8 ∧
                                                (32 : Nat) = (32 : Nat) ∧ ∀ (i : Nat), i < (32 : Nat) → x i = x i) ∧
                                              True) ∧
                                          ((33 : Nat) = (33 : Nat) ∧
                                              (45 : Nat) = (45 : Nat) ∧
                                                y.snd.fst.length.le (x_1.snd.fst.length + (1 : Nat)) ∧
                                                  ∀ (i : Nat),
                                                    i < y.snd.fst.length →
                                                      (if i < x_1.snd.fst.length then
                                                          AV.agg
                                                            [AV.pl (Value.string (brAt x_1.snd.fst i).name),
                                                              AV.iarr IntKind.u8 (32 : Nat) (brAt x_1.snd.fst i).id]
                                                        else
                                                          rowOf
                                                            [((0 : Nat),
                                                                AV.agg
                                                                  [AV.pl
                                                                      (Value.string (brAt L (↑x_1.fst : Int).toNat).name),
                                                                    AV.iarr IntKind.u8 (32 : Nat)
                                                                      (brAt L (↑x_1.fst : Int).toNat).id])]
                                                            ((0 : Nat) + (i - x_1.snd.fst.length))) =
                                                        AV.agg
                                                          [AV.pl (Value.string (brAt y.snd.fst i).name),
                                                            AV.iarr IntKind.u8 (32 : Nat) (brAt y.snd.fst i).id]) ∧
                                            True) ∧
                                        inv y ∧ (L.length - y.fst).succ.le (L.length - x_1.fst)) ∧
                            ((!(brAt L (↑x_1.fst : Int).toNat).name.toList == s.toList) = false →
                              ∃ (y : Nat × List Br × Bool),
                                (s = s ∧
                                    (True ∧ (0 : Nat) = (0 : Nat) ∧ (0 : Nat) = (0 : Nat) ∧ (0 : Nat) = (0 : Nat)) ∧
                                      (True ∧ (0 : Nat) = (0 : Nat) ∧ x_1.snd.fst.length = y.snd.fst.length) ∧
                                        x_1.snd.snd = y.snd.snd ∧
                                          ((33 : Nat) = (33 : Nat) ∧
                                              L.length = L.length ∧ ∀ (i : Nat), i < L.length → brsF L i = brsF L i) ∧
                                            (↑L.length : Int) = (↑L.length : Int) ∧
                                              IntKind.i64.wrap ((↑x_1.fst : Int) + (1 : Int)) = (↑y.fst : Int) ∧ True) ∧
                                  (((28 : Nat) = (28 : Nat) ∧
                                        (IntKind.u8 = IntKind.u8 ∧
                                            (32 : Nat) = (32 : Nat) ∧ ∀ (i : Nat), i < (32 : Nat) → x i = x i) ∧
                                          True) ∧
                                      ((33 : Nat) = (33 : Nat) ∧
                                          (45 : Nat) = (45 : Nat) ∧
                                            y.snd.fst.length.le x_1.snd.fst.length ∧
                                              ∀ (i : Nat),
                                                i < y.snd.fst.length →
                                                  AV.agg
                                                      [AV.pl (Value.string (brAt x_1.snd.fst i).name),
                                                        AV.iarr IntKind.u8 (32 : Nat) (brAt x_1.snd.fst i).id] =
                                                    AV.agg
                                                      [AV.pl (Value.string (brAt y.snd.fst i).name),
                                                        AV.iarr IntKind.u8 (32 : Nat) (brAt y.snd.fst i).id]) ∧
                                        True) ∧
                                    inv y ∧ (L.length - y.fst).succ.le (L.length - x_1.fst)))) ∧
              (decide ((↑x_1.fst : Int) < (↑L.length : Int)) = false →
                ((!x_1.snd.snd) = true →
                    True ∧
                      (((0 : Nat) + (1 : Nat)).le (1 : Nat) ∧
                          x_1.snd.fst.length = x_1.snd.fst.length ∧
                            (x_1.snd.fst.length + (1 : Nat)).le maxLen ∧
                              ((x_1.snd.fst.length + (1 : Nat)) * (48 : Nat)).le (140737488355328 : Nat)) ∧
                        (True ∧ True) ∧
                          True ∧
                            ∃ (_ : Unit),
                              ((True ∧ (0 : Nat) = (0 : Nat) ∧ x_1.snd.fst.length + (1 : Nat) = (withL L s x).length) ∧
                                  True) ∧
                                (((33 : Nat) = (33 : Nat) ∧
                                      (45 : Nat) = (45 : Nat) ∧
                                        (withL L s x).length.le (x_1.snd.fst.length + (1 : Nat)) ∧
                                          ∀ (i : Nat),
                                            i < (withL L s x).length →
                                              (if i < x_1.snd.fst.length then
                                                  AV.agg
                                                    [AV.pl (Value.string (brAt x_1.snd.fst i).name),
                                                      AV.iarr IntKind.u8 (32 : Nat) (brAt x_1.snd.fst i).id]
                                                else
                                                  rowOf
                                                    [((0 : Nat),
                                                        AV.agg [AV.pl (Value.string s), AV.iarr IntKind.u8 (32 : Nat) x])]
                                                    ((0 : Nat) + (i - x_1.snd.fst.length))) =
                                                AV.agg
                                                  [AV.pl (Value.string (brAt (withL L s x) i).name),
                                                    AV.iarr IntKind.u8 (32 : Nat) (brAt (withL L s x) i).id]) ∧
                                    True) ∧
                                  R (AV.own (0 : Nat) (0 : Nat) (withL L s x).length)
                                    [LObj.row (33 : Nat) (45 : Nat) (withL L s x).length (brsF (withL L s x))]) ∧
                  ((!x_1.snd.snd) = false →
                    (True ∧ True) ∧
                      True ∧
                        ∃ (_ : Unit),
                          ((True ∧ (0 : Nat) = (0 : Nat) ∧ x_1.snd.fst.length = (withL L s x).length) ∧ True) ∧
                            (((33 : Nat) = (33 : Nat) ∧
                                  (45 : Nat) = (45 : Nat) ∧
                                    (withL L s x).length.le x_1.snd.fst.length ∧
                                      ∀ (i : Nat),
                                        i < (withL L s x).length →
                                          AV.agg
                                              [AV.pl (Value.string (brAt x_1.snd.fst i).name),
                                                AV.iarr IntKind.u8 (32 : Nat) (brAt x_1.snd.fst i).id] =
                                            AV.agg
                                              [AV.pl (Value.string (brAt (withL L s x) i).name),
                                                AV.iarr IntKind.u8 (32 : Nat) (brAt (withL L s x) i).id]) ∧
                                True) ∧
                              R (AV.own (0 : Nat) (0 : Nat) (withL L s x).length)
                                [LObj.row (33 : Nat) (45 : Nat) (withL L s x).length (brsF (withL L s x))]))) := by kernel_rfl
theorem checkB_of (c : Cmd) (hs : 0 ≤ c.seq) : checkB c = (!(decide (c.kind < 1) || decide (c.kind > 4) || decide (c.client < 1) || decide (c.client > 3) || c.seq == 0) && ((c.kind == 2 || idEq c.old z0) && (movesB c || idEq c.new z0) &&
    (bif c.kind == 4 then c.branch.toList == [] && decide (1 ≤ c.dn) && decide (c.dn ≤ 800) else nameB c.branch && c.dn == 0))) := by
  have e1 : decide (1 ≤ c.kind) = !decide (c.kind < 1) := by rw [Bool.eq_iff_iff]; simp
  have e2 : decide (c.kind ≤ 4) = !decide (c.kind > 4) := by rw [Bool.eq_iff_iff]; simp
  have e3 : decide (1 ≤ c.client) = !decide (c.client < 1) := by rw [Bool.eq_iff_iff]; simp
  have e4 : decide (c.client ≤ 3) = !decide (c.client > 3) := by rw [Bool.eq_iff_iff]; simp
  have e5 : decide (0 < c.seq) = !(c.seq == 0) := by
    rw [Bool.eq_iff_iff, decide_eq_true_eq, Bool.not_eq_true', beq_eq_false_iff_ne]
    exact ⟨fun h h0 => by rw [h0] at h; exact absurd h (by decide), fun h => by omega⟩
  unfold checkB
  rw [e1, e2, e3, e4, e5]
  simp only [Bool.not_or, Bool.and_assoc]
theorem nil_list : (ByteArray.mk #[]).toList = [] := by simp [ByteArray.toList_eq]
theorem X13 : EntOk Try.prog 13 (.lend T13) := by
  refine ⟨enters_of (fn := Try.f13) rfl rfl (by kernel_rfl), fun args R h => ?_⟩
  unfold T13 at h
  split at h
  case h_2 => exact h.elim
  obtain ⟨c, hx, hs, h⟩ := h
  refine Spec.args (args' := [c.av]) ⟨hx, trivial⟩ (mkS (v13 c (fun i => i ≤ c.branch.size ∧ ∀ j, j < i → byteOk (c.branch.toList.getD j 0) = true) R) (tb az) rfl rfl ?_)
  simp only [true_and, and_true, and_self, implies_true, gEq_false, natle_iff, decide_eq_true_eq, decide_eq_false_iff_not, Int.toNat_natCast, cond_bt, cond_bf, implies_true, Bool.not_eq_true']
  rw [checkB_of c hs] at h
  have hd : ∀ x, c.branch.data.toList.getD x 0 = c.branch.toList.getD x 0 := fun x => by rw [ByteArray.toList_eq]
  have hbyte : ∀ x, (decide ((((c.branch.data.toList.getD x 0).toNat : Nat) : Int) < 33) || decide ((((c.branch.data.toList.getD x 0).toNat : Nat) : Int) > 126)) = !byteOk (c.branch.toList.getD x 0) := by
    intro x
    rw [hd, byteOk, Bool.not_and]
    congr 1 <;> rw [Bool.eq_iff_iff] <;> simp <;> omega
  refine ⟨fun h1 => ?_, fun h1 => ⟨fun hk => ?_, fun hk => ⟨fun h2 => ?_, fun h2 => ⟨⟨0, rfl, fun _ _ => rfl, Nat.zero_le _, fun j hj => by omega⟩, fun x hx => ⟨fun hlt => ⟨⟨by omega, by omega⟩, fun _ => ⟨by omega, by omega⟩, fun hb => ?_, fun hb => ⟨x + 1, ?_, ⟨by omega, fun j hj => ?_⟩, by omega⟩⟩, fun hge => ?_⟩⟩⟩⟩⟩
  · rw [h1] at h
    exact h
  · rw [h1, hk] at h
    have hm : movesB c = false := by
      have : c.kind = 4 := by simpa using hk
      simp [movesB, this]
    have k2 : (c.kind == 2) = false := by
      have : c.kind = 4 := by simpa using hk
      simp [this]
    rw [hm, k2] at h
    simp only [Bool.not_false, Bool.true_and, Bool.false_or, cond_true] at h
    have e1 : decide ((c.dn : Int) > 0) = decide (1 ≤ c.dn) := by rw [Bool.eq_iff_iff]; simp; omega
    have e2 : decide ((c.dn : Int) ≤ 800) = decide (c.dn ≤ 800) := by rw [Bool.eq_iff_iff]; simp; omega
    rw [e1, e2, nil_list]
    have e3 : ((c.branch.toList == [] && idEq c.old z0) && idEq c.new z0 && decide (1 ≤ c.dn) && decide (c.dn ≤ 800)) = (idEq c.old z0 && idEq c.new z0 && (c.branch.toList == [] && decide (1 ≤ c.dn) && decide (c.dn ≤ 800))) := by
      cases idEq c.old z0 <;> cases idEq c.new z0 <;> cases c.branch.toList == [] <;> simp
    rw [← e3] at h
    exact h
  · rw [h1, hk] at h
    have : (nameB c.branch && c.dn == 0) = false := by
      simp only [Bool.or_eq_true, decide_eq_true_eq] at h2
      rw [nameB, Bool.and_eq_false_iff]
      rcases h2 with (h2 | h2) | h2
      · left; rw [show decide (1 ≤ c.branch.size) = false from decide_eq_false (by omega)]; simp
      · left; rw [show decide (c.branch.size ≤ 24) = false from decide_eq_false (by omega)]; simp
      · right; simp; omega
    rw [this] at h
    simpa using h
  · rw [hbyte] at hb
    have : nameB c.branch = false := name_no c.branch x (by omega) (by simpa using hb)
    rw [h1, hk, this] at h
    simpa using h
  · have : c.branch.size ≤ 24 := by
      simp only [Bool.or_eq_false_iff, decide_eq_false_iff_not] at h2
      omega
    rw [wrap64] <;> omega
  · rw [hbyte] at hb
    rcases Nat.lt_or_ge j x with h3 | h3
    · exact hx.2 j h3
    · have : j = x := by omega
      subst this
      simpa using hb
  · have hx' : x = c.branch.size := by omega
    subst hx'
    have hn := name_yes c.branch hx.2
    simp only [Bool.or_eq_false_iff, decide_eq_false_iff_not] at h2
    have hn2 : nameB c.branch = true := by
      rw [hn, decide_eq_true (by omega : 1 ≤ c.branch.size), decide_eq_true (by omega : c.branch.size ≤ 24)]; rfl
    have hd0 : (c.dn == 0) = true := by simp; omega
    rw [h1, hk, hn2, hd0] at h
    have hk4 : c.kind ≠ 4 := by simpa using hk
    have hk1 : 1 ≤ c.kind ∧ c.kind ≤ 4 := by
      simp only [Bool.or_eq_false_iff, decide_eq_false_iff_not] at h1
      omega
    have hm : movesB c = (c.kind != 1) := by
      rw [movesB, Bool.eq_iff_iff]
      simp; omega
    rw [hm] at h
    simp only [Bool.not_false, Bool.true_and, Bool.and_self, cond_false, Bool.and_true] at h
    exact h
theorem lt_nil_name {s : ByteArray} (h : nameB s = true) : lt [] s.toList = true := by
  unfold nameB at h
  simp only [Bool.and_eq_true, decide_eq_true_eq] at h
  have : s.toList.length = s.size := size_toList s
  cases hs : s.toList with
  | nil => rw [hs] at this; simp at this; omega
  | cons b t => rfl
theorem name_chk (n : ByteArray) (f : Nat → AV) : checkB ⟨1, 1, 1, n, z0, z0, 0, f⟩ = nameB n := by
  have hz : idEq z0 z0 = true := by decide
  simp [checkB, movesB, hz]
/-- The name ahead of a place. -/
def lastN (L : List Br) (i : Nat) : List UInt8 := if i = 0 then [] else (brAt L (i - 1)).name.toList
theorem X12 : EntOk Try.prog 12 (.lend T12) := by
  refine ⟨enters_of (fn := Try.f12) rfl rfl (by kernel_rfl), fun args R h => ?_⟩
  unfold T12 T28 at h
  split at h
  case h_2 => exact h.elim
  obtain ⟨L, hx, h⟩ := h
  refine Spec.args (args' := [brs L]) ⟨hx, trivial⟩ (Spec.given fun hg => mkS (v12 L (fun i => i ≤ L.length ∧ rightB L = rightFrom (lastN L i) (L.drop i)) R) (tb (ac X13 az)) rfl rfl ?_)
  simp only [true_and, and_true, and_self, implies_true, forall_const, gEq_true, gEq_false, natle_iff, decide_eq_true_eq, decide_eq_false_iff_not, Int.toNat_natCast, cond_bt, cond_bf, Bool.cond_true, Bool.cond_false, Bool.not_true, false_implies, implies_true, Bool.true_eq_false, Bool.not_eq_true', Bool.not_eq_false']
  have hL : L.length ≤ 9223372036854775807 := by rw [← maxLen_eq]; exact hg.1
  have hw : ∀ x : Nat, x < L.length → 0 < x → IntKind.i64.wrap ((x : Int) - 1) = ((x - 1 : Nat) : Int) := fun x h1 h2 => by rw [wrap64] <;> omega
  refine ⟨⟨0, rfl, Nat.zero_le _, rfl⟩, fun x hx => ⟨fun hlt => ⟨⟨by omega, by omega⟩, fun hz => ⟨⟨1, 1, 1, (brAt L x).name, z0, z0, 0, fun _ => .any⟩, ⟨rfl, rfl, rfl, rfl, ⟨rfl, rfl, fun _ _ => rfl⟩, ⟨rfl, rfl, fun _ _ => rfl⟩, ⟨trivial, rfl⟩, trivial⟩, ?_⟩, fun hz => ⟨fun hh => by simp at hh, ?_⟩⟩, fun hge => ?_⟩⟩
  · have hxl : x < L.length := by omega
    have hr := hx.2
    rw [brAt_cons L x hxl, rightFrom, show idEq (brAt L x).id z0 = false from hz] at hr
    simp only [Bool.not_false, Bool.and_true] at hr
    have hidx : 0 < x → 0 ≤ IntKind.i64.wrap ((x : Int) - 1) ∧ IntKind.i64.wrap ((x : Int) - 1) + 1 ≤ (L.length : Int) := fun h0 => by rw [hw x hxl h0]; omega
    rw [name_chk]
    refine ⟨by show (0 : Int) ≤ 1; omega, fun hh => hidx (by simp at hh; omega), fun hh => hidx (by simp at hh; omega), fun hh => ?_, fun hh => ⟨x + 1, by rw [wrap64] <;> omega, ⟨by omega, ?_⟩, by omega⟩⟩
    · have : rightB L = false := by
        rw [hr]
        cases hn : nameB (brAt L x).name with
        | false => simp
        | true =>
          rw [hn] at hh
          simp only [Bool.not_true, Bool.false_or, Bool.and_eq_true, decide_eq_true_eq, Bool.not_eq_true'] at hh
          obtain ⟨h0, h1⟩ := hh
          rw [hw x hxl (by omega), Int.toNat_natCast] at h1
          rw [lastN, if_neg (by omega), show lt _ _ = false from h1]
          simp
      rw [this] at h
      exact h
    · rw [hr]
      cases hn : nameB (brAt L x).name with
      | false => rw [hn] at hh; simp at hh
      | true =>
        rw [hn] at hh
        have : lt (lastN L x) (brAt L x).name.toList = true := by
          unfold lastN
          split
          · exact lt_nil_name hn
          · rename_i h0
            have h1 : decide ((x : Int) > 0) = true := by simp; omega
            rw [h1, hw x hxl (by omega), Int.toNat_natCast] at hh
            simpa using hh
        rw [this, lastN, if_neg (by omega)]
        simp
  · have hxl : x < L.length := by omega
    have hr := hx.2
    rw [brAt_cons L x hxl, rightFrom, show idEq (brAt L x).id z0 = true from hz] at hr
    simp only [Bool.not_true, Bool.and_false, Bool.false_and] at hr
    rw [hr] at h
    exact h
  · have : x = L.length := by omega
    subst this
    have hr := hx.2
    rw [List.drop_length] at hr
    rw [hr] at h
    exact h
theorem X11 : EntOk Try.prog 11 (.lend T11) := by
  refine ⟨enters_of (fn := Try.f11) rfl rfl (by kernel_rfl), fun args R h => ?_⟩
  unfold T11 T26 at h
  split at h
  case h_2 => exact h.elim
  obtain ⟨L, M, hs, hs2, h⟩ := h
  refine Spec.args (args' := [brs L, brs M]) ⟨hs, hs2, trivial⟩ (Spec.given fun hg => mkS (v11 L M (fun p => p ≤ L.length ∧ L.length = M.length ∧ brsEq L M = brsEq (L.drop p) (M.drop p)) R) (tb az) rfl rfl ?_)
  simp only [true_and, and_true, and_self, implies_true, natle_iff, decide_eq_true_eq, decide_eq_false_iff_not, Int.toNat_natCast, implies_true, Bool.not_eq_true', Bool.not_eq_false']
  have hL : L.length ≤ 9223372036854775807 := by rw [← maxLen_eq]; exact hg.1
  refine ⟨fun hne => ?_, fun he => ⟨⟨0, rfl, Nat.zero_le _, Int.ofNat.inj (by simpa [bne] using he), rfl⟩, fun x hx => ⟨fun hlt => ⟨⟨by omega, by omega⟩, ⟨by omega, by omega⟩, ⟨by omega, by omega⟩, ⟨by omega, by omega⟩, fun hb => ?_, fun hb => ?_⟩, fun hge => ?_⟩⟩⟩
  · rw [brsEq_len L M (by intro h; rw [h] at hne; simp at hne)] at h
    exact h
  · rw [hx.2.2, brAt_cons L x (by omega), brAt_cons M x (by omega), brsEq] at h
    have : brEq (brAt L x) (brAt M x) = false := by rw [Bool.and_true] at hb; exact hb
    rw [this] at h
    exact h
  · refine ⟨x + 1, by rw [wrap64] <;> omega, ⟨by omega, hx.2.1, ?_⟩, by omega⟩
    have : brEq (brAt L x) (brAt M x) = true := by rw [Bool.and_true] at hb; exact hb
    rw [hx.2.2, brAt_cons L x (by omega), brAt_cons M x (by omega), brsEq, this, Bool.true_and]
  · have : x = L.length := by omega
    subst this
    rw [hx.2.2, List.drop_length, hx.2.1, List.drop_length] at h
    exact h
theorem X31 : EntOk Try.prog 31 (.lend T31) := by
  refine ⟨enters_of (fn := Try.f31) rfl rfl (by kernel_rfl), fun args R h => ?_⟩
  unfold T31 T24 at h
  split at h
  case h_2 => exact h.elim
  rename_i y s
  obtain ⟨L, hx, h⟩ := h
  refine Spec.args (args' := [brs L, st s]) ⟨hx, rfl, trivial⟩ (Spec.given fun hg => mkS (v31 L s (fun i => i ≤ L.length ∧ headW L s = headW (L.drop i) s) R) (tb az) rfl rfl ?_)
  simp only [true_and, and_true, and_self, implies_true, natle_iff, decide_eq_true_eq, decide_eq_false_iff_not, Int.toNat_natCast, implies_true]
  have hL : L.length ≤ 9223372036854775807 := by rw [← maxLen_eq]; exact hg.1
  refine ⟨⟨0, rfl, fun _ _ => rfl, Nat.zero_le _, rfl⟩, fun x hx => ⟨fun hlt => ⟨⟨by omega, by omega⟩, fun hb => ?_, fun hb => ⟨x + 1, by rw [wrap64] <;> omega, ⟨by omega, ?_⟩, by omega⟩⟩, fun hge => ?_⟩⟩
  · rw [hx.2, brAt_cons L x (by omega), headW, hb] at h
    exact h
  · rw [hx.2, brAt_cons L x (by omega), headW, hb]; rfl
  · have : x = L.length := by omega
    subst this
    rw [hx.2, List.drop_length] at h
    exact h
theorem rowSnoc (o : List Br) (b : Br) (i : Nat) (hi : i < (o ++ [b]).length) : (if i < o.length then (brAt o i).av else rowOf [(0, b.av)] (0 + (i - o.length))) = (brAt (o ++ [b]) i).av := by
  rw [← brAt_app]
  split
  · rfl
  · simp only [List.length_append, List.length_singleton] at hi
    have : i - o.length = 0 := by omega
    rw [this]; rfl
theorem X32 : EntOk Try.prog 32 (.lend T32) := by
  refine ⟨enters_of (fn := Try.f32) rfl rfl (by kernel_rfl), fun args R h => ?_⟩
  unfold T32 at h
  split at h
  case h_2 => exact h.elim
  rename_i y s x
  obtain ⟨L, hx, hB, h⟩ := h
  refine Spec.args (args' := [brs L, st s, .agg [.iarr .u8 32 x]]) ⟨hx, rfl, ⟨⟨rfl, rfl, fun _ _ => rfl⟩, trivial⟩, trivial⟩ (Spec.weak (Z := Unit) (X := fun _ => .own 0 0 (withL L s x).length) (HH := fun _ => [brsO (withL L s x)]) (mkS (v32 L s x (fun p => p.1 ≤ L.length ∧ p.2.1.length ≤ p.1 + (bif p.2.2 then 1 else 0) ∧ p.2.1 ++ recW s x p.2.2 (L.drop p.1) = withL L s x) R) (tb az) rfl rfl ?_))
  simp only [true_and, and_true, and_self, implies_true, natle_iff, decide_eq_true_eq, decide_eq_false_iff_not, Int.toNat_natCast, cond_bf, implies_true, Bool.not_eq_true', Bool.not_eq_false']
  unfold Bd at hB
  have hmax : 2000000 ≤ maxLen := by rw [maxLen_eq]; omega
  refine ⟨⟨(0, [], idEq x z0), ⟨rfl, rfl, rfl⟩, rfl, Nat.zero_le _, Nat.zero_le _, rfl⟩, ?_⟩
  rintro ⟨i, o, d⟩ ⟨hi, ho, hw⟩
  simp only at hi ho hw ⊢
  have ho1 : o.length ≤ i + 1 := by cases d <;> simp only [cond_true, cond_false] at ho <;> omega
  have ho2 : (!d && !Op.bytesLess (brAt L i).name.toList s.toList) = true → o.length ≤ i := fun hh => by
    simp only [Bool.and_eq_true, Bool.not_eq_true'] at hh
    rw [hh.1] at ho
    exact ho
  refine ⟨fun hlt => ⟨⟨by omega, by omega⟩, fun hb => ⟨⟨Nat.le_refl _, by omega, by omega⟩, fun hne => ⟨⟨Nat.le_refl _, by omega, by omega⟩, (i + 1, o ++ [⟨s, x⟩] ++ [brAt L i], true), ⟨by simp, rfl, by rw [wrap64] <;> omega⟩, ⟨by simp, fun j hj => ?_⟩, ⟨by simp only; omega, by have := ho2 hb; simp; omega, ?_⟩, by simp only; omega⟩,
      fun he => ⟨(i + 1, o ++ [⟨s, x⟩], true), ⟨by simp, rfl, by rw [wrap64] <;> omega⟩, ⟨by simp, fun j hj => ?_⟩, ⟨by simp only; omega, by have := ho2 hb; simp; omega, ?_⟩, by simp only; omega⟩⟩,
    fun hb => ⟨fun hne => ⟨⟨Nat.le_refl _, by omega, by omega⟩, (i + 1, o ++ [brAt L i], d), ⟨by simp, rfl, by rw [wrap64] <;> omega⟩, ⟨by simp, fun j hj => ?_⟩, ⟨by simp only; omega, by simp only [List.length_append, List.length_singleton]; omega, ?_⟩, by simp only; omega⟩,
      fun he => ⟨(i + 1, o, d), ⟨rfl, rfl, by rw [wrap64] <;> omega⟩, ⟨Nat.le_refl _, fun _ _ => rfl⟩, ⟨by simp only; omega, by simp only; omega, ?_⟩, by simp only; omega⟩⟩⟩,
    fun hge => ⟨fun hd => ⟨⟨Nat.le_refl _, by omega, by omega⟩, (), ?_⟩, fun hd => ⟨(), ?_⟩⟩⟩
  · have h1 := rowSnoc (o ++ [⟨s, x⟩]) (brAt L i) j hj
    show _ = (brAt (o ++ [⟨s, x⟩] ++ [brAt L i]) j).av
    rw [← h1]
    have : (o ++ [(⟨s, x⟩ : Br)]).length = o.length + 1 := by simp
    rw [this]
    split
    · rename_i h2
      exact rowSnoc o ⟨s, x⟩ j (by rw [this]; exact h2)
    · rfl
  all_goals try (have hdr := brAt_cons L i (by omega); rw [hdr, recW] at hw)
  · simp only [Bool.and_eq_true, Bool.not_eq_true'] at hb
    rw [hb.1, show lt _ _ = false from hb.2, hne] at hw
    rw [← hw]
    simp
  · exact rowSnoc o ⟨s, x⟩ j hj
  · simp only [Bool.and_eq_true, Bool.not_eq_true'] at hb
    rw [hb.1, show lt _ _ = false from hb.2, he] at hw
    rw [← hw]
    simp
  · exact rowSnoc o (brAt L i) j hj
  · have hd2 : (d || !lt (brAt L i).name.toList s.toList) = d := by
      cases d with
      | true => rfl
      | false => rw [Bool.false_or]; rw [Bool.not_false, Bool.true_and] at hb; exact hb
    rw [show (!d && !lt (brAt L i).name.toList s.toList) = false from hb, hd2, hne] at hw
    rw [← hw]
    simp
  · have hd2 : (d || !lt (brAt L i).name.toList s.toList) = d := by
      cases d with
      | true => rfl
      | false => rw [Bool.false_or]; rw [Bool.not_false, Bool.true_and] at hb; exact hb
    rw [show (!d && !lt (brAt L i).name.toList s.toList) = false from hb, hd2, he] at hw
    rw [← hw]
    simp
  all_goals
    have hi' : i = L.length := by omega
    subst hi'
    rw [List.drop_length, recW, hd] at hw
  · simp only [cond_false] at hw
    rw [← hw] at h ⊢
    exact ⟨by simp, ⟨by simp, fun j hj => rowSnoc o ⟨s, x⟩ j hj⟩, h⟩
  · simp only [cond_true, List.append_nil] at hw
    rw [← hw] at h ⊢
    exact ⟨rfl, ⟨Nat.le_refl _, fun _ _ => rfl⟩, h⟩
theorem X14 : EntOk Try.prog 14 (.lend T14) := by
  refine ⟨enters_of (fn := Try.f14) rfl rfl (by kernel_rfl), fun args R h => ?_⟩
  unfold T14 at h
  split at h
  case h_2 => exact h.elim
  obtain ⟨L, c, a, hx, hy, hz, hB, h⟩ := h
  refine Spec.args (args' := [brs L, c.av, a.av]) ⟨hx, hy, hz, trivial⟩ (Spec.weak (Z := Unit) (X := fun _ => .tup [.own 0 0 (fitsRL L c a).length, bl (fitsRB L c a)]) (HH := fun _ => [brsO (fitsRL L c a)]) (mkS (v14 L c a R) (tb (ac X31 (ac X32 az))) rfl rfl ?_))
  simp only [true_and, and_true, and_self, natle_iff, cond_bt, cond_bf]
  have hB' := hB
  unfold Bd at hB'
  have hmax : 2000000 ≤ maxLen := by rw [maxLen_eq]; omega
  have leaf : ∀ M b, fitsRL L c a = M → fitsRB L c a = b → ∃ _ : Unit, (M.length = (fitsRL L c a).length ∧ b = fitsRB L c a) ∧ ((fitsRL L c a).length ≤ M.length ∧ ∀ i, i < (fitsRL L c a).length → AV.agg [AV.pl (Value.string (brAt M i).name), AV.iarr IntKind.u8 32 (brAt M i).id] = AV.agg [AV.pl (Value.string (brAt (fitsRL L c a) i).name), AV.iarr IntKind.u8 32 (brAt (fitsRL L c a) i).id]) ∧
      R (AV.tup [AV.own 0 0 (fitsRL L c a).length, AV.pl (Value.bool (fitsRB L c a))]) [LObj.row 33 45 (fitsRL L c a).length (brsF (fitsRL L c a))] := by
    rintro M b rfl rfl
    exact ⟨(), ⟨rfl, rfl⟩, ⟨Nat.le_refl _, fun _ _ => rfl⟩, h⟩
  simp only [Bool.and_true]
  refine ⟨L, isBrs_self L, ⟨by omega, by omega⟩, fun h1 => ?_, fun h1 => ⟨fun h2 => ?_, fun h2 => ⟨fun h3 => ?_, fun h3 => ⟨fun h4 => ?_, fun h4 => ⟨fun h5 => ⟨L, isBrs_self L, hB, ?_⟩, fun h5 => ?_⟩⟩⟩⟩⟩
  · simp only [Bool.and_eq_true] at h1
    exact leaf _ _ (by rw [fitsRL, h1.1]; rfl) (by rw [fitsRB, h1.1, show idEq (headW L c.branch) z0 = true from h1.2]; rfl)
  · rw [h2, Bool.true_and] at h1
    exact leaf _ _ (by rw [fitsRL, h2]; rfl) (by rw [fitsRB, h2, show idEq (headW L c.branch) z0 = false from h1]; rfl)
  · exact leaf _ _ (by rw [fitsRL, h2, h3]; rfl) (by rw [fitsRB, h2, h3]; rfl)
  · exact leaf _ _ (by rw [fitsRL, h2, h3, show (c.kind == 2 && !idEq (headW L c.branch) c.old) = true from h4]; rfl) (by rw [fitsRB, h2, h3, show (c.kind == 2 && !idEq (headW L c.branch) c.old) = true from h4]; rfl)
  · exact leaf _ _ (by rw [fitsRL, h2, h3, show (c.kind == 2 && !idEq (headW L c.branch) c.old) = false from h4, show ansEq a 0 c.new = true from h5]; rfl) (by rw [fitsRB, h2, h3, show (c.kind == 2 && !idEq (headW L c.branch) c.old) = false from h4, show ansEq a 0 c.new = true from h5]; rfl)
  · exact leaf _ _ (by rw [fitsRL, h2, h3, show (c.kind == 2 && !idEq (headW L c.branch) c.old) = false from h4, show ansEq a 0 c.new = false from h5]; rfl) (by rw [fitsRB, h2, h3, show (c.kind == 2 && !idEq (headW L c.branch) c.old) = false from h4, show ansEq a 0 c.new = false from h5]; rfl)
theorem X15 : EntOk Try.prog 15 (.lend T15) := by
  refine ⟨enters_of (fn := Try.f15) rfl rfl (by kernel_rfl), fun args R h => ?_⟩
  unfold T15 at h
  split at h
  case h_2 => exact h.elim
  obtain ⟨L, c, hx, hy, hB, h⟩ := h
  refine Spec.args (args' := [brs L, c.av]) ⟨hx, hy, trivial⟩ (Spec.weak (Z := Unit) (X := fun _ => .own 0 0 (DoesR L c).length) (HH := fun _ => [brsO (DoesR L c)]) (mkS (v15 L c R) (tb (ac X14 az)) rfl rfl ?_))
  simp only [true_and, and_true, and_self, natle_iff]
  have hB' := hB
  unfold Bd at hB'
  have hmax : 2000000 ≤ maxLen := by rw [maxLen_eq]; omega
  have leaf : ∀ M, DoesR L c = M → ∃ _ : Unit, M.length = (DoesR L c).length ∧ ((DoesR L c).length ≤ M.length ∧ ∀ i, i < (DoesR L c).length → AV.agg [AV.pl (Value.string (brAt M i).name), AV.iarr IntKind.u8 32 (brAt M i).id] = AV.agg [AV.pl (Value.string (brAt (DoesR L c) i).name), AV.iarr IntKind.u8 32 (brAt (DoesR L c) i).id]) ∧
      R (AV.own 0 0 (DoesR L c).length) [LObj.row 33 45 (DoesR L c).length (brsF (DoesR L c))] := by
    rintro M rfl
    exact ⟨(), rfl, ⟨Nat.le_refl _, fun _ _ => rfl⟩, h⟩
  refine ⟨fun h1 => ⟨⟨by omega, by omega⟩, leaf _ (by rw [DoesR, h1]; rfl)⟩, fun h1 => ⟨L, c, ⟨0, c.new⟩, isBrs_self L, isCmd_self c, isAns_self ⟨0, c.new⟩, hB, fun h2 => leaf _ (by rw [DoesR, h1, h2]; rfl), fun h2 => ⟨⟨by omega, by omega⟩, leaf _ (by rw [DoesR, h1, h2]; rfl)⟩⟩⟩
end Go.Proofs.R1

namespace Go.Proofs.R1
open Go Go.Am

theorem nonzero_of : ∀ (L : List Br) (last : List UInt8), rightFrom last L = true → ∀ b ∈ L, idEq b.id z0 = false := by
  intro L
  induction L with
  | nil => intro last _ b hb; cases hb
  | cons a L ih =>
    intro last h b hb
    rw [rightFrom] at h
    simp only [Bool.and_eq_true, Bool.not_eq_true'] at h
    rcases List.mem_cons.1 hb with rfl | hb
    · exact h.1.1.2
    · exact ih _ h.2 b hb
theorem headW_eq {L : List Br} (hs : Sorted L) (s : ByteArray) : headW L s = headI L s := by
  obtain ⟨A, B, hL, hf, hA, hB⟩ := part hs s
  unfold headI
  rcases hB with ⟨hh, b, C, rfl, hb, _⟩ | ⟨hh, hB⟩
  · rw [hh, cond_true, hf, hL, headW_here hb hA]
    simp [brAt]
  · rw [hh, cond_false, hL, headW_app hA, headW_none hB]
theorem headW_zero {L : List Br} (hr : rightB L = true) (s : ByteArray) : idEq (headW L s) z0 = !hasB L s := by
  obtain ⟨A, B, hL, hf, hA, hB⟩ := part (right_sorted hr) s
  rcases hB with ⟨hh, b, C, rfl, hb, _⟩ | ⟨hh, hB⟩
  · rw [hh, hL, headW_here hb hA]
    exact nonzero_of L [] hr b (by rw [hL]; simp)
  · rw [hh, hL, headW_app hA, headW_none hB]
    exact idEq_self _
theorem recW_lt {s : ByteArray} {x : Idv} {d : Bool} : ∀ {A B : List Br}, (∀ b ∈ A, lt b.name.toList s.toList = true) → recW s x d (A ++ B) = A ++ recW s x d B := by
  intro A
  induction A with
  | nil => intro B _; rfl
  | cons a A ih =>
    intro B h
    have h0 := h a List.mem_cons_self
    have hne : (a.name.toList == s.toList) = false := by simpa using lt_ne h0
    rw [List.cons_append, recW, h0, hne]
    simp only [Bool.not_true, Bool.and_false, Bool.or_false, cond_false, List.nil_append, List.cons_append]
    rw [ih fun b hb => h b (List.mem_cons_of_mem _ hb)]
theorem recW_true {s : ByteArray} {x : Idv} : ∀ {B : List Br}, (∀ b ∈ B, b.name.toList ≠ s.toList) → recW s x true B = B := by
  intro B
  induction B with
  | nil => intro _; rfl
  | cons b B ih =>
    intro h
    have hne : (b.name.toList == s.toList) = false := by simpa using h b List.mem_cons_self
    rw [recW, hne]
    simp only [Bool.not_true, Bool.false_and, Bool.true_or, cond_false, List.nil_append]
    rw [ih fun c hc => h c (List.mem_cons_of_mem _ hc)]
    rfl
/-- As part, and before the place all are less, from it on none is. -/
theorem part2 {L : List Br} (hs : Sorted L) (s : ByteArray) : ∃ A B, L = A ++ B ∧ findI L s = A.length ∧ (∀ b ∈ A, lt b.name.toList s.toList = true) ∧ (∀ b ∈ B, lt b.name.toList s.toList = false) ∧
    ((hasB L s = true ∧ ∃ b C, B = b :: C ∧ b.name.toList = s.toList ∧ ∀ c ∈ C, c.name.toList ≠ s.toList) ∨ (hasB L s = false ∧ ∀ b ∈ B, b.name.toList ≠ s.toList)) := by
  obtain ⟨A, B, hL, hf, hA, hB⟩ := part hs s
  have hA2 : A = L.takeWhile fun b => lt b.name.toList s.toList := by
    have h1 := take_drop (fun b => lt b.name.toList s.toList) L
    have h2 : A.length = (L.takeWhile fun b => lt b.name.toList s.toList).length := by rw [← hf]; rfl
    have h3 := congrArg (List.take A.length) h1
    rw [List.take_left' h2.symm] at h3
    rw [← h3, hL, List.take_left]
  refine ⟨A, B, hL, hf, fun b hb => mem_takeW (p := fun b => lt b.name.toList s.toList) (by rw [← hA2]; exact hb), fun b hb => ?_, hB⟩
  have hpos : lt b.name.toList s.toList = true → False := by
    intro hlt
    have hBd : B = L.dropWhile fun b => lt b.name.toList s.toList := by
      have h1 := take_drop (fun b => lt b.name.toList s.toList) L
      rw [← hA2, hL] at h1
      have := List.append_cancel_left h1
      rw [hL]
      exact this
    cases hBB : B with
    | nil => rw [hBB] at hb; cases hb
    | cons c C =>
      have hc : lt c.name.toList s.toList = false := by
        have := List.head?_dropWhile_not (fun b : Br => lt b.name.toList s.toList) L
        rw [← hBd, hBB] at this
        simpa using this
      rw [hBB] at hb
      rcases List.mem_cons.1 hb with rfl | hb
      · rw [hlt] at hc; cases hc
      · have hs2 := hs
        rw [hL, hBB] at hs2
        have h4 := (List.pairwise_cons.1 (List.pairwise_append.1 hs2).2.1).1 b hb
        rw [lt_trans h4 hlt] at hc
        cases hc
  cases h : lt b.name.toList s.toList with
  | false => rfl
  | true => exact (hpos h).elim
theorem withL_eq {L : List Br} (hs : Sorted L) (c : Cmd) : withL L c.branch c.new = moved L c := by
  obtain ⟨A, B, hL, hf, hA, hBl, hB⟩ := part2 hs c.branch
  unfold withL moved
  rcases hB with ⟨hh, b, C, rfl, hb, hC⟩ | ⟨hh, hB⟩
  · have hbl := hBl b List.mem_cons_self
    cases h0 : idEq c.new z0 <;> simp only [hh, cond_true, cond_false]
    · rw [hf, hL, put_part, recW_lt hA, recW, hbl]
      have : (b.name.toList == c.branch.toList) = true := by simpa using hb
      rw [this]
      simp only [Bool.not_false, Bool.and_self, cond_true, Bool.or_true, List.nil_append]
      rw [recW_true hC]
      have hn : b.name = c.branch := by
        have : b.name.data = c.branch.data := by
          apply Array.toList_inj.1
          rw [← ByteArray.toList_eq, ← ByteArray.toList_eq, hb]
        cases hb1 : b.name; cases hb2 : c.branch
        rw [hb1, hb2] at this
        simpa using this
      rw [hn]; rfl
    · rw [hf, hL, del_part, recW_lt hA, recW, hbl]
      have : (b.name.toList == c.branch.toList) = true := by simpa using hb
      rw [this]
      simp only [Bool.not_true, Bool.false_and, Bool.true_or, cond_true, cond_false, List.nil_append]
      rw [recW_true hC]
  · cases h0 : idEq c.new z0 <;> simp only [hh, cond_true, cond_false]
    · rw [hf, hL, ins_part, recW_lt hA]
      cases B with
      | nil => rfl
      | cons b C =>
        have hbl := hBl b List.mem_cons_self
        have hne : (b.name.toList == c.branch.toList) = false := by simpa using hB b List.mem_cons_self
        rw [recW, hbl, hne]
        simp only [Bool.not_false, Bool.and_self, Bool.or_true, cond_true, cond_false]
        rw [recW_true fun d hd => hB d (List.mem_cons_of_mem _ hd)]
        rfl
    · rw [hL, recW_lt hA, recW_true hB]
theorem fitsRL_eq {L : List Br} (hs : Sorted L) (c : Cmd) (a : Ans) : fitsRL L c a = fitsL L c a := by
  unfold fitsRL fitsL
  rw [headW_eq hs, withL_eq hs]
theorem fitsRB_eq {L : List Br} (hr : rightB L = true) (c : Cmd) (a : Ans) : fitsRB L c a = fitsB L c a := by
  unfold fitsRB fitsB
  rw [headW_zero hr, headW_eq (right_sorted hr)]
  cases hasB L c.branch <;> rfl
theorem DoesR_eq {L : List Br} (hr : rightB L = true) {c : Cmd} (hc : checkB c = true) : DoesR L c = DoesL L c := by
  unfold DoesR DoesL
  rw [fitsRB_eq hr, fitsRL_eq (right_sorted hr), hr, hc]
  simp only [Bool.and_self, Bool.not_true, cond_false]
  cases h4 : c.kind == 4
  · cases h1 : c.kind == 1
    · rfl
    · simp only [Bool.true_or, cond_true, cond_false]
      have : fitsL L c ⟨0, c.new⟩ = L := by unfold fitsL; rw [h1]; rfl
      rw [this]
      cases fitsB L c ⟨0, c.new⟩ <;> rfl
  · simp
/-- Cut twice is cut once. -/
theorem cutS_twice (s : ByteArray) (n : Nat) : cutS (min (cutS (min s.size n) s).size n) (cutS (min s.size n) s) = cutS (min s.size n) s := by
  unfold cutS
  have h1 : (s.extract 0 (min s.size n)).size = min s.size n := by simp
  rw [h1]
  have h2 : min (min s.size n) n = (s.extract 0 (min s.size n)).size := by rw [h1]; omega
  rw [h2]
  generalize s.extract 0 (min s.size n) = t
  exact ByteArray.extract_zero_size
theorem cutB_twice (b : Br) : cutB (cutB b) = cutB b := by
  show (⟨cutS (min (cutS (min b.name.size 30) b.name).size 30) (cutS (min b.name.size 30) b.name), b.id⟩ : Br) = ⟨cutS (min b.name.size 30) b.name, b.id⟩
  rw [cutS_twice]
theorem cutL_twice (L : List Br) : cutL (cutL L) = cutL L := by
  unfold cutL
  rw [← List.map_take, List.take_take, List.map_map]
  simp only [Nat.min_self]
  exact List.map_congr_left fun b _ => cutB_twice b
end Go.Proofs.R1

namespace Go.Proofs.R1
open Go Go.Am
/-- A row of a command and an answer. -/
structure Rw where
  cmd : Cmd
  ans : Ans
instance : Inhabited Rw := ⟨⟨⟨0, 0, 0, ByteArray.empty, z0, z0, 0, fun _ => .any⟩, ⟨0, z0⟩⟩⟩
def Rw.av (r : Rw) : AV := .agg [.pl (.int .i64 r.cmd.kind), .pl (.int .i64 r.cmd.client), .pl (.int .u32 r.cmd.seq), .pl (.string r.cmd.branch), .iarr .u8 32 r.cmd.old, .iarr .u8 32 r.cmd.new, .rows 1 r.cmd.dn r.cmd.df, .pl (.int .i64 r.ans.err), .iarr .u8 32 r.ans.id]
def rwAt (X : List Rw) (i : Nat) : Rw := X.getD i default
def rwF (X : List Rw) (i : Nat) : AV := (rwAt X i).av
def rws (X : List Rw) : AV := .rows 102 X.length (rwF X)
def IsRws (x : AV) (X : List Rw) : Prop := leA (idN 0) x (rws X)
/-- What a round has in hand. -/
structure Q3 where
  W : List Br
  N : List Br
  D : List Br
  V : List Br
  ok : Bool
  is : Bool
  c : Cmd
  r : Rw
/-- A round of a loop over a row: where, and what two rows hold. -/
structure P3 where
  k : Nat
  N : List Br
  D : List Br
def T3 : Trans := fun args K => match args with
  | [x, y] => ∃ (L : List Br) (X : List Rw), IsBrs x L ∧ IsRws y X ∧ (∀ i, 0 ≤ (rwAt X i).cmd.seq) ∧ K (bl true) []
  | _ => False
end Go.Proofs.R1

namespace Go.Proofs.R1
open Go Go.Am

theorem v3 (L : List Br) (X : List Rw) (inv : Nat × List Br → Prop) (inv1 inv2 inv3 : Nat × List Br → Q3 → Prop) (inv4 inv5 : Nat × List Br → Q3 → P3 → Prop) (R : AV → List LObj → Prop) :
    (vcA false 0 [] Try.prog (mkTab [(6, .lend T6), (7, .lend T7), (8, .lend T8), (9, .lend T9), (10, .lend T10), (11, .lend T11), (12, .lend T12), (13, .lend T13), (14, .lend T14), (15, .lend T15)]) (Try.f3.body.getD .skip) ([.loop 5 (Nat × List Br) inv (fun p => ⟨slotsOf 121 0 [(0, .own 0 0 p.2.length), (20, rws X), (21, nm X.length), (22, nm p.1)], [brsO p.2]⟩) (fun p => X.length - p.1) (fun p => [.cut 16 Q3 (inv1 p) (fun q => ⟨slotsOf 121 0 [(0, .own 0 0 p.2.length), (6, .ptr 1 0 0 0), (7, .ptr 2 0 0 0), (8, .own 3 0 q.W.length), (9, .own 4 0 q.N.length), (10, bl q.ok), (11, .own 5 0 q.D.length), (20, rws X), (21, nm X.length), (22, nm p.1)], [brsO p.2, .box 36 (partsL q.r.av), .box 31 (partsL q.c.av), brsO q.W, brsO q.N, brsO q.D]⟩) (fun _ => [.cut 19 Q3 (inv2 p) (fun q => ⟨slotsOf 121 0 [(0, .own 0 0 p.2.length), (7, .ptr 1 0 0 0), (8, .own 2 0 q.W.length), (9, .own 3 0 q.N.length), (10, bl q.ok), (11, .own 4 0 q.D.length), (12, .own 5 0 q.V.length), (13, bl q.is), (20, rws X), (21, nm X.length), (22, nm p.1)], [brsO p.2, .box 31 (partsL q.c.av), brsO q.W, brsO q.N, brsO q.D, brsO q.V]⟩) (fun _ => [.cut 21 Q3 (inv3 p) (fun q => ⟨slotsOf 121 0 [(0, .own 0 0 p.2.length), (8, .own 1 0 q.W.length), (9, .own 2 0 q.N.length), (11, .own 3 0 q.D.length), (12, .own 4 0 q.V.length), (13, bl q.is), (20, rws X), (21, nm X.length), (22, nm p.1)], [brsO p.2, brsO q.W, brsO q.N, brsO q.D, brsO q.V]⟩) (fun q => [.loop 22 P3 (inv4 p q) (fun r => ⟨slotsOf 121 0 [(0, .own 0 0 p.2.length), (8, .own 1 0 q.W.length), (9, .own 2 0 r.N.length), (11, .own 3 0 r.D.length), (12, .own 4 0 q.V.length), (13, bl q.is), (20, rws X), (21, nm X.length), (22, nm p.1), (94, nm r.N.length), (95, nm r.k)], [brsO p.2, brsO q.W, brsO r.N, brsO r.D, brsO q.V]⟩) (fun r => r.N.length - r.k) (fun _ => []), .loop 27 P3 (inv5 p q) (fun r => ⟨slotsOf 121 0 [(0, .own 0 0 p.2.length), (8, .own 1 0 q.W.length), (11, .own 2 0 r.D.length), (12, .own 3 0 q.V.length), (13, bl q.is), (20, rws X), (21, nm X.length), (22, nm p.1), (104, nm r.D.length), (105, nm r.k)], [brsO p.2, brsO q.W, brsO r.D, brsO q.V]⟩) (fun r => r.D.length - r.k) (fun _ => [])])])])])]) (finalK Try.prog Try.f3 (R)) (startSt Try.f3 ([brs L, rws X]))) = (
    ((!true) = true → (True ∧ True) ∧ True ∧ R (AV.pl (Value.bool false)) []) ∧
    ((!true) = false →
    ∃ (L_1 : List Br),
    IsBrs (AV.rows (33 : Nat) L.length (brsF L)) L_1 ∧
    (∃ (x : Nat × List Br),
    ((True ∧ (0 : Nat) = (0 : Nat) ∧ (cutL L_1).length = x.snd.length) ∧
    ((102 : Nat) = (102 : Nat) ∧ X.length = X.length ∧ ∀ (i : Nat), i < X.length → rwF X i = rwF X i) ∧
    (↑X.length : Int) = (↑X.length : Int) ∧ (0 : Int) = (↑x.fst : Int) ∧ True) ∧
    (((33 : Nat) = (33 : Nat) ∧
    (45 : Nat) = (45 : Nat) ∧
    x.snd.length.le (cutL L_1).length ∧
    ∀ (i : Nat),
    i < x.snd.length →
    AV.agg
    [AV.pl (Value.string (brAt (cutL L_1) i).name),
    AV.iarr IntKind.u8 (32 : Nat) (brAt (cutL L_1) i).id] =
    AV.agg
    [AV.pl (Value.string (brAt x.snd i).name),
    AV.iarr IntKind.u8 (32 : Nat) (brAt x.snd i).id]) ∧
    True) ∧
    inv x) ∧
    ∀ (x : Nat × List Br),
    inv x →
    (decide ((↑x.fst : Int) < (↑X.length : Int)) = true →
    ((0 : Int) ≤ (↑x.fst : Int) ∧ (↑x.fst : Int) + (1 : Int) ≤ (↑X.length : Int)) ∧
    True ∧
    True ∧
    (((↑x.fst : Int) == (20 : Int)) = true →
    (True ∧ True) ∧ True ∧ R (AV.pl (Value.bool true)) []) ∧
    (((↑x.fst : Int) == (20 : Int)) = false →
    ∃ (c : Cmd),
    IsCmd
    (AV.agg
    [AV.pl (Value.int IntKind.i64 (rwAt X (↑x.fst : Int).toNat).cmd.kind),
    AV.pl (Value.int IntKind.i64 (rwAt X (↑x.fst : Int).toNat).cmd.client),
    AV.pl (Value.int IntKind.u32 (rwAt X (↑x.fst : Int).toNat).cmd.seq),
    AV.pl (Value.string (rwAt X (↑x.fst : Int).toNat).cmd.branch),
    AV.iarr IntKind.u8 (32 : Nat) (rwAt X (↑x.fst : Int).toNat).cmd.old,
    AV.iarr IntKind.u8 (32 : Nat) (rwAt X (↑x.fst : Int).toNat).cmd.new,
    AV.rows (1 : Nat) (rwAt X (↑x.fst : Int).toNat).cmd.dn
    (rwAt X (↑x.fst : Int).toNat).cmd.df])
    c ∧
    (((0 : Nat) + x.snd.length).le x.snd.length ∧ True) ∧
    ∃ (L : List Br),
    IsBrs
    (AV.rows (33 : Nat) x.snd.length fun (i : Nat) =>
    AV.agg
    [AV.pl (Value.string (brAt x.snd ((0 : Nat) + i)).name),
    AV.iarr IntKind.u8 (32 : Nat) (brAt x.snd ((0 : Nat) + i)).id])
    L ∧
    True ∧
    ((∀ (i : Nat), i < (cutL L).length → flatB (brsF (cutL L) i) = true) ∧ True) ∧
    True ∧
    True ∧
    (((0 : Nat) + x.snd.length).le x.snd.length ∧
    (True ∧ True ∧ True ∧ True ∧ True ∧ True ∧ True ∧ True) ∧
    (True ∧ True ∧ True) ∧ True) ∧
    ∃ (L_2 : List Br),
    ∃ (c_1 : Cmd),
    ∃ (a : Ans),
    IsBrs
    (AV.rows (33 : Nat) x.snd.length fun (i : Nat) =>
    AV.agg
    [AV.pl (Value.string (brAt x.snd ((0 : Nat) + i)).name),
    AV.iarr IntKind.u8 (32 : Nat)
    (brAt x.snd ((0 : Nat) + i)).id])
    L_2 ∧
    IsCmd
    (AV.agg
    [AV.pl (Value.int IntKind.i64 (cutC c).kind),
    AV.pl (Value.int IntKind.i64 (cutC c).client),
    AV.pl (Value.int IntKind.u32 (cutC c).seq),
    AV.pl (Value.string (cutC c).branch),
    AV.iarr IntKind.u8 (32 : Nat) (cutC c).old,
    AV.iarr IntKind.u8 (32 : Nat) (cutC c).new,
    AV.rows (1 : Nat) (cutC c).dn (cutC c).df])
    c_1 ∧
    IsAns
    (AV.agg
    [AV.pl
    (Value.int IntKind.i64
    (rwAt X (↑x.fst : Int).toNat).ans.err),
    AV.iarr IntKind.u8 (32 : Nat)
    (rwAt X (↑x.fst : Int).toNat).ans.id])
    a ∧
    Bd L_2 ∧
    True ∧
    ((∀ (i : Nat),
    i < (FitsL L_2 c_1 a).length →
    flatB (brsF (FitsL L_2 c_1 a) i) = true) ∧
    True) ∧
    (((0 : Nat) + x.snd.length).le x.snd.length ∧
    (True ∧
    True ∧
    True ∧ True ∧ True ∧ True ∧ True ∧ True) ∧
    True) ∧
    ∃ (L_3 : List Br),
    ∃ (c_2 : Cmd),
    IsBrs
    (AV.rows (33 : Nat) x.snd.length
    fun (i : Nat) =>
    AV.agg
    [AV.pl
    (Value.string
    (brAt x.snd
    ((0 : Nat) + i)).name),
    AV.iarr IntKind.u8 (32 : Nat)
    (brAt x.snd ((0 : Nat) + i)).id])
    L_3 ∧
    IsCmd
    (AV.agg
    [AV.pl
    (Value.int IntKind.i64
    (cutC c).kind),
    AV.pl
    (Value.int IntKind.i64
    (cutC c).client),
    AV.pl
    (Value.int IntKind.u32
    (cutC c).seq),
    AV.pl (Value.string (cutC c).branch),
    AV.iarr IntKind.u8 (32 : Nat)
    (cutC c).old,
    AV.iarr IntKind.u8 (32 : Nat)
    (cutC c).new,
    AV.rows (1 : Nat) (cutC c).dn
    (cutC c).df])
    c_2 ∧
    Bd L_3 ∧
    True ∧
    ((∀ (i : Nat),
    i < (DoesL L_3 c_2).length →
    flatB (brsF (DoesL L_3 c_2) i) =
    true) ∧
    True) ∧
    (((0 : Nat) + x.snd.length).le
    x.snd.length ∧
    ((0 : Nat) + (cutL L).length).le
    (cutL L).length ∧
    True) ∧
    ∃ (L_4 : List Br),
    ∃ (M : List Br),
    IsBrs
    (AV.rows (33 : Nat)
    x.snd.length
    fun (i : Nat) =>
    AV.agg
    [AV.pl
    (Value.string
    (brAt x.snd
    ((0 : Nat) +
    i)).name),
    AV.iarr IntKind.u8
    (32 : Nat)
    (brAt x.snd
    ((0 : Nat) +
    i)).id])
    L_4 ∧
    IsBrs
    (AV.rows (33 : Nat)
    (cutL L).length
    fun (i : Nat) =>
    AV.agg
    [AV.pl
    (Value.string
    (brAt (cutL L)
    ((0 : Nat) +
    i)).name),
    AV.iarr IntKind.u8
    (32 : Nat)
    (brAt (cutL L)
    ((0 : Nat) +
    i)).id])
    M ∧
    True ∧
    True ∧
    ((!brsEq L_4 M) = true →
    (True ∧ True) ∧
    True ∧
    R
    (AV.pl
    (Value.bool
    false))
    []) ∧
    ((!brsEq L_4 M) =
    false →
    ((((0 : Nat) +
    (cutL
    L).length).le
    (cutL
    L).length ∧
    True) ∧
    ∃ (L_5 :
    List Br),
    IsBrs
    (AV.rows
    (33 :
    Nat)
    (cutL
    L).length
    fun
    (i :
    Nat) =>
    AV.agg
    [AV.pl
    (Value.string
    (brAt
    (cutL
    L)
    ((0 :
    Nat) +
    i)).name),
    AV.iarr
    IntKind.u8
    (32 :
    Nat)
    (brAt
    (cutL
    L)
    ((0 :
    Nat) +
    i)).id])
    L_5 ∧
    True ∧
    True ∧
    (gEq
    (!rightB
    L_5)
    false =
    true →
    ∃
    (c_3
    :
    Cmd),
    IsCmd
    (AV.agg
    [AV.pl
    (Value.int
    IntKind.i64
    (cutC
    c).kind),
    AV.pl
    (Value.int
    IntKind.i64
    (cutC
    c).client),
    AV.pl
    (Value.int
    IntKind.u32
    (cutC
    c).seq),
    AV.pl
    (Value.string
    (cutC
    c).branch),
    AV.iarr
    IntKind.u8
    (32 :
    Nat)
    (cutC
    c).old,
    AV.iarr
    IntKind.u8
    (32 :
    Nat)
    (cutC
    c).new,
    AV.rows
    (1 :
    Nat)
    (cutC
    c).dn
    (cutC
    c).df])
    c_3 ∧
    (0 :
    Int) ≤
    c_3.seq ∧
    true =
    true ∧
    ((bif
    false then
    true
    else
    !checkB
    c_3) =
    true →
    ((bif
    FitsB
    L_2
    c_1
    a then
    true
    else
    IntKind.i64.wrap
    ((↑(FitsL
    L_2
    c_1
    a).length :
    Int) +
    (↑(DoesL
    L_3
    c_2).length :
    Int)) !=
    (0 :
    Int)) =
    true →
    (True ∧
    True) ∧
    True ∧
    R
    (AV.pl
    (Value.bool
    false))
    []) ∧
    ((bif
    FitsB
    L_2
    c_1
    a then
    true
    else
    IntKind.i64.wrap
    ((↑(FitsL
    L_2
    c_1
    a).length :
    Int) +
    (↑(DoesL
    L_3
    c_2).length :
    Int)) !=
    (0 :
    Int)) =
    false →
    ∃
    (y
    :
    Nat ×
    List
    Br),
    ((True ∧
    (0 :
    Nat) =
    (0 :
    Nat) ∧
    x.snd.length =
    y.snd.length) ∧
    ((102 :
    Nat) =
    (102 :
    Nat) ∧
    X.length =
    X.length ∧
    ∀
    (i :
    Nat),
    i <
    X.length →
    rwF
    X
    i =
    rwF
    X
    i) ∧
    (↑X.length :
    Int) =
    (↑X.length :
    Int) ∧
    IntKind.i64.wrap
    ((↑x.fst :
    Int) +
    (1 :
    Int)) =
    (↑y.fst :
    Int) ∧
    True) ∧
    (((33 :
    Nat) =
    (33 :
    Nat) ∧
    (45 :
    Nat) =
    (45 :
    Nat) ∧
    y.snd.length.le
    x.snd.length ∧
    ∀
    (i :
    Nat),
    i <
    y.snd.length →
    AV.agg
    [AV.pl
    (Value.string
    (brAt
    x.snd
    i).name),
    AV.iarr
    IntKind.u8
    (32 :
    Nat)
    (brAt
    x.snd
    i).id] =
    AV.agg
    [AV.pl
    (Value.string
    (brAt
    y.snd
    i).name),
    AV.iarr
    IntKind.u8
    (32 :
    Nat)
    (brAt
    y.snd
    i).id]) ∧
    True) ∧
    inv
    y ∧
    (X.length -
    y.fst).succ.le
    (X.length -
    x.fst))) ∧
    ((bif
    false then
    true
    else
    !checkB
    c_3) =
    false →
    ∃
    (x_1
    :
    Q3),
    ((True ∧
    (0 :
    Nat) =
    (0 :
    Nat) ∧
    x.snd.length =
    x.snd.length) ∧
    (True ∧
    (0 :
    Nat) =
    (0 :
    Nat) ∧
    (0 :
    Nat) =
    (0 :
    Nat) ∧
    (0 :
    Nat) =
    (0 :
    Nat)) ∧
    (True ∧
    (0 :
    Nat) =
    (0 :
    Nat) ∧
    (0 :
    Nat) =
    (0 :
    Nat) ∧
    (0 :
    Nat) =
    (0 :
    Nat)) ∧
    (True ∧
    (0 :
    Nat) =
    (0 :
    Nat) ∧
    (cutL
    L).length =
    x_1.W.length) ∧
    (True ∧
    (0 :
    Nat) =
    (0 :
    Nat) ∧
    (FitsL
    L_2
    c_1
    a).length =
    x_1.N.length) ∧
    FitsB
    L_2
    c_1
    a =
    x_1.ok ∧
    (True ∧
    (0 :
    Nat) =
    (0 :
    Nat) ∧
    (DoesL
    L_3
    c_2).length =
    x_1.D.length) ∧
    ((102 :
    Nat) =
    (102 :
    Nat) ∧
    X.length =
    X.length ∧
    ∀
    (i :
    Nat),
    i <
    X.length →
    rwF
    X
    i =
    rwF
    X
    i) ∧
    (↑X.length :
    Int) =
    (↑X.length :
    Int) ∧
    (↑x.fst :
    Int) =
    (↑x.fst :
    Int) ∧
    True) ∧
    (((33 :
    Nat) =
    (33 :
    Nat) ∧
    (45 :
    Nat) =
    (45 :
    Nat) ∧
    x.snd.length.le
    x.snd.length ∧
    ∀
    (i :
    Nat),
    i <
    x.snd.length →
    brsF
    x.snd
    i =
    brsF
    x.snd
    i) ∧
    ((36 :
    Nat) =
    (36 :
    Nat) ∧
    (rwAt
    X
    (↑x.fst :
    Int).toNat).cmd.kind =
    x_1.r.cmd.kind ∧
    (rwAt
    X
    (↑x.fst :
    Int).toNat).cmd.client =
    x_1.r.cmd.client ∧
    (rwAt
    X
    (↑x.fst :
    Int).toNat).cmd.seq =
    x_1.r.cmd.seq ∧
    (rwAt
    X
    (↑x.fst :
    Int).toNat).cmd.branch =
    x_1.r.cmd.branch ∧
    (IntKind.u8 =
    IntKind.u8 ∧
    (32 :
    Nat) =
    (32 :
    Nat) ∧
    ∀
    (i :
    Nat),
    i <
    (32 :
    Nat) →
    (rwAt
    X
    (↑x.fst :
    Int).toNat).cmd.old
    i =
    x_1.r.cmd.old
    i) ∧
    (IntKind.u8 =
    IntKind.u8 ∧
    (32 :
    Nat) =
    (32 :
    Nat) ∧
    ∀
    (i :
    Nat),
    i <
    (32 :
    Nat) →
    (rwAt
    X
    (↑x.fst :
    Int).toNat).cmd.new
    i =
    x_1.r.cmd.new
    i) ∧
    ((1 :
    Nat) =
    (1 :
    Nat) ∧
    (rwAt
    X
    (↑x.fst :
    Int).toNat).cmd.dn =
    x_1.r.cmd.dn ∧
    ∀
    (i :
    Nat),
    i <
    (rwAt
    X
    (↑x.fst :
    Int).toNat).cmd.dn →
    (rwAt
    X
    (↑x.fst :
    Int).toNat).cmd.df
    i =
    x_1.r.cmd.df
    i) ∧
    (rwAt
    X
    (↑x.fst :
    Int).toNat).ans.err =
    x_1.r.ans.err ∧
    (IntKind.u8 =
    IntKind.u8 ∧
    (32 :
    Nat) =
    (32 :
    Nat) ∧
    ∀
    (i :
    Nat),
    i <
    (32 :
    Nat) →
    (rwAt
    X
    (↑x.fst :
    Int).toNat).ans.id
    i =
    x_1.r.ans.id
    i) ∧
    True) ∧
    ((31 :
    Nat) =
    (31 :
    Nat) ∧
    (cutC
    c).kind =
    x_1.c.kind ∧
    (cutC
    c).client =
    x_1.c.client ∧
    (cutC
    c).seq =
    x_1.c.seq ∧
    (cutC
    c).branch =
    x_1.c.branch ∧
    (IntKind.u8 =
    IntKind.u8 ∧
    (32 :
    Nat) =
    (32 :
    Nat) ∧
    ∀
    (i :
    Nat),
    i <
    (32 :
    Nat) →
    (cutC
    c).old
    i =
    x_1.c.old
    i) ∧
    (IntKind.u8 =
    IntKind.u8 ∧
    (32 :
    Nat) =
    (32 :
    Nat) ∧
    ∀
    (i :
    Nat),
    i <
    (32 :
    Nat) →
    (cutC
    c).new
    i =
    x_1.c.new
    i) ∧
    ((1 :
    Nat) =
    (1 :
    Nat) ∧
    (cutC
    c).dn =
    x_1.c.dn ∧
    ∀
    (i :
    Nat),
    i <
    (cutC
    c).dn →
    (cutC
    c).df
    i =
    x_1.c.df
    i) ∧
    True) ∧
    ((33 :
    Nat) =
    (33 :
    Nat) ∧
    (45 :
    Nat) =
    (45 :
    Nat) ∧
    x_1.W.length.le
    (cutL
    L).length ∧
    ∀
    (i :
    Nat),
    i <
    x_1.W.length →
    AV.agg
    [AV.pl
    (Value.string
    (brAt
    (cutL
    L)
    i).name),
    AV.iarr
    IntKind.u8
    (32 :
    Nat)
    (brAt
    (cutL
    L)
    i).id] =
    AV.agg
    [AV.pl
    (Value.string
    (brAt
    x_1.W
    i).name),
    AV.iarr
    IntKind.u8
    (32 :
    Nat)
    (brAt
    x_1.W
    i).id]) ∧
    ((33 :
    Nat) =
    (33 :
    Nat) ∧
    (45 :
    Nat) =
    (45 :
    Nat) ∧
    x_1.N.length.le
    (FitsL
    L_2
    c_1
    a).length ∧
    ∀
    (i :
    Nat),
    i <
    x_1.N.length →
    AV.agg
    [AV.pl
    (Value.string
    (brAt
    (FitsL
    L_2
    c_1
    a)
    i).name),
    AV.iarr
    IntKind.u8
    (32 :
    Nat)
    (brAt
    (FitsL
    L_2
    c_1
    a)
    i).id] =
    AV.agg
    [AV.pl
    (Value.string
    (brAt
    x_1.N
    i).name),
    AV.iarr
    IntKind.u8
    (32 :
    Nat)
    (brAt
    x_1.N
    i).id]) ∧
    ((33 :
    Nat) =
    (33 :
    Nat) ∧
    (45 :
    Nat) =
    (45 :
    Nat) ∧
    x_1.D.length.le
    (DoesL
    L_3
    c_2).length ∧
    ∀
    (i :
    Nat),
    i <
    x_1.D.length →
    AV.agg
    [AV.pl
    (Value.string
    (brAt
    (DoesL
    L_3
    c_2)
    i).name),
    AV.iarr
    IntKind.u8
    (32 :
    Nat)
    (brAt
    (DoesL
    L_3
    c_2)
    i).id] =
    AV.agg
    [AV.pl
    (Value.string
    (brAt
    x_1.D
    i).name),
    AV.iarr
    IntKind.u8
    (32 :
    Nat)
    (brAt
    x_1.D
    i).id]) ∧
    True) ∧
    inv1
    x
    x_1)) ∧
    (gEq
    (!rightB
    L_5)
    false =
    false →
    true =
    true ∧
    (true =
    true →
    ((bif
    FitsB
    L_2
    c_1
    a then
    true
    else
    IntKind.i64.wrap
    ((↑(FitsL
    L_2
    c_1
    a).length :
    Int) +
    (↑(DoesL
    L_3
    c_2).length :
    Int)) !=
    (0 :
    Int)) =
    true →
    (True ∧
    True) ∧
    True ∧
    R
    (AV.pl
    (Value.bool
    false))
    []) ∧
    ((bif
    FitsB
    L_2
    c_1
    a then
    true
    else
    IntKind.i64.wrap
    ((↑(FitsL
    L_2
    c_1
    a).length :
    Int) +
    (↑(DoesL
    L_3
    c_2).length :
    Int)) !=
    (0 :
    Int)) =
    false →
    ∃
    (y
    :
    Nat ×
    List
    Br),
    ((True ∧
    (0 :
    Nat) =
    (0 :
    Nat) ∧
    x.snd.length =
    y.snd.length) ∧
    ((102 :
    Nat) =
    (102 :
    Nat) ∧
    X.length =
    X.length ∧
    ∀
    (i :
    Nat),
    i <
    X.length →
    rwF
    X
    i =
    rwF
    X
    i) ∧
    (↑X.length :
    Int) =
    (↑X.length :
    Int) ∧
    IntKind.i64.wrap
    ((↑x.fst :
    Int) +
    (1 :
    Int)) =
    (↑y.fst :
    Int) ∧
    True) ∧
    (((33 :
    Nat) =
    (33 :
    Nat) ∧
    (45 :
    Nat) =
    (45 :
    Nat) ∧
    y.snd.length.le
    x.snd.length ∧
    ∀
    (i :
    Nat),
    i <
    y.snd.length →
    AV.agg
    [AV.pl
    (Value.string
    (brAt
    x.snd
    i).name),
    AV.iarr
    IntKind.u8
    (32 :
    Nat)
    (brAt
    x.snd
    i).id] =
    AV.agg
    [AV.pl
    (Value.string
    (brAt
    y.snd
    i).name),
    AV.iarr
    IntKind.u8
    (32 :
    Nat)
    (brAt
    y.snd
    i).id]) ∧
    True) ∧
    inv
    y ∧
    (X.length -
    y.fst).succ.le
    (X.length -
    x.fst))) ∧
    (true =
    false →
    ∃
    (x_1
    :
    Q3),
    ((True ∧
    (0 :
    Nat) =
    (0 :
    Nat) ∧
    x.snd.length =
    x.snd.length) ∧
    (True ∧
    (0 :
    Nat) =
    (0 :
    Nat) ∧
    (0 :
    Nat) =
    (0 :
    Nat) ∧
    (0 :
    Nat) =
    (0 :
    Nat)) ∧
    (True ∧
    (0 :
    Nat) =
    (0 :
    Nat) ∧
    (0 :
    Nat) =
    (0 :
    Nat) ∧
    (0 :
    Nat) =
    (0 :
    Nat)) ∧
    (True ∧
    (0 :
    Nat) =
    (0 :
    Nat) ∧
    (cutL
    L).length =
    x_1.W.length) ∧
    (True ∧
    (0 :
    Nat) =
    (0 :
    Nat) ∧
    (FitsL
    L_2
    c_1
    a).length =
    x_1.N.length) ∧
    FitsB
    L_2
    c_1
    a =
    x_1.ok ∧
    (True ∧
    (0 :
    Nat) =
    (0 :
    Nat) ∧
    (DoesL
    L_3
    c_2).length =
    x_1.D.length) ∧
    ((102 :
    Nat) =
    (102 :
    Nat) ∧
    X.length =
    X.length ∧
    ∀
    (i :
    Nat),
    i <
    X.length →
    rwF
    X
    i =
    rwF
    X
    i) ∧
    (↑X.length :
    Int) =
    (↑X.length :
    Int) ∧
    (↑x.fst :
    Int) =
    (↑x.fst :
    Int) ∧
    True) ∧
    (((33 :
    Nat) =
    (33 :
    Nat) ∧
    (45 :
    Nat) =
    (45 :
    Nat) ∧
    x.snd.length.le
    x.snd.length ∧
    ∀
    (i :
    Nat),
    i <
    x.snd.length →
    brsF
    x.snd
    i =
    brsF
    x.snd
    i) ∧
    ((36 :
    Nat) =
    (36 :
    Nat) ∧
    (rwAt
    X
    (↑x.fst :
    Int).toNat).cmd.kind =
    x_1.r.cmd.kind ∧
    (rwAt
    X
    (↑x.fst :
    Int).toNat).cmd.client =
    x_1.r.cmd.client ∧
    (rwAt
    X
    (↑x.fst :
    Int).toNat).cmd.seq =
    x_1.r.cmd.seq ∧
    (rwAt
    X
    (↑x.fst :
    Int).toNat).cmd.branch =
    x_1.r.cmd.branch ∧
    (IntKind.u8 =
    IntKind.u8 ∧
    (32 :
    Nat) =
    (32 :
    Nat) ∧
    ∀
    (i :
    Nat),
    i <
    (32 :
    Nat) →
    (rwAt
    X
    (↑x.fst :
    Int).toNat).cmd.old
    i =
    x_1.r.cmd.old
    i) ∧
    (IntKind.u8 =
    IntKind.u8 ∧
    (32 :
    Nat) =
    (32 :
    Nat) ∧
    ∀
    (i :
    Nat),
    i <
    (32 :
    Nat) →
    (rwAt
    X
    (↑x.fst :
    Int).toNat).cmd.new
    i =
    x_1.r.cmd.new
    i) ∧
    ((1 :
    Nat) =
    (1 :
    Nat) ∧
    (rwAt
    X
    (↑x.fst :
    Int).toNat).cmd.dn =
    x_1.r.cmd.dn ∧
    ∀
    (i :
    Nat),
    i <
    (rwAt
    X
    (↑x.fst :
    Int).toNat).cmd.dn →
    (rwAt
    X
    (↑x.fst :
    Int).toNat).cmd.df
    i =
    x_1.r.cmd.df
    i) ∧
    (rwAt
    X
    (↑x.fst :
    Int).toNat).ans.err =
    x_1.r.ans.err ∧
    (IntKind.u8 =
    IntKind.u8 ∧
    (32 :
    Nat) =
    (32 :
    Nat) ∧
    ∀
    (i :
    Nat),
    i <
    (32 :
    Nat) →
    (rwAt
    X
    (↑x.fst :
    Int).toNat).ans.id
    i =
    x_1.r.ans.id
    i) ∧
    True) ∧
    ((31 :
    Nat) =
    (31 :
    Nat) ∧
    (cutC
    c).kind =
    x_1.c.kind ∧
    (cutC
    c).client =
    x_1.c.client ∧
    (cutC
    c).seq =
    x_1.c.seq ∧
    (cutC
    c).branch =
    x_1.c.branch ∧
    (IntKind.u8 =
    IntKind.u8 ∧
    (32 :
    Nat) =
    (32 :
    Nat) ∧
    ∀
    (i :
    Nat),
    i <
    (32 :
    Nat) →
    (cutC
    c).old
    i =
    x_1.c.old
    i) ∧
    (IntKind.u8 =
    IntKind.u8 ∧
    (32 :
    Nat) =
    (32 :
    Nat) ∧
    ∀
    (i :
    Nat),
    i <
    (32 :
    Nat) →
    (cutC
    c).new
    i =
    x_1.c.new
    i) ∧
    ((1 :
    Nat) =
    (1 :
    Nat) ∧
    (cutC
    c).dn =
    x_1.c.dn ∧
    ∀
    (i :
    Nat),
    i <
    (cutC
    c).dn →
    (cutC
    c).df
    i =
    x_1.c.df
    i) ∧
    True) ∧
    ((33 :
    Nat) =
    (33 :
    Nat) ∧
    (45 :
    Nat) =
    (45 :
    Nat) ∧
    x_1.W.length.le
    (cutL
    L).length ∧
    ∀
    (i :
    Nat),
    i <
    x_1.W.length →
    AV.agg
    [AV.pl
    (Value.string
    (brAt
    (cutL
    L)
    i).name),
    AV.iarr
    IntKind.u8
    (32 :
    Nat)
    (brAt
    (cutL
    L)
    i).id] =
    AV.agg
    [AV.pl
    (Value.string
    (brAt
    x_1.W
    i).name),
    AV.iarr
    IntKind.u8
    (32 :
    Nat)
    (brAt
    x_1.W
    i).id]) ∧
    ((33 :
    Nat) =
    (33 :
    Nat) ∧
    (45 :
    Nat) =
    (45 :
    Nat) ∧
    x_1.N.length.le
    (FitsL
    L_2
    c_1
    a).length ∧
    ∀
    (i :
    Nat),
    i <
    x_1.N.length →
    AV.agg
    [AV.pl
    (Value.string
    (brAt
    (FitsL
    L_2
    c_1
    a)
    i).name),
    AV.iarr
    IntKind.u8
    (32 :
    Nat)
    (brAt
    (FitsL
    L_2
    c_1
    a)
    i).id] =
    AV.agg
    [AV.pl
    (Value.string
    (brAt
    x_1.N
    i).name),
    AV.iarr
    IntKind.u8
    (32 :
    Nat)
    (brAt
    x_1.N
    i).id]) ∧
    ((33 :
    Nat) =
    (33 :
    Nat) ∧
    (45 :
    Nat) =
    (45 :
    Nat) ∧
    x_1.D.length.le
    (DoesL
    L_3
    c_2).length ∧
    ∀
    (i :
    Nat),
    i <
    x_1.D.length →
    AV.agg
    [AV.pl
    (Value.string
    (brAt
    (DoesL
    L_3
    c_2)
    i).name),
    AV.iarr
    IntKind.u8
    (32 :
    Nat)
    (brAt
    (DoesL
    L_3
    c_2)
    i).id] =
    AV.agg
    [AV.pl
    (Value.string
    (brAt
    x_1.D
    i).name),
    AV.iarr
    IntKind.u8
    (32 :
    Nat)
    (brAt
    x_1.D
    i).id]) ∧
    True) ∧
    inv1
    x
    x_1))) ∧
    ∀ (x_1 : Q3),
    inv1 x x_1 →
    (((0 : Nat) +
    x_1.W.length).le
    x_1.W.length ∧
    (True ∧
    True ∧
    True ∧
    True ∧
    True ∧
    True ∧
    True ∧
    True) ∧
    (True ∧
    True ∧
    True) ∧
    True) ∧
    ∃ (L :
    List Br),
    ∃ (c :
    Cmd),
    ∃ (a :
    Ans),
    IsBrs
    (AV.rows
    (33 :
    Nat)
    x_1.W.length
    fun
    (i :
    Nat) =>
    AV.agg
    [AV.pl
    (Value.string
    (brAt
    x_1.W
    ((0 :
    Nat) +
    i)).name),
    AV.iarr
    IntKind.u8
    (32 :
    Nat)
    (brAt
    x_1.W
    ((0 :
    Nat) +
    i)).id])
    L ∧
    IsCmd
    (AV.agg
    [AV.pl
    (Value.int
    IntKind.i64
    x_1.c.kind),
    AV.pl
    (Value.int
    IntKind.i64
    x_1.c.client),
    AV.pl
    (Value.int
    IntKind.u32
    x_1.c.seq),
    AV.pl
    (Value.string
    x_1.c.branch),
    AV.iarr
    IntKind.u8
    (32 :
    Nat)
    x_1.c.old,
    AV.iarr
    IntKind.u8
    (32 :
    Nat)
    x_1.c.new,
    AV.rows
    (1 :
    Nat)
    x_1.c.dn
    x_1.c.df])
    c ∧
    IsAns
    (AV.agg
    [AV.pl
    (Value.int
    IntKind.i64
    x_1.r.ans.err),
    AV.iarr
    IntKind.u8
    (32 :
    Nat)
    x_1.r.ans.id])
    a ∧
    Bd
    L ∧
    True ∧
    ((∀
    (i :
    Nat),
    i <
    (fitsRL
    L
    c
    a).length →
    flatB
    (brsF
    (fitsRL
    L
    c
    a)
    i) =
    true) ∧
    True) ∧
    (((!fitsRB
    L
    c
    a) =
    true →
    ∃
    (x_2
    :
    Q3),
    ((True ∧
    (0 :
    Nat) =
    (0 :
    Nat) ∧
    x.snd.length =
    x.snd.length) ∧
    (True ∧
    (0 :
    Nat) =
    (0 :
    Nat) ∧
    (0 :
    Nat) =
    (0 :
    Nat) ∧
    (0 :
    Nat) =
    (0 :
    Nat)) ∧
    (True ∧
    (0 :
    Nat) =
    (0 :
    Nat) ∧
    x_1.W.length =
    x_2.W.length) ∧
    (True ∧
    (0 :
    Nat) =
    (0 :
    Nat) ∧
    x_1.N.length =
    x_2.N.length) ∧
    x_1.ok =
    x_2.ok ∧
    (True ∧
    (0 :
    Nat) =
    (0 :
    Nat) ∧
    x_1.D.length =
    x_2.D.length) ∧
    (True ∧
    True ∧
    (0 :
    Nat) =
    (0 :
    Nat) ∧
    x_2.V.length =
    (0 :
    Nat)) ∧
    fitsRB
    L
    c
    a =
    x_2.is ∧
    ((102 :
    Nat) =
    (102 :
    Nat) ∧
    X.length =
    X.length ∧
    ∀
    (i :
    Nat),
    i <
    X.length →
    rwF
    X
    i =
    rwF
    X
    i) ∧
    (↑X.length :
    Int) =
    (↑X.length :
    Int) ∧
    (↑x.fst :
    Int) =
    (↑x.fst :
    Int) ∧
    True) ∧
    (((33 :
    Nat) =
    (33 :
    Nat) ∧
    (45 :
    Nat) =
    (45 :
    Nat) ∧
    x.snd.length.le
    x.snd.length ∧
    ∀
    (i :
    Nat),
    i <
    x.snd.length →
    brsF
    x.snd
    i =
    brsF
    x.snd
    i) ∧
    ((31 :
    Nat) =
    (31 :
    Nat) ∧
    x_1.c.kind =
    x_2.c.kind ∧
    x_1.c.client =
    x_2.c.client ∧
    x_1.c.seq =
    x_2.c.seq ∧
    x_1.c.branch =
    x_2.c.branch ∧
    (IntKind.u8 =
    IntKind.u8 ∧
    (32 :
    Nat) =
    (32 :
    Nat) ∧
    ∀
    (i :
    Nat),
    i <
    (32 :
    Nat) →
    x_1.c.old
    i =
    x_2.c.old
    i) ∧
    (IntKind.u8 =
    IntKind.u8 ∧
    (32 :
    Nat) =
    (32 :
    Nat) ∧
    ∀
    (i :
    Nat),
    i <
    (32 :
    Nat) →
    x_1.c.new
    i =
    x_2.c.new
    i) ∧
    ((1 :
    Nat) =
    (1 :
    Nat) ∧
    x_1.c.dn =
    x_2.c.dn ∧
    ∀
    (i :
    Nat),
    i <
    x_1.c.dn →
    x_1.c.df
    i =
    x_2.c.df
    i) ∧
    True) ∧
    ((33 :
    Nat) =
    (33 :
    Nat) ∧
    (45 :
    Nat) =
    (45 :
    Nat) ∧
    x_2.W.length.le
    x_1.W.length ∧
    ∀
    (i :
    Nat),
    i <
    x_2.W.length →
    AV.agg
    [AV.pl
    (Value.string
    (brAt
    x_1.W
    i).name),
    AV.iarr
    IntKind.u8
    (32 :
    Nat)
    (brAt
    x_1.W
    i).id] =
    AV.agg
    [AV.pl
    (Value.string
    (brAt
    x_2.W
    i).name),
    AV.iarr
    IntKind.u8
    (32 :
    Nat)
    (brAt
    x_2.W
    i).id]) ∧
    ((33 :
    Nat) =
    (33 :
    Nat) ∧
    (45 :
    Nat) =
    (45 :
    Nat) ∧
    x_2.N.length.le
    x_1.N.length ∧
    ∀
    (i :
    Nat),
    i <
    x_2.N.length →
    AV.agg
    [AV.pl
    (Value.string
    (brAt
    x_1.N
    i).name),
    AV.iarr
    IntKind.u8
    (32 :
    Nat)
    (brAt
    x_1.N
    i).id] =
    AV.agg
    [AV.pl
    (Value.string
    (brAt
    x_2.N
    i).name),
    AV.iarr
    IntKind.u8
    (32 :
    Nat)
    (brAt
    x_2.N
    i).id]) ∧
    ((33 :
    Nat) =
    (33 :
    Nat) ∧
    (45 :
    Nat) =
    (45 :
    Nat) ∧
    x_2.D.length.le
    x_1.D.length ∧
    ∀
    (i :
    Nat),
    i <
    x_2.D.length →
    AV.agg
    [AV.pl
    (Value.string
    (brAt
    x_1.D
    i).name),
    AV.iarr
    IntKind.u8
    (32 :
    Nat)
    (brAt
    x_1.D
    i).id] =
    AV.agg
    [AV.pl
    (Value.string
    (brAt
    x_2.D
    i).name),
    AV.iarr
    IntKind.u8
    (32 :
    Nat)
    (brAt
    x_2.D
    i).id]) ∧
    x_2.V.length =
    (0 :
    Nat) ∧
    True) ∧
    inv2
    x
    x_2) ∧
    ((!fitsRB
    L
    c
    a) =
    false →
    ∃
    (x_2
    :
    Q3),
    ((True ∧
    (0 :
    Nat) =
    (0 :
    Nat) ∧
    x.snd.length =
    x.snd.length) ∧
    (True ∧
    (0 :
    Nat) =
    (0 :
    Nat) ∧
    (0 :
    Nat) =
    (0 :
    Nat) ∧
    (0 :
    Nat) =
    (0 :
    Nat)) ∧
    (True ∧
    (0 :
    Nat) =
    (0 :
    Nat) ∧
    x_1.W.length =
    x_2.W.length) ∧
    (True ∧
    (0 :
    Nat) =
    (0 :
    Nat) ∧
    x_1.N.length =
    x_2.N.length) ∧
    x_1.ok =
    x_2.ok ∧
    (True ∧
    (0 :
    Nat) =
    (0 :
    Nat) ∧
    x_1.D.length =
    x_2.D.length) ∧
    (True ∧
    (0 :
    Nat) =
    (0 :
    Nat) ∧
    (fitsRL
    L
    c
    a).length =
    x_2.V.length) ∧
    fitsRB
    L
    c
    a =
    x_2.is ∧
    ((102 :
    Nat) =
    (102 :
    Nat) ∧
    X.length =
    X.length ∧
    ∀
    (i :
    Nat),
    i <
    X.length →
    rwF
    X
    i =
    rwF
    X
    i) ∧
    (↑X.length :
    Int) =
    (↑X.length :
    Int) ∧
    (↑x.fst :
    Int) =
    (↑x.fst :
    Int) ∧
    True) ∧
    (((33 :
    Nat) =
    (33 :
    Nat) ∧
    (45 :
    Nat) =
    (45 :
    Nat) ∧
    x.snd.length.le
    x.snd.length ∧
    ∀
    (i :
    Nat),
    i <
    x.snd.length →
    brsF
    x.snd
    i =
    brsF
    x.snd
    i) ∧
    ((31 :
    Nat) =
    (31 :
    Nat) ∧
    x_1.c.kind =
    x_2.c.kind ∧
    x_1.c.client =
    x_2.c.client ∧
    x_1.c.seq =
    x_2.c.seq ∧
    x_1.c.branch =
    x_2.c.branch ∧
    (IntKind.u8 =
    IntKind.u8 ∧
    (32 :
    Nat) =
    (32 :
    Nat) ∧
    ∀
    (i :
    Nat),
    i <
    (32 :
    Nat) →
    x_1.c.old
    i =
    x_2.c.old
    i) ∧
    (IntKind.u8 =
    IntKind.u8 ∧
    (32 :
    Nat) =
    (32 :
    Nat) ∧
    ∀
    (i :
    Nat),
    i <
    (32 :
    Nat) →
    x_1.c.new
    i =
    x_2.c.new
    i) ∧
    ((1 :
    Nat) =
    (1 :
    Nat) ∧
    x_1.c.dn =
    x_2.c.dn ∧
    ∀
    (i :
    Nat),
    i <
    x_1.c.dn →
    x_1.c.df
    i =
    x_2.c.df
    i) ∧
    True) ∧
    ((33 :
    Nat) =
    (33 :
    Nat) ∧
    (45 :
    Nat) =
    (45 :
    Nat) ∧
    x_2.W.length.le
    x_1.W.length ∧
    ∀
    (i :
    Nat),
    i <
    x_2.W.length →
    AV.agg
    [AV.pl
    (Value.string
    (brAt
    x_1.W
    i).name),
    AV.iarr
    IntKind.u8
    (32 :
    Nat)
    (brAt
    x_1.W
    i).id] =
    AV.agg
    [AV.pl
    (Value.string
    (brAt
    x_2.W
    i).name),
    AV.iarr
    IntKind.u8
    (32 :
    Nat)
    (brAt
    x_2.W
    i).id]) ∧
    ((33 :
    Nat) =
    (33 :
    Nat) ∧
    (45 :
    Nat) =
    (45 :
    Nat) ∧
    x_2.N.length.le
    x_1.N.length ∧
    ∀
    (i :
    Nat),
    i <
    x_2.N.length →
    AV.agg
    [AV.pl
    (Value.string
    (brAt
    x_1.N
    i).name),
    AV.iarr
    IntKind.u8
    (32 :
    Nat)
    (brAt
    x_1.N
    i).id] =
    AV.agg
    [AV.pl
    (Value.string
    (brAt
    x_2.N
    i).name),
    AV.iarr
    IntKind.u8
    (32 :
    Nat)
    (brAt
    x_2.N
    i).id]) ∧
    ((33 :
    Nat) =
    (33 :
    Nat) ∧
    (45 :
    Nat) =
    (45 :
    Nat) ∧
    x_2.D.length.le
    x_1.D.length ∧
    ∀
    (i :
    Nat),
    i <
    x_2.D.length →
    AV.agg
    [AV.pl
    (Value.string
    (brAt
    x_1.D
    i).name),
    AV.iarr
    IntKind.u8
    (32 :
    Nat)
    (brAt
    x_1.D
    i).id] =
    AV.agg
    [AV.pl
    (Value.string
    (brAt
    x_2.D
    i).name),
    AV.iarr
    IntKind.u8
    (32 :
    Nat)
    (brAt
    x_2.D
    i).id]) ∧
    ((33 :
    Nat) =
    (33 :
    Nat) ∧
    (45 :
    Nat) =
    (45 :
    Nat) ∧
    x_2.V.length.le
    (fitsRL
    L
    c
    a).length ∧
    ∀
    (i :
    Nat),
    i <
    x_2.V.length →
    AV.agg
    [AV.pl
    (Value.string
    (brAt
    (fitsRL
    L
    c
    a)
    i).name),
    AV.iarr
    IntKind.u8
    (32 :
    Nat)
    (brAt
    (fitsRL
    L
    c
    a)
    i).id] =
    AV.agg
    [AV.pl
    (Value.string
    (brAt
    x_2.V
    i).name),
    AV.iarr
    IntKind.u8
    (32 :
    Nat)
    (brAt
    x_2.V
    i).id]) ∧
    True) ∧
    inv2
    x
    x_2)) ∧
    ∀
    (x_2 :
    Q3),
    inv2
    x
    x_2 →
    ((gEq
    (!x_2.ok ==
    x_2.is)
    false =
    true →
    (((0 :
    Nat) +
    x_2.N.length).le
    x_2.N.length ∧
    ((0 :
    Nat) +
    x_2.V.length).le
    x_2.V.length ∧
    True) ∧
    ∃
    (L
    :
    List
    Br),
    ∃
    (M
    :
    List
    Br),
    IsBrs
    (AV.rows
    (33 :
    Nat)
    x_2.N.length
    fun
    (i :
    Nat) =>
    AV.agg
    [AV.pl
    (Value.string
    (brAt
    x_2.N
    ((0 :
    Nat) +
    i)).name),
    AV.iarr
    IntKind.u8
    (32 :
    Nat)
    (brAt
    x_2.N
    ((0 :
    Nat) +
    i)).id])
    L ∧
    IsBrs
    (AV.rows
    (33 :
    Nat)
    x_2.V.length
    fun
    (i :
    Nat) =>
    AV.agg
    [AV.pl
    (Value.string
    (brAt
    x_2.V
    ((0 :
    Nat) +
    i)).name),
    AV.iarr
    IntKind.u8
    (32 :
    Nat)
    (brAt
    x_2.V
    ((0 :
    Nat) +
    i)).id])
    M ∧
    True ∧
    True ∧
    true =
    true ∧
    (gEq
    (bif
    false then
    true
    else
    !brsEq
    L
    M)
    false =
    true →
    (((0 :
    Nat) +
    x_2.W.length).le
    x_2.W.length ∧
    (True ∧
    True ∧
    True ∧
    True ∧
    True ∧
    True ∧
    True ∧
    True) ∧
    True) ∧
    ∃
    (L
    :
    List
    Br),
    ∃
    (c
    :
    Cmd),
    IsBrs
    (AV.rows
    (33 :
    Nat)
    x_2.W.length
    fun
    (i :
    Nat) =>
    AV.agg
    [AV.pl
    (Value.string
    (brAt
    x_2.W
    ((0 :
    Nat) +
    i)).name),
    AV.iarr
    IntKind.u8
    (32 :
    Nat)
    (brAt
    x_2.W
    ((0 :
    Nat) +
    i)).id])
    L ∧
    IsCmd
    (AV.agg
    [AV.pl
    (Value.int
    IntKind.i64
    x_2.c.kind),
    AV.pl
    (Value.int
    IntKind.i64
    x_2.c.client),
    AV.pl
    (Value.int
    IntKind.u32
    x_2.c.seq),
    AV.pl
    (Value.string
    x_2.c.branch),
    AV.iarr
    IntKind.u8
    (32 :
    Nat)
    x_2.c.old,
    AV.iarr
    IntKind.u8
    (32 :
    Nat)
    x_2.c.new,
    AV.rows
    (1 :
    Nat)
    x_2.c.dn
    x_2.c.df])
    c ∧
    Bd
    L ∧
    True ∧
    ((∀
    (i :
    Nat),
    i <
    (DoesR
    L
    c).length →
    flatB
    (brsF
    (DoesR
    L
    c)
    i) =
    true) ∧
    True) ∧
    (((0 :
    Nat) +
    x_2.D.length).le
    x_2.D.length ∧
    ((0 :
    Nat) +
    (DoesR
    L
    c).length).le
    (DoesR
    L
    c).length ∧
    True) ∧
    ∃
    (L_5
    :
    List
    Br),
    ∃
    (M
    :
    List
    Br),
    IsBrs
    (AV.rows
    (33 :
    Nat)
    x_2.D.length
    fun
    (i :
    Nat) =>
    AV.agg
    [AV.pl
    (Value.string
    (brAt
    x_2.D
    ((0 :
    Nat) +
    i)).name),
    AV.iarr
    IntKind.u8
    (32 :
    Nat)
    (brAt
    x_2.D
    ((0 :
    Nat) +
    i)).id])
    L_5 ∧
    IsBrs
    (AV.rows
    (33 :
    Nat)
    (DoesR
    L
    c).length
    fun
    (i :
    Nat) =>
    AV.agg
    [AV.pl
    (Value.string
    (brAt
    (DoesR
    L
    c)
    ((0 :
    Nat) +
    i)).name),
    AV.iarr
    IntKind.u8
    (32 :
    Nat)
    (brAt
    (DoesR
    L
    c)
    ((0 :
    Nat) +
    i)).id])
    M ∧
    True ∧
    True ∧
    true =
    true ∧
    ((bif
    false then
    true
    else
    !brsEq
    L_5
    M) =
    true →
    (True ∧
    True) ∧
    True ∧
    R
    (AV.pl
    (Value.bool
    false))
    []) ∧
    ((bif
    false then
    true
    else
    !brsEq
    L_5
    M) =
    false →
    ∃
    (x_3
    :
    Q3),
    ((True ∧
    (0 :
    Nat) =
    (0 :
    Nat) ∧
    x.snd.length =
    x.snd.length) ∧
    (True ∧
    (0 :
    Nat) =
    (0 :
    Nat) ∧
    x_2.W.length =
    x_3.W.length) ∧
    (True ∧
    (0 :
    Nat) =
    (0 :
    Nat) ∧
    x_2.N.length =
    x_3.N.length) ∧
    (True ∧
    (0 :
    Nat) =
    (0 :
    Nat) ∧
    x_2.D.length =
    x_3.D.length) ∧
    (True ∧
    (0 :
    Nat) =
    (0 :
    Nat) ∧
    x_2.V.length =
    x_3.V.length) ∧
    x_2.is =
    x_3.is ∧
    ((102 :
    Nat) =
    (102 :
    Nat) ∧
    X.length =
    X.length ∧
    ∀
    (i :
    Nat),
    i <
    X.length →
    rwF
    X
    i =
    rwF
    X
    i) ∧
    (↑X.length :
    Int) =
    (↑X.length :
    Int) ∧
    (↑x.fst :
    Int) =
    (↑x.fst :
    Int) ∧
    True) ∧
    (((33 :
    Nat) =
    (33 :
    Nat) ∧
    (45 :
    Nat) =
    (45 :
    Nat) ∧
    x.snd.length.le
    x.snd.length ∧
    ∀
    (i :
    Nat),
    i <
    x.snd.length →
    brsF
    x.snd
    i =
    brsF
    x.snd
    i) ∧
    ((33 :
    Nat) =
    (33 :
    Nat) ∧
    (45 :
    Nat) =
    (45 :
    Nat) ∧
    x_3.W.length.le
    x_2.W.length ∧
    ∀
    (i :
    Nat),
    i <
    x_3.W.length →
    AV.agg
    [AV.pl
    (Value.string
    (brAt
    x_2.W
    i).name),
    AV.iarr
    IntKind.u8
    (32 :
    Nat)
    (brAt
    x_2.W
    i).id] =
    AV.agg
    [AV.pl
    (Value.string
    (brAt
    x_3.W
    i).name),
    AV.iarr
    IntKind.u8
    (32 :
    Nat)
    (brAt
    x_3.W
    i).id]) ∧
    ((33 :
    Nat) =
    (33 :
    Nat) ∧
    (45 :
    Nat) =
    (45 :
    Nat) ∧
    x_3.N.length.le
    x_2.N.length ∧
    ∀
    (i :
    Nat),
    i <
    x_3.N.length →
    AV.agg
    [AV.pl
    (Value.string
    (brAt
    x_2.N
    i).name),
    AV.iarr
    IntKind.u8
    (32 :
    Nat)
    (brAt
    x_2.N
    i).id] =
    AV.agg
    [AV.pl
    (Value.string
    (brAt
    x_3.N
    i).name),
    AV.iarr
    IntKind.u8
    (32 :
    Nat)
    (brAt
    x_3.N
    i).id]) ∧
    ((33 :
    Nat) =
    (33 :
    Nat) ∧
    (45 :
    Nat) =
    (45 :
    Nat) ∧
    x_3.D.length.le
    x_2.D.length ∧
    ∀
    (i :
    Nat),
    i <
    x_3.D.length →
    AV.agg
    [AV.pl
    (Value.string
    (brAt
    x_2.D
    i).name),
    AV.iarr
    IntKind.u8
    (32 :
    Nat)
    (brAt
    x_2.D
    i).id] =
    AV.agg
    [AV.pl
    (Value.string
    (brAt
    x_3.D
    i).name),
    AV.iarr
    IntKind.u8
    (32 :
    Nat)
    (brAt
    x_3.D
    i).id]) ∧
    ((33 :
    Nat) =
    (33 :
    Nat) ∧
    (45 :
    Nat) =
    (45 :
    Nat) ∧
    x_3.V.length.le
    x_2.V.length ∧
    ∀
    (i :
    Nat),
    i <
    x_3.V.length →
    AV.agg
    [AV.pl
    (Value.string
    (brAt
    x_2.V
    i).name),
    AV.iarr
    IntKind.u8
    (32 :
    Nat)
    (brAt
    x_2.V
    i).id] =
    AV.agg
    [AV.pl
    (Value.string
    (brAt
    x_3.V
    i).name),
    AV.iarr
    IntKind.u8
    (32 :
    Nat)
    (brAt
    x_3.V
    i).id]) ∧
    True) ∧
    inv3
    x
    x_3)) ∧
    (gEq
    (bif
    false then
    true
    else
    !brsEq
    L
    M)
    false =
    false →
    true =
    true ∧
    (true =
    true →
    (True ∧
    True) ∧
    True ∧
    R
    (AV.pl
    (Value.bool
    false))
    []) ∧
    (true =
    false →
    ∃
    (x_3
    :
    Q3),
    ((True ∧
    (0 :
    Nat) =
    (0 :
    Nat) ∧
    x.snd.length =
    x.snd.length) ∧
    (True ∧
    (0 :
    Nat) =
    (0 :
    Nat) ∧
    x_2.W.length =
    x_3.W.length) ∧
    (True ∧
    (0 :
    Nat) =
    (0 :
    Nat) ∧
    x_2.N.length =
    x_3.N.length) ∧
    (True ∧
    (0 :
    Nat) =
    (0 :
    Nat) ∧
    x_2.D.length =
    x_3.D.length) ∧
    (True ∧
    (0 :
    Nat) =
    (0 :
    Nat) ∧
    x_2.V.length =
    x_3.V.length) ∧
    x_2.is =
    x_3.is ∧
    ((102 :
    Nat) =
    (102 :
    Nat) ∧
    X.length =
    X.length ∧
    ∀
    (i :
    Nat),
    i <
    X.length →
    rwF
    X
    i =
    rwF
    X
    i) ∧
    (↑X.length :
    Int) =
    (↑X.length :
    Int) ∧
    (↑x.fst :
    Int) =
    (↑x.fst :
    Int) ∧
    True) ∧
    (((33 :
    Nat) =
    (33 :
    Nat) ∧
    (45 :
    Nat) =
    (45 :
    Nat) ∧
    x.snd.length.le
    x.snd.length ∧
    ∀
    (i :
    Nat),
    i <
    x.snd.length →
    brsF
    x.snd
    i =
    brsF
    x.snd
    i) ∧
    ((33 :
    Nat) =
    (33 :
    Nat) ∧
    (45 :
    Nat) =
    (45 :
    Nat) ∧
    x_3.W.length.le
    x_2.W.length ∧
    ∀
    (i :
    Nat),
    i <
    x_3.W.length →
    AV.agg
    [AV.pl
    (Value.string
    (brAt
    x_2.W
    i).name),
    AV.iarr
    IntKind.u8
    (32 :
    Nat)
    (brAt
    x_2.W
    i).id] =
    AV.agg
    [AV.pl
    (Value.string
    (brAt
    x_3.W
    i).name),
    AV.iarr
    IntKind.u8
    (32 :
    Nat)
    (brAt
    x_3.W
    i).id]) ∧
    ((33 :
    Nat) =
    (33 :
    Nat) ∧
    (45 :
    Nat) =
    (45 :
    Nat) ∧
    x_3.N.length.le
    x_2.N.length ∧
    ∀
    (i :
    Nat),
    i <
    x_3.N.length →
    AV.agg
    [AV.pl
    (Value.string
    (brAt
    x_2.N
    i).name),
    AV.iarr
    IntKind.u8
    (32 :
    Nat)
    (brAt
    x_2.N
    i).id] =
    AV.agg
    [AV.pl
    (Value.string
    (brAt
    x_3.N
    i).name),
    AV.iarr
    IntKind.u8
    (32 :
    Nat)
    (brAt
    x_3.N
    i).id]) ∧
    ((33 :
    Nat) =
    (33 :
    Nat) ∧
    (45 :
    Nat) =
    (45 :
    Nat) ∧
    x_3.D.length.le
    x_2.D.length ∧
    ∀
    (i :
    Nat),
    i <
    x_3.D.length →
    AV.agg
    [AV.pl
    (Value.string
    (brAt
    x_2.D
    i).name),
    AV.iarr
    IntKind.u8
    (32 :
    Nat)
    (brAt
    x_2.D
    i).id] =
    AV.agg
    [AV.pl
    (Value.string
    (brAt
    x_3.D
    i).name),
    AV.iarr
    IntKind.u8
    (32 :
    Nat)
    (brAt
    x_3.D
    i).id]) ∧
    ((33 :
    Nat) =
    (33 :
    Nat) ∧
    (45 :
    Nat) =
    (45 :
    Nat) ∧
    x_3.V.length.le
    x_2.V.length ∧
    ∀
    (i :
    Nat),
    i <
    x_3.V.length →
    AV.agg
    [AV.pl
    (Value.string
    (brAt
    x_2.V
    i).name),
    AV.iarr
    IntKind.u8
    (32 :
    Nat)
    (brAt
    x_2.V
    i).id] =
    AV.agg
    [AV.pl
    (Value.string
    (brAt
    x_3.V
    i).name),
    AV.iarr
    IntKind.u8
    (32 :
    Nat)
    (brAt
    x_3.V
    i).id]) ∧
    True) ∧
    inv3
    x
    x_3))) ∧
    (gEq
    (!x_2.ok ==
    x_2.is)
    false =
    false →
    true =
    true ∧
    (gEq
    true
    false =
    true →
    (((0 :
    Nat) +
    x_2.W.length).le
    x_2.W.length ∧
    (True ∧
    True ∧
    True ∧
    True ∧
    True ∧
    True ∧
    True ∧
    True) ∧
    True) ∧
    ∃
    (L
    :
    List
    Br),
    ∃
    (c
    :
    Cmd),
    IsBrs
    (AV.rows
    (33 :
    Nat)
    x_2.W.length
    fun
    (i :
    Nat) =>
    AV.agg
    [AV.pl
    (Value.string
    (brAt
    x_2.W
    ((0 :
    Nat) +
    i)).name),
    AV.iarr
    IntKind.u8
    (32 :
    Nat)
    (brAt
    x_2.W
    ((0 :
    Nat) +
    i)).id])
    L ∧
    IsCmd
    (AV.agg
    [AV.pl
    (Value.int
    IntKind.i64
    x_2.c.kind),
    AV.pl
    (Value.int
    IntKind.i64
    x_2.c.client),
    AV.pl
    (Value.int
    IntKind.u32
    x_2.c.seq),
    AV.pl
    (Value.string
    x_2.c.branch),
    AV.iarr
    IntKind.u8
    (32 :
    Nat)
    x_2.c.old,
    AV.iarr
    IntKind.u8
    (32 :
    Nat)
    x_2.c.new,
    AV.rows
    (1 :
    Nat)
    x_2.c.dn
    x_2.c.df])
    c ∧
    Bd
    L ∧
    True ∧
    ((∀
    (i :
    Nat),
    i <
    (DoesR
    L
    c).length →
    flatB
    (brsF
    (DoesR
    L
    c)
    i) =
    true) ∧
    True) ∧
    (((0 :
    Nat) +
    x_2.D.length).le
    x_2.D.length ∧
    ((0 :
    Nat) +
    (DoesR
    L
    c).length).le
    (DoesR
    L
    c).length ∧
    True) ∧
    ∃
    (L_5
    :
    List
    Br),
    ∃
    (M
    :
    List
    Br),
    IsBrs
    (AV.rows
    (33 :
    Nat)
    x_2.D.length
    fun
    (i :
    Nat) =>
    AV.agg
    [AV.pl
    (Value.string
    (brAt
    x_2.D
    ((0 :
    Nat) +
    i)).name),
    AV.iarr
    IntKind.u8
    (32 :
    Nat)
    (brAt
    x_2.D
    ((0 :
    Nat) +
    i)).id])
    L_5 ∧
    IsBrs
    (AV.rows
    (33 :
    Nat)
    (DoesR
    L
    c).length
    fun
    (i :
    Nat) =>
    AV.agg
    [AV.pl
    (Value.string
    (brAt
    (DoesR
    L
    c)
    ((0 :
    Nat) +
    i)).name),
    AV.iarr
    IntKind.u8
    (32 :
    Nat)
    (brAt
    (DoesR
    L
    c)
    ((0 :
    Nat) +
    i)).id])
    M ∧
    True ∧
    True ∧
    true =
    true ∧
    ((bif
    false then
    true
    else
    !brsEq
    L_5
    M) =
    true →
    (True ∧
    True) ∧
    True ∧
    R
    (AV.pl
    (Value.bool
    false))
    []) ∧
    ((bif
    false then
    true
    else
    !brsEq
    L_5
    M) =
    false →
    ∃
    (x_3
    :
    Q3),
    ((True ∧
    (0 :
    Nat) =
    (0 :
    Nat) ∧
    x.snd.length =
    x.snd.length) ∧
    (True ∧
    (0 :
    Nat) =
    (0 :
    Nat) ∧
    x_2.W.length =
    x_3.W.length) ∧
    (True ∧
    (0 :
    Nat) =
    (0 :
    Nat) ∧
    x_2.N.length =
    x_3.N.length) ∧
    (True ∧
    (0 :
    Nat) =
    (0 :
    Nat) ∧
    x_2.D.length =
    x_3.D.length) ∧
    (True ∧
    (0 :
    Nat) =
    (0 :
    Nat) ∧
    x_2.V.length =
    x_3.V.length) ∧
    x_2.is =
    x_3.is ∧
    ((102 :
    Nat) =
    (102 :
    Nat) ∧
    X.length =
    X.length ∧
    ∀
    (i :
    Nat),
    i <
    X.length →
    rwF
    X
    i =
    rwF
    X
    i) ∧
    (↑X.length :
    Int) =
    (↑X.length :
    Int) ∧
    (↑x.fst :
    Int) =
    (↑x.fst :
    Int) ∧
    True) ∧
    (((33 :
    Nat) =
    (33 :
    Nat) ∧
    (45 :
    Nat) =
    (45 :
    Nat) ∧
    x.snd.length.le
    x.snd.length ∧
    ∀
    (i :
    Nat),
    i <
    x.snd.length →
    brsF
    x.snd
    i =
    brsF
    x.snd
    i) ∧
    ((33 :
    Nat) =
    (33 :
    Nat) ∧
    (45 :
    Nat) =
    (45 :
    Nat) ∧
    x_3.W.length.le
    x_2.W.length ∧
    ∀
    (i :
    Nat),
    i <
    x_3.W.length →
    AV.agg
    [AV.pl
    (Value.string
    (brAt
    x_2.W
    i).name),
    AV.iarr
    IntKind.u8
    (32 :
    Nat)
    (brAt
    x_2.W
    i).id] =
    AV.agg
    [AV.pl
    (Value.string
    (brAt
    x_3.W
    i).name),
    AV.iarr
    IntKind.u8
    (32 :
    Nat)
    (brAt
    x_3.W
    i).id]) ∧
    ((33 :
    Nat) =
    (33 :
    Nat) ∧
    (45 :
    Nat) =
    (45 :
    Nat) ∧
    x_3.N.length.le
    x_2.N.length ∧
    ∀
    (i :
    Nat),
    i <
    x_3.N.length →
    AV.agg
    [AV.pl
    (Value.string
    (brAt
    x_2.N
    i).name),
    AV.iarr
    IntKind.u8
    (32 :
    Nat)
    (brAt
    x_2.N
    i).id] =
    AV.agg
    [AV.pl
    (Value.string
    (brAt
    x_3.N
    i).name),
    AV.iarr
    IntKind.u8
    (32 :
    Nat)
    (brAt
    x_3.N
    i).id]) ∧
    ((33 :
    Nat) =
    (33 :
    Nat) ∧
    (45 :
    Nat) =
    (45 :
    Nat) ∧
    x_3.D.length.le
    x_2.D.length ∧
    ∀
    (i :
    Nat),
    i <
    x_3.D.length →
    AV.agg
    [AV.pl
    (Value.string
    (brAt
    x_2.D
    i).name),
    AV.iarr
    IntKind.u8
    (32 :
    Nat)
    (brAt
    x_2.D
    i).id] =
    AV.agg
    [AV.pl
    (Value.string
    (brAt
    x_3.D
    i).name),
    AV.iarr
    IntKind.u8
    (32 :
    Nat)
    (brAt
    x_3.D
    i).id]) ∧
    ((33 :
    Nat) =
    (33 :
    Nat) ∧
    (45 :
    Nat) =
    (45 :
    Nat) ∧
    x_3.V.length.le
    x_2.V.length ∧
    ∀
    (i :
    Nat),
    i <
    x_3.V.length →
    AV.agg
    [AV.pl
    (Value.string
    (brAt
    x_2.V
    i).name),
    AV.iarr
    IntKind.u8
    (32 :
    Nat)
    (brAt
    x_2.V
    i).id] =
    AV.agg
    [AV.pl
    (Value.string
    (brAt
    x_3.V
    i).name),
    AV.iarr
    IntKind.u8
    (32 :
    Nat)
    (brAt
    x_3.V
    i).id]) ∧
    True) ∧
    inv3
    x
    x_3)) ∧
    (gEq
    true
    false =
    false →
    true =
    true ∧
    (true =
    true →
    (True ∧
    True) ∧
    True ∧
    R
    (AV.pl
    (Value.bool
    false))
    []) ∧
    (true =
    false →
    ∃
    (x_3
    :
    Q3),
    ((True ∧
    (0 :
    Nat) =
    (0 :
    Nat) ∧
    x.snd.length =
    x.snd.length) ∧
    (True ∧
    (0 :
    Nat) =
    (0 :
    Nat) ∧
    x_2.W.length =
    x_3.W.length) ∧
    (True ∧
    (0 :
    Nat) =
    (0 :
    Nat) ∧
    x_2.N.length =
    x_3.N.length) ∧
    (True ∧
    (0 :
    Nat) =
    (0 :
    Nat) ∧
    x_2.D.length =
    x_3.D.length) ∧
    (True ∧
    (0 :
    Nat) =
    (0 :
    Nat) ∧
    x_2.V.length =
    x_3.V.length) ∧
    x_2.is =
    x_3.is ∧
    ((102 :
    Nat) =
    (102 :
    Nat) ∧
    X.length =
    X.length ∧
    ∀
    (i :
    Nat),
    i <
    X.length →
    rwF
    X
    i =
    rwF
    X
    i) ∧
    (↑X.length :
    Int) =
    (↑X.length :
    Int) ∧
    (↑x.fst :
    Int) =
    (↑x.fst :
    Int) ∧
    True) ∧
    (((33 :
    Nat) =
    (33 :
    Nat) ∧
    (45 :
    Nat) =
    (45 :
    Nat) ∧
    x.snd.length.le
    x.snd.length ∧
    ∀
    (i :
    Nat),
    i <
    x.snd.length →
    brsF
    x.snd
    i =
    brsF
    x.snd
    i) ∧
    ((33 :
    Nat) =
    (33 :
    Nat) ∧
    (45 :
    Nat) =
    (45 :
    Nat) ∧
    x_3.W.length.le
    x_2.W.length ∧
    ∀
    (i :
    Nat),
    i <
    x_3.W.length →
    AV.agg
    [AV.pl
    (Value.string
    (brAt
    x_2.W
    i).name),
    AV.iarr
    IntKind.u8
    (32 :
    Nat)
    (brAt
    x_2.W
    i).id] =
    AV.agg
    [AV.pl
    (Value.string
    (brAt
    x_3.W
    i).name),
    AV.iarr
    IntKind.u8
    (32 :
    Nat)
    (brAt
    x_3.W
    i).id]) ∧
    ((33 :
    Nat) =
    (33 :
    Nat) ∧
    (45 :
    Nat) =
    (45 :
    Nat) ∧
    x_3.N.length.le
    x_2.N.length ∧
    ∀
    (i :
    Nat),
    i <
    x_3.N.length →
    AV.agg
    [AV.pl
    (Value.string
    (brAt
    x_2.N
    i).name),
    AV.iarr
    IntKind.u8
    (32 :
    Nat)
    (brAt
    x_2.N
    i).id] =
    AV.agg
    [AV.pl
    (Value.string
    (brAt
    x_3.N
    i).name),
    AV.iarr
    IntKind.u8
    (32 :
    Nat)
    (brAt
    x_3.N
    i).id]) ∧
    ((33 :
    Nat) =
    (33 :
    Nat) ∧
    (45 :
    Nat) =
    (45 :
    Nat) ∧
    x_3.D.length.le
    x_2.D.length ∧
    ∀
    (i :
    Nat),
    i <
    x_3.D.length →
    AV.agg
    [AV.pl
    (Value.string
    (brAt
    x_2.D
    i).name),
    AV.iarr
    IntKind.u8
    (32 :
    Nat)
    (brAt
    x_2.D
    i).id] =
    AV.agg
    [AV.pl
    (Value.string
    (brAt
    x_3.D
    i).name),
    AV.iarr
    IntKind.u8
    (32 :
    Nat)
    (brAt
    x_3.D
    i).id]) ∧
    ((33 :
    Nat) =
    (33 :
    Nat) ∧
    (45 :
    Nat) =
    (45 :
    Nat) ∧
    x_3.V.length.le
    x_2.V.length ∧
    ∀
    (i :
    Nat),
    i <
    x_3.V.length →
    AV.agg
    [AV.pl
    (Value.string
    (brAt
    x_2.V
    i).name),
    AV.iarr
    IntKind.u8
    (32 :
    Nat)
    (brAt
    x_2.V
    i).id] =
    AV.agg
    [AV.pl
    (Value.string
    (brAt
    x_3.V
    i).name),
    AV.iarr
    IntKind.u8
    (32 :
    Nat)
    (brAt
    x_3.V
    i).id]) ∧
    True) ∧
    inv3
    x
    x_3)))) ∧
    ∀
    (x_3 :
    Q3),
    inv3
    x
    x_3 →
    (∃
    (x_4
    :
    P3),
    ((True ∧
    (0 :
    Nat) =
    (0 :
    Nat) ∧
    x.snd.length =
    x.snd.length) ∧
    (True ∧
    (0 :
    Nat) =
    (0 :
    Nat) ∧
    x_3.W.length =
    x_3.W.length) ∧
    (True ∧
    (0 :
    Nat) =
    (0 :
    Nat) ∧
    x_3.N.length =
    x_4.N.length) ∧
    (True ∧
    (0 :
    Nat) =
    (0 :
    Nat) ∧
    x_3.D.length =
    x_4.D.length) ∧
    (True ∧
    (0 :
    Nat) =
    (0 :
    Nat) ∧
    x_3.V.length =
    x_3.V.length) ∧
    x_3.is =
    x_3.is ∧
    ((102 :
    Nat) =
    (102 :
    Nat) ∧
    X.length =
    X.length ∧
    ∀
    (i :
    Nat),
    i <
    X.length →
    rwF
    X
    i =
    rwF
    X
    i) ∧
    (↑X.length :
    Int) =
    (↑X.length :
    Int) ∧
    (↑x.fst :
    Int) =
    (↑x.fst :
    Int) ∧
    (↑x_3.N.length :
    Int) =
    (↑x_4.N.length :
    Int) ∧
    (0 :
    Int) =
    (↑x_4.k :
    Int) ∧
    True) ∧
    (((33 :
    Nat) =
    (33 :
    Nat) ∧
    (45 :
    Nat) =
    (45 :
    Nat) ∧
    x.snd.length.le
    x.snd.length ∧
    ∀
    (i :
    Nat),
    i <
    x.snd.length →
    brsF
    x.snd
    i =
    brsF
    x.snd
    i) ∧
    ((33 :
    Nat) =
    (33 :
    Nat) ∧
    (45 :
    Nat) =
    (45 :
    Nat) ∧
    x_3.W.length.le
    x_3.W.length ∧
    ∀
    (i :
    Nat),
    i <
    x_3.W.length →
    brsF
    x_3.W
    i =
    brsF
    x_3.W
    i) ∧
    ((33 :
    Nat) =
    (33 :
    Nat) ∧
    (45 :
    Nat) =
    (45 :
    Nat) ∧
    x_4.N.length.le
    x_3.N.length ∧
    ∀
    (i :
    Nat),
    i <
    x_4.N.length →
    AV.agg
    [AV.pl
    (Value.string
    (brAt
    x_3.N
    i).name),
    AV.iarr
    IntKind.u8
    (32 :
    Nat)
    (brAt
    x_3.N
    i).id] =
    AV.agg
    [AV.pl
    (Value.string
    (brAt
    x_4.N
    i).name),
    AV.iarr
    IntKind.u8
    (32 :
    Nat)
    (brAt
    x_4.N
    i).id]) ∧
    ((33 :
    Nat) =
    (33 :
    Nat) ∧
    (45 :
    Nat) =
    (45 :
    Nat) ∧
    x_4.D.length.le
    x_3.D.length ∧
    ∀
    (i :
    Nat),
    i <
    x_4.D.length →
    AV.agg
    [AV.pl
    (Value.string
    (brAt
    x_3.D
    i).name),
    AV.iarr
    IntKind.u8
    (32 :
    Nat)
    (brAt
    x_3.D
    i).id] =
    AV.agg
    [AV.pl
    (Value.string
    (brAt
    x_4.D
    i).name),
    AV.iarr
    IntKind.u8
    (32 :
    Nat)
    (brAt
    x_4.D
    i).id]) ∧
    ((33 :
    Nat) =
    (33 :
    Nat) ∧
    (45 :
    Nat) =
    (45 :
    Nat) ∧
    x_3.V.length.le
    x_3.V.length ∧
    ∀
    (i :
    Nat),
    i <
    x_3.V.length →
    brsF
    x_3.V
    i =
    brsF
    x_3.V
    i) ∧
    True) ∧
    inv4
    x
    x_3
    x_4) ∧
    ∀
    (x_4 :
    P3),
    inv4
    x
    x_3
    x_4 →
    (decide
    ((↑x_4.k :
    Int) <
    (↑x_4.N.length :
    Int)) =
    true →
    ((0 :
    Int) ≤
    (↑x_4.k :
    Int) ∧
    (↑x_4.k :
    Int) +
    (1 :
    Int) ≤
    (↑x_4.N.length :
    Int)) ∧
    (((0 :
    Nat) +
    (↑x_4.k :
    Int).toNat).succ.le
    x_4.N.length ∧
    True) ∧
    ∃
    (y
    :
    P3),
    ((True ∧
    (0 :
    Nat) =
    (0 :
    Nat) ∧
    x.snd.length =
    x.snd.length) ∧
    (True ∧
    (0 :
    Nat) =
    (0 :
    Nat) ∧
    x_3.W.length =
    x_3.W.length) ∧
    (True ∧
    (0 :
    Nat) =
    (0 :
    Nat) ∧
    x_4.N.length =
    y.N.length) ∧
    (True ∧
    (0 :
    Nat) =
    (0 :
    Nat) ∧
    x_4.D.length =
    y.D.length) ∧
    (True ∧
    (0 :
    Nat) =
    (0 :
    Nat) ∧
    x_3.V.length =
    x_3.V.length) ∧
    x_3.is =
    x_3.is ∧
    ((102 :
    Nat) =
    (102 :
    Nat) ∧
    X.length =
    X.length ∧
    ∀
    (i :
    Nat),
    i <
    X.length →
    rwF
    X
    i =
    rwF
    X
    i) ∧
    (↑X.length :
    Int) =
    (↑X.length :
    Int) ∧
    (↑x.fst :
    Int) =
    (↑x.fst :
    Int) ∧
    (↑x_4.N.length :
    Int) =
    (↑y.N.length :
    Int) ∧
    IntKind.i64.wrap
    ((↑x_4.k :
    Int) +
    (1 :
    Int)) =
    (↑y.k :
    Int) ∧
    True) ∧
    (((33 :
    Nat) =
    (33 :
    Nat) ∧
    (45 :
    Nat) =
    (45 :
    Nat) ∧
    x.snd.length.le
    x.snd.length ∧
    ∀
    (i :
    Nat),
    i <
    x.snd.length →
    brsF
    x.snd
    i =
    brsF
    x.snd
    i) ∧
    ((33 :
    Nat) =
    (33 :
    Nat) ∧
    (45 :
    Nat) =
    (45 :
    Nat) ∧
    x_3.W.length.le
    x_3.W.length ∧
    ∀
    (i :
    Nat),
    i <
    x_3.W.length →
    brsF
    x_3.W
    i =
    brsF
    x_3.W
    i) ∧
    ((33 :
    Nat) =
    (33 :
    Nat) ∧
    (45 :
    Nat) =
    (45 :
    Nat) ∧
    y.N.length.le
    x_4.N.length ∧
    ∀
    (i :
    Nat),
    i <
    y.N.length →
    (if
    i =
    (0 :
    Nat) +
    (↑x_4.k :
    Int).toNat then
    AV.agg
    [AV.pl
    (Value.string
    (ByteArray.mk
    #[(63 :
    UInt8)])),
    AV.iarr
    IntKind.u8
    (32 :
    Nat)
    (brAt
    x_4.N
    ((0 :
    Nat) +
    (↑x_4.k :
    Int).toNat)).id]
    else
    AV.agg
    [AV.pl
    (Value.string
    (brAt
    x_4.N
    i).name),
    AV.iarr
    IntKind.u8
    (32 :
    Nat)
    (brAt
    x_4.N
    i).id]) =
    AV.agg
    [AV.pl
    (Value.string
    (brAt
    y.N
    i).name),
    AV.iarr
    IntKind.u8
    (32 :
    Nat)
    (brAt
    y.N
    i).id]) ∧
    ((33 :
    Nat) =
    (33 :
    Nat) ∧
    (45 :
    Nat) =
    (45 :
    Nat) ∧
    y.D.length.le
    x_4.D.length ∧
    ∀
    (i :
    Nat),
    i <
    y.D.length →
    AV.agg
    [AV.pl
    (Value.string
    (brAt
    x_4.D
    i).name),
    AV.iarr
    IntKind.u8
    (32 :
    Nat)
    (brAt
    x_4.D
    i).id] =
    AV.agg
    [AV.pl
    (Value.string
    (brAt
    y.D
    i).name),
    AV.iarr
    IntKind.u8
    (32 :
    Nat)
    (brAt
    y.D
    i).id]) ∧
    ((33 :
    Nat) =
    (33 :
    Nat) ∧
    (45 :
    Nat) =
    (45 :
    Nat) ∧
    x_3.V.length.le
    x_3.V.length ∧
    ∀
    (i :
    Nat),
    i <
    x_3.V.length →
    brsF
    x_3.V
    i =
    brsF
    x_3.V
    i) ∧
    True) ∧
    inv4
    x
    x_3
    y ∧
    (y.N.length -
    y.k).succ.le
    (x_4.N.length -
    x_4.k)) ∧
    (decide
    ((↑x_4.k :
    Int) <
    (↑x_4.N.length :
    Int)) =
    false →
    (∃
    (x_5
    :
    P3),
    ((True ∧
    (0 :
    Nat) =
    (0 :
    Nat) ∧
    x.snd.length =
    x.snd.length) ∧
    (True ∧
    (0 :
    Nat) =
    (0 :
    Nat) ∧
    x_3.W.length =
    x_3.W.length) ∧
    (True ∧
    (0 :
    Nat) =
    (0 :
    Nat) ∧
    x_4.D.length =
    x_5.D.length) ∧
    (True ∧
    (0 :
    Nat) =
    (0 :
    Nat) ∧
    x_3.V.length =
    x_3.V.length) ∧
    x_3.is =
    x_3.is ∧
    ((102 :
    Nat) =
    (102 :
    Nat) ∧
    X.length =
    X.length ∧
    ∀
    (i :
    Nat),
    i <
    X.length →
    rwF
    X
    i =
    rwF
    X
    i) ∧
    (↑X.length :
    Int) =
    (↑X.length :
    Int) ∧
    (↑x.fst :
    Int) =
    (↑x.fst :
    Int) ∧
    (↑x_4.D.length :
    Int) =
    (↑x_5.D.length :
    Int) ∧
    (0 :
    Int) =
    (↑x_5.k :
    Int) ∧
    True) ∧
    (((33 :
    Nat) =
    (33 :
    Nat) ∧
    (45 :
    Nat) =
    (45 :
    Nat) ∧
    x.snd.length.le
    x.snd.length ∧
    ∀
    (i :
    Nat),
    i <
    x.snd.length →
    brsF
    x.snd
    i =
    brsF
    x.snd
    i) ∧
    ((33 :
    Nat) =
    (33 :
    Nat) ∧
    (45 :
    Nat) =
    (45 :
    Nat) ∧
    x_3.W.length.le
    x_3.W.length ∧
    ∀
    (i :
    Nat),
    i <
    x_3.W.length →
    brsF
    x_3.W
    i =
    brsF
    x_3.W
    i) ∧
    ((33 :
    Nat) =
    (33 :
    Nat) ∧
    (45 :
    Nat) =
    (45 :
    Nat) ∧
    x_5.D.length.le
    x_4.D.length ∧
    ∀
    (i :
    Nat),
    i <
    x_5.D.length →
    AV.agg
    [AV.pl
    (Value.string
    (brAt
    x_4.D
    i).name),
    AV.iarr
    IntKind.u8
    (32 :
    Nat)
    (brAt
    x_4.D
    i).id] =
    AV.agg
    [AV.pl
    (Value.string
    (brAt
    x_5.D
    i).name),
    AV.iarr
    IntKind.u8
    (32 :
    Nat)
    (brAt
    x_5.D
    i).id]) ∧
    ((33 :
    Nat) =
    (33 :
    Nat) ∧
    (45 :
    Nat) =
    (45 :
    Nat) ∧
    x_3.V.length.le
    x_3.V.length ∧
    ∀
    (i :
    Nat),
    i <
    x_3.V.length →
    brsF
    x_3.V
    i =
    brsF
    x_3.V
    i) ∧
    True) ∧
    inv5
    x
    x_3
    x_5) ∧
    ∀
    (x_5 :
    P3),
    inv5
    x
    x_3
    x_5 →
    (decide
    ((↑x_5.k :
    Int) <
    (↑x_5.D.length :
    Int)) =
    true →
    ((0 :
    Int) ≤
    (↑x_5.k :
    Int) ∧
    (↑x_5.k :
    Int) +
    (1 :
    Int) ≤
    (↑x_5.D.length :
    Int)) ∧
    (((0 :
    Nat) +
    (↑x_5.k :
    Int).toNat).succ.le
    x_5.D.length ∧
    True) ∧
    ∃
    (y
    :
    P3),
    ((True ∧
    (0 :
    Nat) =
    (0 :
    Nat) ∧
    x.snd.length =
    x.snd.length) ∧
    (True ∧
    (0 :
    Nat) =
    (0 :
    Nat) ∧
    x_3.W.length =
    x_3.W.length) ∧
    (True ∧
    (0 :
    Nat) =
    (0 :
    Nat) ∧
    x_5.D.length =
    y.D.length) ∧
    (True ∧
    (0 :
    Nat) =
    (0 :
    Nat) ∧
    x_3.V.length =
    x_3.V.length) ∧
    x_3.is =
    x_3.is ∧
    ((102 :
    Nat) =
    (102 :
    Nat) ∧
    X.length =
    X.length ∧
    ∀
    (i :
    Nat),
    i <
    X.length →
    rwF
    X
    i =
    rwF
    X
    i) ∧
    (↑X.length :
    Int) =
    (↑X.length :
    Int) ∧
    (↑x.fst :
    Int) =
    (↑x.fst :
    Int) ∧
    (↑x_5.D.length :
    Int) =
    (↑y.D.length :
    Int) ∧
    IntKind.i64.wrap
    ((↑x_5.k :
    Int) +
    (1 :
    Int)) =
    (↑y.k :
    Int) ∧
    True) ∧
    (((33 :
    Nat) =
    (33 :
    Nat) ∧
    (45 :
    Nat) =
    (45 :
    Nat) ∧
    x.snd.length.le
    x.snd.length ∧
    ∀
    (i :
    Nat),
    i <
    x.snd.length →
    brsF
    x.snd
    i =
    brsF
    x.snd
    i) ∧
    ((33 :
    Nat) =
    (33 :
    Nat) ∧
    (45 :
    Nat) =
    (45 :
    Nat) ∧
    x_3.W.length.le
    x_3.W.length ∧
    ∀
    (i :
    Nat),
    i <
    x_3.W.length →
    brsF
    x_3.W
    i =
    brsF
    x_3.W
    i) ∧
    ((33 :
    Nat) =
    (33 :
    Nat) ∧
    (45 :
    Nat) =
    (45 :
    Nat) ∧
    y.D.length.le
    x_5.D.length ∧
    ∀
    (i :
    Nat),
    i <
    y.D.length →
    (if
    i =
    (0 :
    Nat) +
    (↑x_5.k :
    Int).toNat then
    AV.agg
    [AV.pl
    (Value.string
    (ByteArray.mk
    #[(63 :
    UInt8)])),
    AV.iarr
    IntKind.u8
    (32 :
    Nat)
    (brAt
    x_5.D
    ((0 :
    Nat) +
    (↑x_5.k :
    Int).toNat)).id]
    else
    AV.agg
    [AV.pl
    (Value.string
    (brAt
    x_5.D
    i).name),
    AV.iarr
    IntKind.u8
    (32 :
    Nat)
    (brAt
    x_5.D
    i).id]) =
    AV.agg
    [AV.pl
    (Value.string
    (brAt
    y.D
    i).name),
    AV.iarr
    IntKind.u8
    (32 :
    Nat)
    (brAt
    y.D
    i).id]) ∧
    ((33 :
    Nat) =
    (33 :
    Nat) ∧
    (45 :
    Nat) =
    (45 :
    Nat) ∧
    x_3.V.length.le
    x_3.V.length ∧
    ∀
    (i :
    Nat),
    i <
    x_3.V.length →
    brsF
    x_3.V
    i =
    brsF
    x_3.V
    i) ∧
    True) ∧
    inv5
    x
    x_3
    y ∧
    (y.D.length -
    y.k).succ.le
    (x_5.D.length -
    x_5.k)) ∧
    (decide
    ((↑x_5.k :
    Int) <
    (↑x_5.D.length :
    Int)) =
    false →
    (((0 :
    Nat) +
    x.snd.length).le
    x.snd.length ∧
    ((0 :
    Nat) +
    x_3.W.length).le
    x_3.W.length ∧
    True) ∧
    ∃
    (L
    :
    List
    Br),
    ∃
    (M
    :
    List
    Br),
    IsBrs
    (AV.rows
    (33 :
    Nat)
    x.snd.length
    fun
    (i :
    Nat) =>
    AV.agg
    [AV.pl
    (Value.string
    (brAt
    x.snd
    ((0 :
    Nat) +
    i)).name),
    AV.iarr
    IntKind.u8
    (32 :
    Nat)
    (brAt
    x.snd
    ((0 :
    Nat) +
    i)).id])
    L ∧
    IsBrs
    (AV.rows
    (33 :
    Nat)
    x_3.W.length
    fun
    (i :
    Nat) =>
    AV.agg
    [AV.pl
    (Value.string
    (brAt
    x_3.W
    ((0 :
    Nat) +
    i)).name),
    AV.iarr
    IntKind.u8
    (32 :
    Nat)
    (brAt
    x_3.W
    ((0 :
    Nat) +
    i)).id])
    M ∧
    True ∧
    True ∧
    ((!brsEq
    L
    M) =
    true →
    (True ∧
    True) ∧
    True ∧
    R
    (AV.pl
    (Value.bool
    false))
    []) ∧
    ((!brsEq
    L
    M) =
    false →
    (x_3.is =
    true →
    (((0 :
    Nat) +
    x_3.V.length).le
    x_3.V.length ∧
    True) ∧
    ∃
    (L
    :
    List
    Br),
    IsBrs
    (AV.rows
    (33 :
    Nat)
    x_3.V.length
    fun
    (i :
    Nat) =>
    AV.agg
    [AV.pl
    (Value.string
    (brAt
    x_3.V
    ((0 :
    Nat) +
    i)).name),
    AV.iarr
    IntKind.u8
    (32 :
    Nat)
    (brAt
    x_3.V
    ((0 :
    Nat) +
    i)).id])
    L ∧
    True ∧
    ((∀
    (i :
    Nat),
    i <
    (cutL
    L).length →
    flatB
    (brsF
    (cutL
    L)
    i) =
    true) ∧
    True) ∧
    ∃
    (y
    :
    Nat ×
    List
    Br),
    ((True ∧
    (0 :
    Nat) =
    (0 :
    Nat) ∧
    (cutL
    L).length =
    y.snd.length) ∧
    ((102 :
    Nat) =
    (102 :
    Nat) ∧
    X.length =
    X.length ∧
    ∀
    (i :
    Nat),
    i <
    X.length →
    rwF
    X
    i =
    rwF
    X
    i) ∧
    (↑X.length :
    Int) =
    (↑X.length :
    Int) ∧
    IntKind.i64.wrap
    ((↑x.fst :
    Int) +
    (1 :
    Int)) =
    (↑y.fst :
    Int) ∧
    True) ∧
    (((33 :
    Nat) =
    (33 :
    Nat) ∧
    (45 :
    Nat) =
    (45 :
    Nat) ∧
    y.snd.length.le
    (cutL
    L).length ∧
    ∀
    (i :
    Nat),
    i <
    y.snd.length →
    AV.agg
    [AV.pl
    (Value.string
    (brAt
    (cutL
    L)
    i).name),
    AV.iarr
    IntKind.u8
    (32 :
    Nat)
    (brAt
    (cutL
    L)
    i).id] =
    AV.agg
    [AV.pl
    (Value.string
    (brAt
    y.snd
    i).name),
    AV.iarr
    IntKind.u8
    (32 :
    Nat)
    (brAt
    y.snd
    i).id]) ∧
    True) ∧
    inv
    y ∧
    (X.length -
    y.fst).succ.le
    (X.length -
    x.fst)) ∧
    (x_3.is =
    false →
    ∃
    (y
    :
    Nat ×
    List
    Br),
    ((True ∧
    (0 :
    Nat) =
    (0 :
    Nat) ∧
    x.snd.length =
    y.snd.length) ∧
    ((102 :
    Nat) =
    (102 :
    Nat) ∧
    X.length =
    X.length ∧
    ∀
    (i :
    Nat),
    i <
    X.length →
    rwF
    X
    i =
    rwF
    X
    i) ∧
    (↑X.length :
    Int) =
    (↑X.length :
    Int) ∧
    IntKind.i64.wrap
    ((↑x.fst :
    Int) +
    (1 :
    Int)) =
    (↑y.fst :
    Int) ∧
    True) ∧
    (((33 :
    Nat) =
    (33 :
    Nat) ∧
    (45 :
    Nat) =
    (45 :
    Nat) ∧
    y.snd.length.le
    x.snd.length ∧
    ∀
    (i :
    Nat),
    i <
    y.snd.length →
    AV.agg
    [AV.pl
    (Value.string
    (brAt
    x.snd
    i).name),
    AV.iarr
    IntKind.u8
    (32 :
    Nat)
    (brAt
    x.snd
    i).id] =
    AV.agg
    [AV.pl
    (Value.string
    (brAt
    y.snd
    i).name),
    AV.iarr
    IntKind.u8
    (32 :
    Nat)
    (brAt
    y.snd
    i).id]) ∧
    True) ∧
    inv
    y ∧
    (X.length -
    y.fst).succ.le
    (X.length -
    x.fst)))))))) ∧
    (decide ((↑x.fst : Int) < (↑X.length : Int)) = false →
    (True ∧ True) ∧ True ∧ R (AV.pl (Value.bool true)) []))) := by kernel_rfl
theorem rowSet (M : List Br) (k : Nat) (hk : k < M.length) (q : ByteArray) (i : Nat) : (if i = 0 + k then AV.agg [AV.pl (Value.string q), AV.iarr IntKind.u8 32 (brAt M (0 + k)).id] else AV.agg [AV.pl (Value.string (brAt M i).name), AV.iarr IntKind.u8 32 (brAt M i).id]) = AV.agg [AV.pl (Value.string (brAt (M.set k ⟨q, (brAt M k).id⟩) i).name), AV.iarr IntKind.u8 32 (brAt (M.set k ⟨q, (brAt M k).id⟩) i).id] := by
  rw [Nat.zero_add]
  have : brAt (M.set k ⟨q, (brAt M k).id⟩) i = if i = k then ⟨q, (brAt M k).id⟩ else brAt M i := by
    unfold brAt
    simp only [List.getD_eq_getElem?_getD, List.getElem?_set]
    by_cases h : k = i
    · subst h; simp [hk]
    · rw [if_neg h, if_neg (Ne.symm h)]
  rw [this]
  split <;> rfl
theorem cutC_seq (c : Cmd) : (cutC c).seq = c.seq := rfl
theorem X3 : EntOk Try.prog 3 (.lend T3) := by
  refine ⟨enters_of (fn := Try.f3) rfl rfl (by kernel_rfl), fun args R h => ?_⟩
  unfold T3 at h
  split at h
  case h_2 => exact h.elim
  obtain ⟨L, X, hx, hy, hseq, h⟩ := h
  refine Spec.args (args' := [brs L, rws X]) ⟨hx, hy, trivial⟩ (Spec.given fun hg => mkS (v3 L X (fun p => p.1 ≤ X.length ∧ p.2.length ≤ 20 ∧ cutL p.2 = p.2)
    (fun p q => p.1 < X.length ∧ rightB p.2 = true ∧ checkB q.c = true ∧ q.W = p.2 ∧ q.N = FitsL p.2 q.c q.r.ans ∧ q.D = DoesL p.2 q.c ∧ q.ok = FitsB p.2 q.c q.r.ans)
    (fun p q => (p.1 < X.length ∧ rightB p.2 = true ∧ checkB q.c = true ∧ q.W = p.2 ∧ q.N = FitsL p.2 q.c q.r.ans ∧ q.D = DoesL p.2 q.c ∧ q.ok = FitsB p.2 q.c q.r.ans) ∧ q.is = fitsRB p.2 q.c q.r.ans ∧ q.V = bif q.is then fitsRL p.2 q.c q.r.ans else [])
    (fun p q => p.1 < X.length ∧ q.W = p.2 ∧ q.N.length ≤ 21 ∧ q.D.length ≤ 21) (fun p q r => p.1 < X.length ∧ r.k ≤ r.N.length ∧ r.N.length ≤ 21 ∧ r.D.length ≤ 21) (fun p q r => p.1 < X.length ∧ r.k ≤ r.D.length ∧ r.D.length ≤ 21) R) (tb (ac X6 (ac X7 (ac X8 (ac X9 (ac X10 (ac X11 (ac X12 (ac X13 (ac X14 (ac X15 az))))))))))) rfl rfl ?_)
  simp only [true_and, and_true, and_self, implies_true, forall_const, gEq_false, natle_iff, decide_eq_true_eq, decide_eq_false_iff_not, Int.toNat_natCast, cond_bt, Bool.cond_false, Bool.not_true, false_implies, implies_true, Bool.true_eq_false, Bool.false_eq_true, Bool.not_eq_true', Bool.not_eq_false']
  have hX : X.length ≤ 9223372036854775807 := by rw [← maxLen_eq]; exact hg.2.1
  have bsh : ∀ b : List Br, IsBrs (AV.rows 33 b.length fun i => AV.agg [AV.pl (Value.string (brAt b (0 + i)).name), AV.iarr IntKind.u8 32 (brAt b (0 + i)).id]) b := fun b => ⟨rfl, rfl, fun i _ => by dsimp only; rw [Nat.zero_add]; rfl⟩
  have c20 : ∀ M : List Br, (cutL M).length ≤ 20 := fun M => by simp [cutL]; omega
  have bd : ∀ M : List Br, M.length ≤ 20 → Bd M := fun M hM => by unfold Bd; omega
  refine ⟨L, isBrs_self L, ⟨(0, cutL L), ⟨rfl, rfl⟩, ⟨Nat.le_refl _, fun _ _ => rfl⟩, Nat.zero_le _, c20 L, cutL_twice L⟩, ?_⟩
  rintro ⟨i, M⟩ ⟨hi, hM, hcut⟩
  simp only at hi hM hcut ⊢
  refine ⟨fun hlt => ⟨⟨by omega, by omega⟩, fun _ => h, fun hne => ⟨(rwAt X i).cmd, isCmd_self _, by omega, M, bsh M, fun _ _ => rfl, by omega, M, cutC (rwAt X i).cmd, (rwAt X i).ans, bsh M, isCmd_self _, isAns_self _, bd M hM, fun _ _ => rfl, by omega, M, cutC (rwAt X i).cmd, bsh M, isCmd_self _, bd M hM, fun _ _ => rfl, ?_⟩⟩, fun _ => h⟩
  rw [hcut]
  have hlt' : i < X.length := by omega
  generalize hc : cutC (rwAt X i).cmd = c
  generalize ha : (rwAt X i).ans = a
  have hcs : 0 ≤ c.seq := by rw [← hc]; exact hseq i
  have next : ∃ y : Nat × List Br, (M.length = y.snd.length ∧ IntKind.i64.wrap ((i : Int) + 1) = (y.fst : Int)) ∧ (y.snd.length ≤ M.length ∧ ∀ j, j < y.snd.length → AV.agg [AV.pl (Value.string (brAt M j).name), AV.iarr IntKind.u8 32 (brAt M j).id] = AV.agg [AV.pl (Value.string (brAt y.snd j).name), AV.iarr IntKind.u8 32 (brAt y.snd j).id]) ∧ (y.fst ≤ X.length ∧ y.snd.length ≤ 20 ∧ cutL y.snd = y.snd) ∧ (X.length - y.fst).succ ≤ X.length - i :=
    ⟨(i + 1, M), ⟨rfl, by rw [wrap64] <;> omega⟩, ⟨Nat.le_refl _, fun _ _ => rfl⟩, ⟨by simp only; omega, hM, hcut⟩, by simp only; omega⟩
  have nofit : (rightB M && checkB c) = false → (FitsB M c a || IntKind.i64.wrap (((FitsL M c a).length : Int) + ((DoesL M c).length : Int)) != 0) = false := by
    intro hb
    have h1 : FitsB M c a = false := by rw [FitsB, hb, Bool.false_and]
    have h2 : DoesL M c = [] := by rw [DoesL, hb]; rfl
    rw [h1, h2, FitsL, h1]
    show (IntKind.i64.wrap ((0 : Int) + 0) != 0) = false
    decide
  refine ⟨⟨by omega, by omega⟩, M, M, bsh M, bsh M, fun hb => (by rw [brsEq_self] at hb; cases hb), fun _ => ⟨⟨by omega, M, bsh M, fun hr => ⟨c, by rw [← hc]; exact isCmd_self _, hcs, fun hk => ⟨fun hb => (by rw [nofit (by rw [hk, Bool.and_false])] at hb; cases hb), fun _ => next⟩,
      fun hk => ⟨⟨M, FitsL M c a, DoesL M c, [], FitsB M c a, false, c, rwAt X i⟩, ⟨rfl, rfl, rfl, rfl⟩, ⟨Nat.le_refl _, ⟨rfl, rfl, rfl, rfl, fun _ _ => rfl, fun _ _ => rfl, ⟨rfl, fun _ _ => rfl⟩, by simp only [ha], fun _ _ => by simp only [ha]⟩, ⟨rfl, rfl, rfl, rfl, fun _ _ => rfl, fun _ _ => rfl, rfl, fun _ _ => rfl⟩, ⟨Nat.le_refl _, fun _ _ => rfl⟩, ⟨Nat.le_refl _, fun _ _ => rfl⟩, Nat.le_refl _, fun _ _ => rfl⟩, hlt', hr, hk, rfl, by simp only [ha], rfl, by simp only [ha]⟩⟩,
      fun hr => ⟨fun hb => (by rw [nofit (by rw [hr, Bool.false_and])] at hb; cases hb), fun _ => next⟩⟩, ?_⟩⟩
  clear next nofit hc ha hcs c a
  rintro ⟨W, N, D, V0, ok, is0, c, r⟩ ⟨hl, hr, hk, hW, hN, hD, hok⟩
  simp only at hl hr hk hW hN hD hok ⊢
  subst hW
  refine ⟨by omega, W, c, r.ans, bsh W, isCmd_self c, isAns_self r.ans, bd W hM, fun _ _ => rfl, ⟨fun hf => ⟨⟨W, N, D, [], ok, false, c, r⟩, ⟨rfl, rfl, rfl, rfl, rfl, hf⟩, ⟨Nat.le_refl _, ⟨rfl, rfl, rfl, rfl, fun _ _ => rfl, fun _ _ => rfl, rfl, fun _ _ => rfl⟩, ⟨Nat.le_refl _, fun _ _ => rfl⟩, ⟨Nat.le_refl _, fun _ _ => rfl⟩, ⟨Nat.le_refl _, fun _ _ => rfl⟩, rfl⟩, ⟨hl, hr, hk, rfl, hN, hD, hok⟩, hf.symm, rfl⟩,
    fun hf => ⟨⟨W, N, D, fitsRL W c r.ans, ok, true, c, r⟩, ⟨rfl, rfl, rfl, rfl, rfl, hf⟩, ⟨Nat.le_refl _, ⟨rfl, rfl, rfl, rfl, fun _ _ => rfl, fun _ _ => rfl, rfl, fun _ _ => rfl⟩, ⟨Nat.le_refl _, fun _ _ => rfl⟩, ⟨Nat.le_refl _, fun _ _ => rfl⟩, ⟨Nat.le_refl _, fun _ _ => rfl⟩, Nat.le_refl _, fun _ _ => rfl⟩, ⟨hl, hr, hk, rfl, hN, hD, hok⟩, hf.symm, rfl⟩⟩, ?_⟩
  clear hN hD hok hk hr N D V0 ok is0 c r
  rintro ⟨W', N, D, V, ok, is, c, r⟩ ⟨⟨_, hr, hk, hW, hN, hD, hok⟩, his, hV⟩
  simp only at hr hk hW hN hD hok his hV ⊢
  subst hW
  have hs := right_sorted hr
  have e1 : fitsRB W' c r.ans = fitsB W' c r.ans := fitsRB_eq hr c r.ans
  have e2 : ok = is := by rw [hok, his, e1, FitsB, hr, hk]; rfl
  have e3 : N = V := by rw [hN, hV, FitsL, his, e1, fitsRL_eq hs]; congr 1; rw [FitsB, hr, hk]; rfl
  have e4 : D = DoesR W' c := by rw [hD, DoesR_eq hr hk]
  have ln : N.length ≤ 21 := by rw [hN]; have := len_FitsL W' c r.ans; omega
  have ld : D.length ≤ 21 := by rw [hD]; have := len_DoesL W' c; omega
  refine ⟨⟨fun _ => ⟨⟨by omega, by omega⟩, N, V, bsh N, bsh V, fun _ => ⟨by omega, W', c, bsh W', isCmd_self c, bd W' hM, fun _ _ => rfl, ⟨by omega, by omega⟩, D, DoesR W' c, bsh D, bsh _, fun hb => (by rw [e4, brsEq_self] at hb; cases hb), fun _ => ⟨⟨W', N, D, V, ok, is, c, r⟩, ⟨rfl, rfl, rfl, rfl, rfl⟩, ⟨Nat.le_refl _, ⟨Nat.le_refl _, fun _ _ => rfl⟩, ⟨Nat.le_refl _, fun _ _ => rfl⟩, ⟨Nat.le_refl _, fun _ _ => rfl⟩, Nat.le_refl _, fun _ _ => rfl⟩, hl, rfl, ln, ld⟩⟩, fun hb => (by rw [e3, brsEq_self] at hb; cases hb)⟩, fun hb => (by rw [e2] at hb; simp at hb)⟩, ?_⟩
  clear e1 e2 e3 e4 hs hN hD hok his hV hk ln ld N D V ok is c r
  rintro ⟨W, N, D, V, ok, is, c, r⟩ ⟨_, hW, ln, ld⟩
  simp only at hW ln ld ⊢
  subst hW
  refine ⟨⟨⟨0, N, D⟩, ⟨rfl, rfl, rfl, rfl⟩, ⟨Nat.le_refl _, Nat.le_refl _, ⟨Nat.le_refl _, fun _ _ => rfl⟩, ⟨Nat.le_refl _, fun _ _ => rfl⟩, Nat.le_refl _⟩, hl, Nat.zero_le _, ln, ld⟩, ?_⟩
  clear ln ld N D
  rintro ⟨k, N, D⟩ ⟨_, hkn, ln, ld⟩
  simp only at hkn ln ld ⊢
  refine ⟨fun hlt => ⟨⟨by omega, by omega⟩, by omega, ⟨k + 1, N.set k ⟨ByteArray.mk #[63], (brAt N k).id⟩, D⟩, ⟨by simp, rfl, by simp, by rw [wrap64] <;> (try simp only) <;> omega⟩, ⟨Nat.le_refl _, Nat.le_refl _, ⟨by simp, fun j _ => rowSet N k (by omega) _ j⟩, ⟨Nat.le_refl _, fun _ _ => rfl⟩, Nat.le_refl _⟩, ⟨hl, by simp only [List.length_set]; omega, by simp only [List.length_set]; omega, ld⟩, by simp only [List.length_set]; omega⟩, fun hge => ⟨⟨⟨0, N, D⟩, ⟨rfl, rfl, rfl⟩, ⟨Nat.le_refl _, Nat.le_refl _, ⟨Nat.le_refl _, fun _ _ => rfl⟩, Nat.le_refl _⟩, hl, Nat.zero_le _, ld⟩, ?_⟩⟩
  clear hge hkn ln ld k N D
  rintro ⟨k, N, D⟩ ⟨_, hkd, ld⟩
  simp only at hkd ld ⊢
  refine ⟨fun hlt => ⟨⟨by omega, by omega⟩, by omega, ⟨k + 1, N, D.set k ⟨ByteArray.mk #[63], (brAt D k).id⟩⟩, ⟨by simp, by simp, by rw [wrap64] <;> (try simp only) <;> omega⟩, ⟨Nat.le_refl _, Nat.le_refl _, ⟨by simp, fun j _ => rowSet D k (by omega) _ j⟩, Nat.le_refl _⟩, ⟨hl, by simp only [List.length_set]; omega, by simp only [List.length_set]; omega⟩, by simp only [List.length_set]; omega⟩, fun hge => ⟨⟨by omega, by omega⟩, W, W, bsh W, bsh W, fun hb => (by rw [brsEq_self] at hb; cases hb), fun _ => ⟨fun _ => ⟨by omega, V, bsh V, fun _ _ => rfl, (i + 1, cutL V), ⟨rfl, by rw [wrap64] <;> (try simp only) <;> omega⟩, ⟨Nat.le_refl _, fun _ _ => rfl⟩, ⟨by simp only; omega, c20 V, cutL_twice V⟩, by simp only; omega⟩, fun _ => ⟨(i + 1, W), ⟨rfl, by rw [wrap64] <;> (try simp only) <;> omega⟩, ⟨Nat.le_refl _, fun _ _ => rfl⟩, ⟨by simp only; omega, hM, hcut⟩, by simp only; omega⟩⟩⟩⟩
end Go.Proofs.R1

namespace Go.Proofs.R1
open Go Go.Am

theorem g23 : goodT Try.prog 6 23 = true := by kernel_rfl
theorem c36 : Try.prog.cellsOf 36 = 102 := by kernel_rfl
theorem partsCmdS {n : Nat} {Xs : List AV} (h : Parts Try.prog (n + 3) 31 Xs) : ∃ c : Cmd, Xs = partsL c.av ∧ 0 ≤ c.seq := by
  obtain ⟨_, _, rfl, h1, _, _, rfl, h2, _, _, rfl, h3, _, _, rfl, h4, _, _, rfl, h5, _, _, rfl, h6, _, _, rfl, h7, rfl⟩ := Parts.struct Try.underlying31 h
  obtain ⟨k, rfl, _⟩ := Parts.int Try.underlying3 h1
  obtain ⟨cl, rfl, _⟩ := Parts.int Try.underlying3 h2
  obtain ⟨sq, rfl, hw⟩ := Parts.int Try.underlying26 h3
  obtain ⟨s, rfl, _⟩ := Parts.string Try.underlying9 h4
  obtain ⟨o, rfl⟩ := partsId h5
  obtain ⟨w, rfl⟩ := partsId h6
  obtain ⟨m, f, rfl⟩ := partsData h7
  refine ⟨⟨k, cl, sq, s, o, w, m, f⟩, rfl, ?_⟩
  simp only [Lit.wf, Bool.and_eq_true, decide_eq_true_eq] at hw
  exact hw.1
theorem partsRws {Xs : List AV} (h : Parts Try.prog 6 23 Xs) : ∃ L : List Rw, IsRws (wrapV Try.prog 23 Xs) L ∧ ∀ i, 0 ≤ (rwAt L i).cmd.seq := by
  obtain ⟨m, f, rfl, _, h1⟩ := Parts.slice Try.underlying23 h
  obtain ⟨L, hl, hL⟩ := list_of (fun i (r : Rw) => f i = r.av ∧ 0 ≤ r.cmd.seq) m (fun i hi => by
    obtain ⟨Ys, hp, hf⟩ := h1 i hi
    rw [wrapE_struct Try.underlying36] at hf
    obtain ⟨_, _, rfl, h2, _, _, rfl, h3, rfl⟩ := Parts.struct Try.underlying36 hp
    obtain ⟨c, rfl, hc⟩ := partsCmdS h2
    obtain ⟨a, rfl⟩ := partsAns h3
    exact ⟨⟨c, a⟩, hf, hc⟩)
  refine ⟨L, ?_, fun i => ?_⟩
  · rw [wrapV_slice Try.underlying23, c36]
    refine ⟨rfl, hl.symm, fun i hi => ?_⟩
    rw [(hL i (by omega)).1]
    simp [rwF, rwAt, hl, hi]
  · rcases Nat.lt_or_ge i L.length with h2 | h2
    · have := (hL i h2).2
      simpa [rwAt, h2] using this
    · simp [rwAt, h2, default]
/-- What IdealFits computes of all that it may be given: true. -/
theorem fits_spec (xs : List AV) (h : ArgsOf Try.prog 6 Try.f3.params.toList xs) : Am.Spec Try.prog 3 xs fun y _ => y = .pl (.bool true) := by
  rw [Try.params3] at h
  obtain ⟨Ys, xs, rfl, hp, h⟩ := args_cons h
  obtain ⟨Zs, xs, rfl, hq, h⟩ := args_cons h
  obtain rfl := args_nil h
  obtain ⟨L, hL⟩ := partsBrs hp
  obtain ⟨X, hX, hs⟩ := partsRws hq
  exact X3.2 _ _ ⟨L, X, hL, hX, hs, rfl⟩
end Go.Proofs.R1
namespace Go.Proofs.Ytbjonljojnjceaa
open Go Go.Am Go.ChangeShapes Go.WideShapes Go.ChangeAt Go.RowKit Go.Proofs.R1

theorem fits_types : ∀ t ∈ Try.f3.params.toList, goodT Try.prog 6 t = true ∧ Try.prog.readableRec t = true ∧ t < Try.prog.types.size := by
  rw [Try.params3]
  intro t ht
  rcases List.mem_cons.1 ht with rfl | ht
  · exact ⟨g22, by kernel_rfl, of_decide_eq_true (by kernel_rfl)⟩
  rcases List.mem_cons.1 ht with rfl | ht
  · exact ⟨g23, by kernel_rfl, of_decide_eq_true (by kernel_rfl)⟩
  cases ht
theorem fits_fn {H : Type} (ds : List (DataW H)) (h : ds.length = Try.f3.params.toList.length) : Rows.idealFitsSpec.fn H (ds ++ []) = { results := [.lit (.bool true)], args := ds, vars := [] } := by
  rw [Try.params3] at h
  match ds, h with
  | [d1, d2], _ => rfl

set_option maxRecDepth 100000 in
theorem idealFits_lifted (os : Os) (started : os.Started) (H : Type) (enc : TypeId × Value → H) :
    ReturnsInHanded {} Try.checked os 3 .any (Rows.idealFitsSpec.pre6 enc Try.prog Try.f3 Rows.idealFitsRow.domain false) (Rows.idealFitsSpec.post enc Try.prog Try.f3 false true false false) := by
  refine returnsInHanded_of_change (C := Try.checked) Try.own started (by kernel_rfl) Try.func3
    (ChangeSpec.witness6 (enc := enc) (C := Try.checked) false ⟨#[], #[.slice none 0 0, .slice none 0 0], []⟩ 8 (by kernel_rfl) (by kernel_rfl) (by kernel_rfl) (by kernel_rfl)) ?_
  intro W base args ds gs before hval hW _ _
  exact law_post (tb := 4) (n := 6) Try.laidOut fits_types rfl (fun ds h => fits_fn ds h) rfl (by kernel_rfl) fits_spec hval hW

theorem idealFits_holds : Rows.IdealFitsSaid :=
  OpenClaim.holds_of_wide 3 Try.f3 rfl rfl rfl rfl rfl rfl rfl ⟨rfl, rfl, rfl, rfl, rfl⟩ rfl rfl rfl rfl rfl (by kernel_rfl) Try.func3 (by kernel_rfl)
    (of_decide_eq_true (by kernel_rfl)) (by unfold Func.isWrapper; first | (rw [if_pos (by decide +kernel)]; kernel_rfl) | (rw [if_neg (by decide +kernel)]; exact ⟨rfl, rfl⟩))
    (fun os started H enc _ => idealFits_lifted os started H enc)
end Go.Proofs.Ytbjonljojnjceaa

namespace Go.Proofs.R1
open Go Go.Am

/-- Data of which each byte is known. -/
def IsKnown (n : Nat) (f : Nat → AV) : Prop := ∃ u : Nat → Int, ∀ i, i < n → f i = .pl (.int .u8 (u i))
def IsSame (n : Nat) (f : Nat → AV) (m : Nat) (g : Nat → AV) : Prop := n = m ∧ ∃ u : Nat → Int, (∀ i, i < n → f i = .pl (.int .u8 (u i))) ∧ ∀ i, i < n → g i = .pl (.int .u8 (u i))
/-- The same twice is the same. -/
def T42 : Trans := fun args K => match args with
  | [.rows 1 n f, .rows 1 m g] => IsSame n f m g ∧ K (bl true) []
  | _ => False
def T35 : Trans := fun args K => match args with
  | [x, y] => ∃ c : Cmd, IsCmd x c ∧ IsCmd y c ∧ IsKnown c.dn c.df ∧ K (bl true) []
  | _ => False
def T23 : Trans := fun args K => match args with
  | [x, y] => ∃ L : List Past, IsPasts x L ∧ IsPasts y L ∧ (∀ i, IsKnown (pAt L i).cmd.dn (pAt L i).cmd.df) ∧ K (bl true) []
  | _ => False
/-- A history cut short. -/
def cutP (p : Past) : Past := { p with cmd := cutC p.cmd }
def limP (n : Nat) : Nat := if n ≤ 400 then 40 else 401
def shortL (L : List Past) : List Past := (L.take (limP L.length)).map cutP
def pastsO (L : List Past) : LObj := .row 104 64 L.length (pastF L)
def T16 : Trans := fun args K => match args with
  | [x] => ∃ L : List Past, IsPasts x L ∧ K (.own 0 0 (shortL L).length) [pastsO (shortL L)]
  | _ => False
def T18 : Trans := fun args K => match args with
  | [x] => ∃ L : List Past, IsPasts x L ∧ (∀ i, 0 ≤ (pAt L i).cmd.seq) ∧ K (.tup [nm (chk L).1, nm (chk L).2]) []
  | _ => False
def inB (o : List Int) (k : Int) : Bool := (List.range o.length).any fun j => oAt o j == k
def T34 : Trans := fun args K => match args with
  | [x, .pl (.int .i64 k)] => ∃ o : List Int, IsOrd x o ∧ K (bl (inB o k)) []
  | _ => False
def T20 : Trans := fun args K => match args with
  | [x, y] => ∃ (L : List Past) (o : List Int), IsPasts x L ∧ IsOrd y o ∧ (∀ i, 0 ≤ (pAt L i).cmd.seq) ∧ o.length ≤ 1000000 ∧ K (.tup [nm (order L o).1, nm (order L o).2]) []
  | _ => False
def T22 : Trans := fun args K => match args with
  | [x, y] => ∃ (L : List Past) (o : List Int), IsPasts x L ∧ IsOrd y o ∧ (∀ i, 0 ≤ (pAt L i).cmd.seq) ∧ o.length ≤ 1000000 ∧ K (.tup [.own 0 0 (judge L o).1.length, nm (judge L o).2.1, nm (judge L o).2.2]) [brsO (judge L o).1]
  | _ => False
/-- Rows of orders. -/
def odAt (O : List (List Int)) (i : Nat) : List Int := O.getD i []
def ordsF (O : List (List Int)) (i : Nat) : AV := ords (odAt O i)
def ordss (O : List (List Int)) : AV := .rows 1 O.length (ordsF O)
def IsOrds (x : AV) (O : List (List Int)) : Prop := leR x (ordss O)
def ordsO (o : List Int) : LObj := .row 1 3 o.length (ordF o)
def T4 : Trans := fun args K => match args with
  | [x, y] => ∃ (L : List Past) (O : List (List Int)), IsPasts x L ∧ IsOrds y O ∧ (∀ i, 0 ≤ (pAt L i).cmd.seq) ∧ (∀ i, IsKnown (pAt L i).cmd.dn (pAt L i).cmd.df) ∧ K (bl true) []
  | _ => False
end Go.Proofs.R1
