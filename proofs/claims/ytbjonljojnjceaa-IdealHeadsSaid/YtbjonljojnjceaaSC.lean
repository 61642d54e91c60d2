/- Proved: whatever the input, IdealHeads returns true and each argument reads as it did (Rows.IdealHeadsSaid); under no condition beside those of the row. Seat r1: the contract of IdealHeads. Seat r1: IdealHeads in plain Lean: no other head turns, and that by OK alone. Seat r1: the arguments of the laws, as they are read. -/
import Derived.Test.YtbjonljojnjceaaSB
import Derived.Test.YtbjonljojnjceaaMC
import Derived.Test.YtbjonljojnjceaaRows
namespace Go.Proofs.R1
open Go Go.Am

theorem v5 (L M F : List Br) (c d : Cmd) (a : Ans) (inv : Nat → Prop) (R : AV → List LObj → Prop) :
    (vcA false 0 [] Try.prog (mkTab [(6, .lend T6), (7, .lend T7), (8, .lend T8), (9, .lend T9), (24, .lend T24), (25, .lend T25), (26, .lend T26)]) (Try.f5.body.getD .skip) ([.loop 9 Nat inv (fun i => ⟨slotsOf 82 0 [(0, .own 2 0 M.length), (4, .ptr 0 0 0 0), (5, .ptr 1 0 0 0), (7, .own 3 0 F.length), (9, .pl (.func (.func 24) #[] #[])), (33, .own 4 0 (M ++ F).length), (34, nm (M ++ F).length), (35, nm i)], [.box 31 (partsL d.av), .box 34 (partsL a.av), brsO M, brsO F, brsO (M ++ F)]⟩) (fun i => (M ++ F).length - i) (fun _ => [])]) (finalK Try.prog Try.f5 (R)) (startSt Try.f5 ([brs L, c.av, a.av]))) = (
    True ∧
      True ∧
        ((!true) = true → (True ∧ True) ∧ True ∧ R (AV.pl (Value.bool false)) []) ∧
          ((!true) = false →
            ∃ (L_1 : List Br),
              IsBrs (AV.rows (33 : Nat) L.length (brsF L)) L_1 ∧
                ∃ (c_1 : Cmd),
                  IsCmd
                      (AV.agg
                        [AV.pl (Value.int IntKind.i64 c.kind), AV.pl (Value.int IntKind.i64 c.client),
                          AV.pl (Value.int IntKind.u32 c.seq), AV.pl (Value.string c.branch),
                          AV.iarr IntKind.u8 (32 : Nat) c.old, AV.iarr IntKind.u8 (32 : Nat) c.new,
                          AV.rows (1 : Nat) c.dn c.df])
                      c_1 ∧
                    True ∧
                      (((0 : Nat) + (cutL L_1).length).le (cutL L_1).length ∧
                          (True ∧ True ∧ True ∧ True ∧ True ∧ True ∧ True ∧ True) ∧ (True ∧ True ∧ True) ∧ True) ∧
                        ∃ (L : List Br),
                          ∃ (c : Cmd),
                            ∃ (a_2 : Ans),
                              IsBrs
                                  (AV.rows (33 : Nat) (cutL L_1).length fun (i : Nat) =>
                                    AV.agg
                                      [AV.pl (Value.string (brAt (cutL L_1) ((0 : Nat) + i)).name),
                                        AV.iarr IntKind.u8 (32 : Nat) (brAt (cutL L_1) ((0 : Nat) + i)).id])
                                  L ∧
                                IsCmd
                                    (AV.agg
                                      [AV.pl (Value.int IntKind.i64 (cutC c_1).kind),
                                        AV.pl (Value.int IntKind.i64 (cutC c_1).client),
                                        AV.pl (Value.int IntKind.u32 (cutC c_1).seq),
                                        AV.pl (Value.string (cutC c_1).branch),
                                        AV.iarr IntKind.u8 (32 : Nat) (cutC c_1).old,
                                        AV.iarr IntKind.u8 (32 : Nat) (cutC c_1).new,
                                        AV.rows (1 : Nat) (cutC c_1).dn (cutC c_1).df])
                                    c ∧
                                  IsAns (AV.agg [AV.pl (Value.int IntKind.i64 a.err), AV.iarr IntKind.u8 (32 : Nat) a.id])
                                      a_2 ∧
                                    Bd L ∧
                                      True ∧
                                        ((∀ (i : Nat), i < (FitsL L c a_2).length → flatB (brsF (FitsL L c a_2) i) = true) ∧
                                            True) ∧
                                          ((!FitsB L c a_2) = true →
                                              (True ∧ True) ∧
                                                True ∧
                                                  R (AV.pl (Value.bool ((↑(FitsL L c a_2).length : Int) == (0 : Int))))
                                                    []) ∧
                                            ((!FitsB L c a_2) = false →
                                              (((0 : Nat) + (cutL L_1).length).le (cutL L_1).length ∧ True) ∧
                                                ∃ (L_2 : List Br),
                                                  IsBrs
                                                      (AV.rows (33 : Nat) (cutL L_1).length fun (i : Nat) =>
                                                        AV.agg
                                                          [AV.pl (Value.string (brAt (cutL L_1) ((0 : Nat) + i)).name),
                                                            AV.iarr IntKind.u8 (32 : Nat)
                                                              (brAt (cutL L_1) ((0 : Nat) + i)).id])
                                                      L_2 ∧
                                                    Bd L_2 ∧
                                                      True ∧
                                                        ((∀ (i : Nat), i < L_2.length → flatB (brsF L_2 i) = true) ∧ True) ∧
                                                          (((0 : Nat) + (FitsL L c a_2).length).le (FitsL L c a_2).length ∧
                                                              L_2.length = L_2.length ∧
                                                                (L_2.length + (FitsL L c a_2).length).le maxLen ∧
                                                                  ((L_2.length + (FitsL L c a_2).length) * (48 : Nat)).le
                                                                    (140737488355328 : Nat)) ∧
                                                            (∃ (x : Nat),
                                                                ((True ∧
                                                                      (0 : Nat) = (0 : Nat) ∧
                                                                        (cutL L_1).length = M.length) ∧
                                                                    (True ∧
                                                                        (0 : Nat) = (0 : Nat) ∧
                                                                          (0 : Nat) = (0 : Nat) ∧ (0 : Nat) = (0 : Nat)) ∧
                                                                      (True ∧
                                                                          (0 : Nat) = (0 : Nat) ∧
                                                                            (0 : Nat) = (0 : Nat) ∧ (0 : Nat) = (0 : Nat)) ∧
                                                                        (True ∧
                                                                            (0 : Nat) = (0 : Nat) ∧
                                                                              (FitsL L c a_2).length = F.length) ∧
                                                                          Value.func (Fn.func (24 : Nat)) (Array.mk [])
                                                                                (Array.mk []) =
                                                                              Value.func (Fn.func (24 : Nat)) (Array.mk [])
                                                                                (Array.mk []) ∧
                                                                            (True ∧
                                                                                (0 : Nat) = (0 : Nat) ∧
                                                                                  L_2.length + (FitsL L c a_2).length =
                                                                                    (M ++ F).length) ∧
                                                                              (↑(L_2.length + (FitsL L c a_2).length) :
                                                                                    Int) =
                                                                                  (↑(M ++ F).length : Int) ∧
                                                                                (0 : Int) = (↑x : Int) ∧ True) ∧
                                                                  (((31 : Nat) = (31 : Nat) ∧
                                                                        (cutC c_1).kind = d.kind ∧
                                                                          (cutC c_1).client = d.client ∧
                                                                            (cutC c_1).seq = d.seq ∧
                                                                              (cutC c_1).branch = d.branch ∧
                                                                                (IntKind.u8 = IntKind.u8 ∧
                                                                                    (32 : Nat) = (32 : Nat) ∧
                                                                                      ∀ (i : Nat),
                                                                                        i < (32 : Nat) →
                                                                                          (cutC c_1).old i = d.old i) ∧
                                                                                  (IntKind.u8 = IntKind.u8 ∧
                                                                                      (32 : Nat) = (32 : Nat) ∧
                                                                                        ∀ (i : Nat),
                                                                                          i < (32 : Nat) →
                                                                                            (cutC c_1).new i = d.new i) ∧
                                                                                    ((1 : Nat) = (1 : Nat) ∧
                                                                                        (cutC c_1).dn = d.dn ∧
                                                                                          ∀ (i : Nat),
                                                                                            i < (cutC c_1).dn →
                                                                                              (cutC c_1).df i = d.df i) ∧
                                                                                      True) ∧
                                                                      ((34 : Nat) = (34 : Nat) ∧
                                                                          a.err = a.err ∧
                                                                            (IntKind.u8 = IntKind.u8 ∧
                                                                                (32 : Nat) = (32 : Nat) ∧
                                                                                  ∀ (i : Nat),
                                                                                    i < (32 : Nat) → a.id i = a.id i) ∧
                                                                              True) ∧
                                                                        ((33 : Nat) = (33 : Nat) ∧
                                                                            (45 : Nat) = (45 : Nat) ∧
                                                                              M.length.le (cutL L_1).length ∧
                                                                                ∀ (i : Nat),
                                                                                  i < M.length →
                                                                                    AV.agg
                                                                                        [AV.pl
                                                                                            (Value.string
                                                                                              (brAt (cutL L_1) i).name),
                                                                                          AV.iarr IntKind.u8 (32 : Nat)
                                                                                            (brAt (cutL L_1) i).id] =
                                                                                      AV.agg
                                                                                        [AV.pl
                                                                                            (Value.string (brAt M i).name),
                                                                                          AV.iarr IntKind.u8 (32 : Nat)
                                                                                            (brAt M i).id]) ∧
                                                                          ((33 : Nat) = (33 : Nat) ∧
                                                                              (45 : Nat) = (45 : Nat) ∧
                                                                                F.length.le (FitsL L c a_2).length ∧
                                                                                  ∀ (i : Nat),
                                                                                    i < F.length →
                                                                                      AV.agg
                                                                                          [AV.pl
                                                                                              (Value.string
                                                                                                (brAt (FitsL L c a_2)
                                                                                                    i).name),
                                                                                            AV.iarr IntKind.u8 (32 : Nat)
                                                                                              (brAt (FitsL L c a_2) i).id] =
                                                                                        AV.agg
                                                                                          [AV.pl
                                                                                              (Value.string
                                                                                                (brAt F i).name),
                                                                                            AV.iarr IntKind.u8 (32 : Nat)
                                                                                              (brAt F i).id]) ∧
                                                                            ((33 : Nat) = (33 : Nat) ∧
                                                                                (45 : Nat) = (45 : Nat) ∧
                                                                                  (M ++ F).length.le
                                                                                      (L_2.length +
                                                                                        (FitsL L c a_2).length) ∧
                                                                                    ∀ (i : Nat),
                                                                                      i < (M ++ F).length →
                                                                                        (if i < L_2.length then
                                                                                            AV.agg
                                                                                              [AV.pl
                                                                                                  (Value.string
                                                                                                    (brAt L_2 i).name),
                                                                                                AV.iarr IntKind.u8
                                                                                                  (32 : Nat)
                                                                                                  (brAt L_2 i).id]
                                                                                          else
                                                                                            AV.agg
                                                                                              [AV.pl
                                                                                                  (Value.string
                                                                                                    (brAt (FitsL L c a_2)
                                                                                                        ((0 : Nat) +
                                                                                                          (i -
                                                                                                            L_2.length))).name),
                                                                                                AV.iarr IntKind.u8
                                                                                                  (32 : Nat)
                                                                                                  (brAt (FitsL L c a_2)
                                                                                                      ((0 : Nat) +
                                                                                                        (i -
                                                                                                          L_2.length))).id]) =
                                                                                          AV.agg
                                                                                            [AV.pl
                                                                                                (Value.string
                                                                                                  (brAt (M ++ F) i).name),
                                                                                              AV.iarr IntKind.u8 (32 : Nat)
                                                                                                (brAt (M ++ F) i).id]) ∧
                                                                              True) ∧
                                                                    inv x) ∧
                                                              ∀ (x : Nat),
                                                                inv x →
                                                                  (decide ((↑x : Int) < (↑(M ++ F).length : Int)) = true →
                                                                      ((0 : Int) ≤ (↑x : Int) ∧
                                                                          (↑x : Int) + (1 : Int) ≤
                                                                            (↑(M ++ F).length : Int)) ∧
                                                                        (((0 : Nat) + (↑x : Int).toNat).succ.le
                                                                              (M ++ F).length ∧
                                                                            True) ∧
                                                                          True ∧
                                                                            True ∧
                                                                              (gEq
                                                                                      (!(brAt (M ++ F)
                                                                                                ((0 : Nat) +
                                                                                                  (↑x :
                                                                                                      Int).toNat)).name.toList ==
                                                                                          d.branch.toList)
                                                                                      true =
                                                                                    true →
                                                                                  (((0 : Nat) + M.length).le M.length ∧
                                                                                      True ∧ True) ∧
                                                                                    ∃ (L : List Br),
                                                                                      IsBrs
                                                                                          (AV.rows (33 : Nat) M.length
                                                                                            fun (i : Nat) =>
                                                                                            AV.agg
                                                                                              [AV.pl
                                                                                                  (Value.string
                                                                                                    (brAt M
                                                                                                        ((0 : Nat) +
                                                                                                          i)).name),
                                                                                                AV.iarr IntKind.u8
                                                                                                  (32 : Nat)
                                                                                                  (brAt M
                                                                                                      ((0 : Nat) + i)).id])
                                                                                          L ∧
                                                                                        True ∧
                                                                                          True ∧
                                                                                            (gEq true true = true →
                                                                                                (((0 : Nat) + F.length).le
                                                                                                      F.length ∧
                                                                                                    True ∧ True) ∧
                                                                                                  ∃ (L_3 : List Br),
                                                                                                    IsBrs
                                                                                                        (AV.rows (33 : Nat)
                                                                                                          F.length
                                                                                                          fun (i : Nat) =>
                                                                                                          AV.agg
                                                                                                            [AV.pl
                                                                                                                (Value.string
                                                                                                                  (brAt F
                                                                                                                      ((0 :
                                                                                                                          Nat) +
                                                                                                                        i)).name),
                                                                                                              AV.iarr
                                                                                                                IntKind.u8
                                                                                                                (32 : Nat)
                                                                                                                (brAt F
                                                                                                                    ((0 :
                                                                                                                        Nat) +
                                                                                                                      i)).id])
                                                                                                        L_3 ∧
                                                                                                      True ∧
                                                                                                        True ∧
                                                                                                          ((bif true then
                                                                                                                  !(List.range
                                                                                                                          (32 :
                                                                                                                            Nat)).all
                                                                                                                      fun
                                                                                                                        (i :
                                                                                                                          Nat) =>
                                                                                                                      headW
                                                                                                                          L
                                                                                                                          (brAt
                                                                                                                              (M ++
                                                                                                                                F)
                                                                                                                              ((0 :
                                                                                                                                  Nat) +
                                                                                                                                (↑x :
                                                                                                                                    Int).toNat)).name
                                                                                                                          i ==
                                                                                                                        headW
                                                                                                                          L_3
                                                                                                                          (brAt
                                                                                                                              (M ++
                                                                                                                                F)
                                                                                                                              ((0 :
                                                                                                                                  Nat) +
                                                                                                                                (↑x :
                                                                                                                                    Int).toNat)).name
                                                                                                                          i
                                                                                                                else
                                                                                                                  false) =
                                                                                                                true →
                                                                                                              (True ∧
                                                                                                                  True) ∧
                                                                                                                True ∧
                                                                                                                  R
                                                                                                                    (AV.pl
                                                                                                                      (Value.bool
                                                                                                                        false))
                                                                                                                    []) ∧
                                                                                                            ((bif true then
                                                                                                                  !(List.range
                                                                                                                          (32 :
                                                                                                                            Nat)).all
                                                                                                                      fun
                                                                                                                        (i :
                                                                                                                          Nat) =>
                                                                                                                      headW
                                                                                                                          L
                                                                                                                          (brAt
                                                                                                                              (M ++
                                                                                                                                F)
                                                                                                                              ((0 :
                                                                                                                                  Nat) +
                                                                                                                                (↑x :
                                                                                                                                    Int).toNat)).name
                                                                                                                          i ==
                                                                                                                        headW
                                                                                                                          L_3
                                                                                                                          (brAt
                                                                                                                              (M ++
                                                                                                                                F)
                                                                                                                              ((0 :
                                                                                                                                  Nat) +
                                                                                                                                (↑x :
                                                                                                                                    Int).toNat)).name
                                                                                                                          i
                                                                                                                else
                                                                                                                  false) =
                                                                                                                false →
                                                                                                              ∃ (y : Nat),
                                                                                                                ((True ∧
                                                                                                                      (0 :
                                                                                                                            Nat) =
                                                                                                                          (0 :
                                                                                                                            Nat) ∧
                                                                                                                        M.length =
                                                                                                                          M.length) ∧
                                                                                                                    (True ∧
                                                                                                                        (0 :
                                                                                                                              Nat) =
                                                                                                                            (0 :
                                                                                                                              Nat) ∧
                                                                                                                          (0 :
                                                                                                                                Nat) =
                                                                                                                              (0 :
                                                                                                                                Nat) ∧
                                                                                                                            (0 :
                                                                                                                                Nat) =
                                                                                                                              (0 :
                                                                                                                                Nat)) ∧
                                                                                                                      (True ∧
                                                                                                                          (0 :
                                                                                                                                Nat) =
                                                                                                                              (0 :
                                                                                                                                Nat) ∧
                                                                                                                            (0 :
                                                                                                                                  Nat) =
                                                                                                                                (0 :
                                                                                                                                  Nat) ∧
                                                                                                                              (0 :
                                                                                                                                  Nat) =
                                                                                                                                (0 :
                                                                                                                                  Nat)) ∧
                                                                                                                        (True ∧
                                                                                                                            (0 :
                                                                                                                                  Nat) =
                                                                                                                                (0 :
                                                                                                                                  Nat) ∧
                                                                                                                              F.length =
                                                                                                                                F.length) ∧
                                                                                                                          Value.func
                                                                                                                                (Fn.func
                                                                                                                                  (24 :
                                                                                                                                    Nat))
                                                                                                                                (Array.mk
                                                                                                                                  [])
                                                                                                                                (Array.mk
                                                                                                                                  []) =
                                                                                                                              Value.func
                                                                                                                                (Fn.func
                                                                                                                                  (24 :
                                                                                                                                    Nat))
                                                                                                                                (Array.mk
                                                                                                                                  [])
                                                                                                                                (Array.mk
                                                                                                                                  []) ∧
                                                                                                                            (True ∧
                                                                                                                                (0 :
                                                                                                                                      Nat) =
                                                                                                                                    (0 :
                                                                                                                                      Nat) ∧
                                                                                                                                  (M ++
                                                                                                                                        F).length =
                                                                                                                                    (M ++
                                                                                                                                        F).length) ∧
                                                                                                                              (↑(M ++
                                                                                                                                          F).length :
                                                                                                                                    Int) =
                                                                                                                                  (↑(M ++
                                                                                                                                          F).length :
                                                                                                                                    Int) ∧
                                                                                                                                IntKind.i64.wrap
                                                                                                                                      ((↑x :
                                                                                                                                          Int) +
                                                                                                                                        (1 :
                                                                                                                                          Int)) =
                                                                                                                                    (↑y :
                                                                                                                                      Int) ∧
                                                                                                                                  True) ∧
                                                                                                                  (((31 :
                                                                                                                            Nat) =
                                                                                                                          (31 :
                                                                                                                            Nat) ∧
                                                                                                                        d.kind =
                                                                                                                            d.kind ∧
                                                                                                                          d.client =
                                                                                                                              d.client ∧
                                                                                                                            d.seq =
                                                                                                                                d.seq ∧
                                                                                                                              d.branch =
                                                                                                                                  d.branch ∧
                                                                                                                                (IntKind.u8 =
                                                                                                                                      IntKind.u8 ∧
                                                                                                                                    (32 :
                                                                                                                                          Nat) =
                                                                                                                                        (32 :
                                                                                                                                          Nat) ∧
                                                                                                                                      ∀
                                                                                                                                        (i :
                                                                                                                                          Nat),
                                                                                                                                        i <
                                                                                                                                            (32 :
                                                                                                                                              Nat) →
                                                                                                                                          d.old
                                                                                                                                              i =
                                                                                                                                            d.old
                                                                                                                                              i) ∧
                                                                                                                                  (IntKind.u8 =
                                                                                                                                        IntKind.u8 ∧
                                                                                                                                      (32 :
                                                                                                                                            Nat) =
                                                                                                                                          (32 :
                                                                                                                                            Nat) ∧
                                                                                                                                        ∀
                                                                                                                                          (i :
                                                                                                                                            Nat),
                                                                                                                                          i <
                                                                                                                                              (32 :
                                                                                                                                                Nat) →
                                                                                                                                            d.new
                                                                                                                                                i =
                                                                                                                                              d.new
                                                                                                                                                i) ∧
                                                                                                                                    ((1 :
                                                                                                                                            Nat) =
                                                                                                                                          (1 :
                                                                                                                                            Nat) ∧
                                                                                                                                        d.dn =
                                                                                                                                            d.dn ∧
                                                                                                                                          ∀
                                                                                                                                            (i :
                                                                                                                                              Nat),
                                                                                                                                            i <
                                                                                                                                                d.dn →
                                                                                                                                              d.df
                                                                                                                                                  i =
                                                                                                                                                d.df
                                                                                                                                                  i) ∧
                                                                                                                                      True) ∧
                                                                                                                      ((34 :
                                                                                                                              Nat) =
                                                                                                                            (34 :
                                                                                                                              Nat) ∧
                                                                                                                          a.err =
                                                                                                                              a.err ∧
                                                                                                                            (IntKind.u8 =
                                                                                                                                  IntKind.u8 ∧
                                                                                                                                (32 :
                                                                                                                                      Nat) =
                                                                                                                                    (32 :
                                                                                                                                      Nat) ∧
                                                                                                                                  ∀
                                                                                                                                    (i :
                                                                                                                                      Nat),
                                                                                                                                    i <
                                                                                                                                        (32 :
                                                                                                                                          Nat) →
                                                                                                                                      a.id
                                                                                                                                          i =
                                                                                                                                        a.id
                                                                                                                                          i) ∧
                                                                                                                              True) ∧
                                                                                                                        ((33 :
                                                                                                                                Nat) =
                                                                                                                              (33 :
                                                                                                                                Nat) ∧
                                                                                                                            (45 :
                                                                                                                                  Nat) =
                                                                                                                                (45 :
                                                                                                                                  Nat) ∧
                                                                                                                              M.length.le
                                                                                                                                  M.length ∧
                                                                                                                                ∀
                                                                                                                                  (i :
                                                                                                                                    Nat),
                                                                                                                                  i <
                                                                                                                                      M.length →
                                                                                                                                    brsF
                                                                                                                                        M
                                                                                                                                        i =
                                                                                                                                      brsF
                                                                                                                                        M
                                                                                                                                        i) ∧
                                                                                                                          ((33 :
                                                                                                                                  Nat) =
                                                                                                                                (33 :
                                                                                                                                  Nat) ∧
                                                                                                                              (45 :
                                                                                                                                    Nat) =
                                                                                                                                  (45 :
                                                                                                                                    Nat) ∧
                                                                                                                                F.length.le
                                                                                                                                    F.length ∧
                                                                                                                                  ∀
                                                                                                                                    (i :
                                                                                                                                      Nat),
                                                                                                                                    i <
                                                                                                                                        F.length →
                                                                                                                                      brsF
                                                                                                                                          F
                                                                                                                                          i =
                                                                                                                                        brsF
                                                                                                                                          F
                                                                                                                                          i) ∧
                                                                                                                            ((33 :
                                                                                                                                    Nat) =
                                                                                                                                  (33 :
                                                                                                                                    Nat) ∧
                                                                                                                                (45 :
                                                                                                                                      Nat) =
                                                                                                                                    (45 :
                                                                                                                                      Nat) ∧
                                                                                                                                  (M ++
                                                                                                                                            F).length.le
                                                                                                                                      (M ++
                                                                                                                                          F).length ∧
                                                                                                                                    ∀
                                                                                                                                      (i :
                                                                                                                                        Nat),
                                                                                                                                      i <
                                                                                                                                          (M ++
                                                                                                                                              F).length →
                                                                                                                                        AV.agg
                                                                                                                                            [AV.pl
                                                                                                                                                (Value.string
                                                                                                                                                  (brAt
                                                                                                                                                      (M ++
                                                                                                                                                        F)
                                                                                                                                                      i).name),
                                                                                                                                              AV.iarr
                                                                                                                                                IntKind.u8
                                                                                                                                                (32 :
                                                                                                                                                  Nat)
                                                                                                                                                (brAt
                                                                                                                                                    (M ++
                                                                                                                                                      F)
                                                                                                                                                    i).id] =
                                                                                                                                          AV.agg
                                                                                                                                            [AV.pl
                                                                                                                                                (Value.string
                                                                                                                                                  (brAt
                                                                                                                                                      (M ++
                                                                                                                                                        F)
                                                                                                                                                      i).name),
                                                                                                                                              AV.iarr
                                                                                                                                                IntKind.u8
                                                                                                                                                (32 :
                                                                                                                                                  Nat)
                                                                                                                                                (brAt
                                                                                                                                                    (M ++
                                                                                                                                                      F)
                                                                                                                                                    i).id]) ∧
                                                                                                                              True) ∧
                                                                                                                    inv y ∧
                                                                                                                      ((M ++
                                                                                                                                  F).length -
                                                                                                                              y).succ.le
                                                                                                                        ((M ++
                                                                                                                              F).length -
                                                                                                                          x))) ∧
                                                                                              (gEq true true = false →
                                                                                                (gEq (!true) true = true →
                                                                                                    False) ∧
                                                                                                  (gEq (!true) true =
                                                                                                      false →
                                                                                                    (false = true →
                                                                                                        (True ∧ True) ∧
                                                                                                          True ∧
                                                                                                            R
                                                                                                              (AV.pl
                                                                                                                (Value.bool
                                                                                                                  false))
                                                                                                              []) ∧
                                                                                                      (false = false →
                                                                                                        ∃ (y : Nat),
                                                                                                          ((True ∧
                                                                                                                (0 : Nat) =
                                                                                                                    (0 :
                                                                                                                      Nat) ∧
                                                                                                                  M.length =
                                                                                                                    M.length) ∧
                                                                                                              (True ∧
                                                                                                                  (0 :
                                                                                                                        Nat) =
                                                                                                                      (0 :
                                                                                                                        Nat) ∧
                                                                                                                    (0 :
                                                                                                                          Nat) =
                                                                                                                        (0 :
                                                                                                                          Nat) ∧
                                                                                                                      (0 :
                                                                                                                          Nat) =
                                                                                                                        (0 :
                                                                                                                          Nat)) ∧
                                                                                                                (True ∧
                                                                                                                    (0 :
                                                                                                                          Nat) =
                                                                                                                        (0 :
                                                                                                                          Nat) ∧
                                                                                                                      (0 :
                                                                                                                            Nat) =
                                                                                                                          (0 :
                                                                                                                            Nat) ∧
                                                                                                                        (0 :
                                                                                                                            Nat) =
                                                                                                                          (0 :
                                                                                                                            Nat)) ∧
                                                                                                                  (True ∧
                                                                                                                      (0 :
                                                                                                                            Nat) =
                                                                                                                          (0 :
                                                                                                                            Nat) ∧
                                                                                                                        F.length =
                                                                                                                          F.length) ∧
                                                                                                                    Value.func
                                                                                                                          (Fn.func
                                                                                                                            (24 :
                                                                                                                              Nat))
                                                                                                                          (Array.mk
                                                                                                                            [])
                                                                                                                          (Array.mk
                                                                                                                            []) =
                                                                                                                        Value.func
                                                                                                                          (Fn.func
                                                                                                                            (24 :
                                                                                                                              Nat))
                                                                                                                          (Array.mk
                                                                                                                            [])
                                                                                                                          (Array.mk
                                                                                                                            []) ∧
                                                                                                                      (True ∧
                                                                                                                          (0 :
                                                                                                                                Nat) =
                                                                                                                              (0 :
                                                                                                                                Nat) ∧
                                                                                                                            (M ++
                                                                                                                                  F).length =
                                                                                                                              (M ++
                                                                                                                                  F).length) ∧
                                                                                                                        (↑(M ++
                                                                                                                                    F).length :
                                                                                                                              Int) =
                                                                                                                            (↑(M ++
                                                                                                                                    F).length :
                                                                                                                              Int) ∧
                                                                                                                          IntKind.i64.wrap
                                                                                                                                ((↑x :
                                                                                                                                    Int) +
                                                                                                                                  (1 :
                                                                                                                                    Int)) =
                                                                                                                              (↑y :
                                                                                                                                Int) ∧
                                                                                                                            True) ∧
                                                                                                            (((31 : Nat) =
                                                                                                                    (31 :
                                                                                                                      Nat) ∧
                                                                                                                  d.kind =
                                                                                                                      d.kind ∧
                                                                                                                    d.client =
                                                                                                                        d.client ∧
                                                                                                                      d.seq =
                                                                                                                          d.seq ∧
                                                                                                                        d.branch =
                                                                                                                            d.branch ∧
                                                                                                                          (IntKind.u8 =
                                                                                                                                IntKind.u8 ∧
                                                                                                                              (32 :
                                                                                                                                    Nat) =
                                                                                                                                  (32 :
                                                                                                                                    Nat) ∧
                                                                                                                                ∀
                                                                                                                                  (i :
                                                                                                                                    Nat),
                                                                                                                                  i <
                                                                                                                                      (32 :
                                                                                                                                        Nat) →
                                                                                                                                    d.old
                                                                                                                                        i =
                                                                                                                                      d.old
                                                                                                                                        i) ∧
                                                                                                                            (IntKind.u8 =
                                                                                                                                  IntKind.u8 ∧
                                                                                                                                (32 :
                                                                                                                                      Nat) =
                                                                                                                                    (32 :
                                                                                                                                      Nat) ∧
                                                                                                                                  ∀
                                                                                                                                    (i :
                                                                                                                                      Nat),
                                                                                                                                    i <
                                                                                                                                        (32 :
                                                                                                                                          Nat) →
                                                                                                                                      d.new
                                                                                                                                          i =
                                                                                                                                        d.new
                                                                                                                                          i) ∧
                                                                                                                              ((1 :
                                                                                                                                      Nat) =
                                                                                                                                    (1 :
                                                                                                                                      Nat) ∧
                                                                                                                                  d.dn =
                                                                                                                                      d.dn ∧
                                                                                                                                    ∀
                                                                                                                                      (i :
                                                                                                                                        Nat),
                                                                                                                                      i <
                                                                                                                                          d.dn →
                                                                                                                                        d.df
                                                                                                                                            i =
                                                                                                                                          d.df
                                                                                                                                            i) ∧
                                                                                                                                True) ∧
                                                                                                                ((34 :
                                                                                                                        Nat) =
                                                                                                                      (34 :
                                                                                                                        Nat) ∧
                                                                                                                    a.err =
                                                                                                                        a.err ∧
                                                                                                                      (IntKind.u8 =
                                                                                                                            IntKind.u8 ∧
                                                                                                                          (32 :
                                                                                                                                Nat) =
                                                                                                                              (32 :
                                                                                                                                Nat) ∧
                                                                                                                            ∀
                                                                                                                              (i :
                                                                                                                                Nat),
                                                                                                                              i <
                                                                                                                                  (32 :
                                                                                                                                    Nat) →
                                                                                                                                a.id
                                                                                                                                    i =
                                                                                                                                  a.id
                                                                                                                                    i) ∧
                                                                                                                        True) ∧
                                                                                                                  ((33 :
                                                                                                                          Nat) =
                                                                                                                        (33 :
                                                                                                                          Nat) ∧
                                                                                                                      (45 :
                                                                                                                            Nat) =
                                                                                                                          (45 :
                                                                                                                            Nat) ∧
                                                                                                                        M.length.le
                                                                                                                            M.length ∧
                                                                                                                          ∀
                                                                                                                            (i :
                                                                                                                              Nat),
                                                                                                                            i <
                                                                                                                                M.length →
                                                                                                                              brsF
                                                                                                                                  M
                                                                                                                                  i =
                                                                                                                                brsF
                                                                                                                                  M
                                                                                                                                  i) ∧
                                                                                                                    ((33 :
                                                                                                                            Nat) =
                                                                                                                          (33 :
                                                                                                                            Nat) ∧
                                                                                                                        (45 :
                                                                                                                              Nat) =
                                                                                                                            (45 :
                                                                                                                              Nat) ∧
                                                                                                                          F.length.le
                                                                                                                              F.length ∧
                                                                                                                            ∀
                                                                                                                              (i :
                                                                                                                                Nat),
                                                                                                                              i <
                                                                                                                                  F.length →
                                                                                                                                brsF
                                                                                                                                    F
                                                                                                                                    i =
                                                                                                                                  brsF
                                                                                                                                    F
                                                                                                                                    i) ∧
                                                                                                                      ((33 :
                                                                                                                              Nat) =
                                                                                                                            (33 :
                                                                                                                              Nat) ∧
                                                                                                                          (45 :
                                                                                                                                Nat) =
                                                                                                                              (45 :
                                                                                                                                Nat) ∧
                                                                                                                            (M ++
                                                                                                                                      F).length.le
                                                                                                                                (M ++
                                                                                                                                    F).length ∧
                                                                                                                              ∀
                                                                                                                                (i :
                                                                                                                                  Nat),
                                                                                                                                i <
                                                                                                                                    (M ++
                                                                                                                                        F).length →
                                                                                                                                  AV.agg
                                                                                                                                      [AV.pl
                                                                                                                                          (Value.string
                                                                                                                                            (brAt
                                                                                                                                                (M ++
                                                                                                                                                  F)
                                                                                                                                                i).name),
                                                                                                                                        AV.iarr
                                                                                                                                          IntKind.u8
                                                                                                                                          (32 :
                                                                                                                                            Nat)
                                                                                                                                          (brAt
                                                                                                                                              (M ++
                                                                                                                                                F)
                                                                                                                                              i).id] =
                                                                                                                                    AV.agg
                                                                                                                                      [AV.pl
                                                                                                                                          (Value.string
                                                                                                                                            (brAt
                                                                                                                                                (M ++
                                                                                                                                                  F)
                                                                                                                                                i).name),
                                                                                                                                        AV.iarr
                                                                                                                                          IntKind.u8
                                                                                                                                          (32 :
                                                                                                                                            Nat)
                                                                                                                                          (brAt
                                                                                                                                              (M ++
                                                                                                                                                F)
                                                                                                                                              i).id]) ∧
                                                                                                                        True) ∧
                                                                                                              inv y ∧
                                                                                                                ((M ++
                                                                                                                            F).length -
                                                                                                                        y).succ.le
                                                                                                                  ((M ++
                                                                                                                        F).length -
                                                                                                                    x))))) ∧
                                                                                (gEq
                                                                                      (!(brAt (M ++ F)
                                                                                                ((0 : Nat) +
                                                                                                  (↑x :
                                                                                                      Int).toNat)).name.toList ==
                                                                                          d.branch.toList)
                                                                                      true =
                                                                                    false →
                                                                                  (gEq (!true) true = true →
                                                                                      (((0 : Nat) + F.length).le F.length ∧
                                                                                          True ∧ True) ∧
                                                                                        ∃ (L : List Br),
                                                                                          IsBrs
                                                                                              (AV.rows (33 : Nat) F.length
                                                                                                fun (i : Nat) =>
                                                                                                AV.agg
                                                                                                  [AV.pl
                                                                                                      (Value.string
                                                                                                        (brAt F
                                                                                                            ((0 : Nat) +
                                                                                                              i)).name),
                                                                                                    AV.iarr IntKind.u8
                                                                                                      (32 : Nat)
                                                                                                      (brAt F
                                                                                                          ((0 : Nat) +
                                                                                                            i)).id])
                                                                                              L ∧
                                                                                            True ∧
                                                                                              True ∧
                                                                                                (gEq true true = true →
                                                                                                    False) ∧
                                                                                                  (gEq true true = false →
                                                                                                    (false = true →
                                                                                                        (True ∧ True) ∧
                                                                                                          True ∧
                                                                                                            R
                                                                                                              (AV.pl
                                                                                                                (Value.bool
                                                                                                                  false))
                                                                                                              []) ∧
                                                                                                      (false = false →
                                                                                                        ∃ (y : Nat),
                                                                                                          ((True ∧
                                                                                                                (0 : Nat) =
                                                                                                                    (0 :
                                                                                                                      Nat) ∧
                                                                                                                  M.length =
                                                                                                                    M.length) ∧
                                                                                                              (True ∧
                                                                                                                  (0 :
                                                                                                                        Nat) =
                                                                                                                      (0 :
                                                                                                                        Nat) ∧
                                                                                                                    (0 :
                                                                                                                          Nat) =
                                                                                                                        (0 :
                                                                                                                          Nat) ∧
                                                                                                                      (0 :
                                                                                                                          Nat) =
                                                                                                                        (0 :
                                                                                                                          Nat)) ∧
                                                                                                                (True ∧
                                                                                                                    (0 :
                                                                                                                          Nat) =
                                                                                                                        (0 :
                                                                                                                          Nat) ∧
                                                                                                                      (0 :
                                                                                                                            Nat) =
                                                                                                                          (0 :
                                                                                                                            Nat) ∧
                                                                                                                        (0 :
                                                                                                                            Nat) =
                                                                                                                          (0 :
                                                                                                                            Nat)) ∧
                                                                                                                  (True ∧
                                                                                                                      (0 :
                                                                                                                            Nat) =
                                                                                                                          (0 :
                                                                                                                            Nat) ∧
                                                                                                                        F.length =
                                                                                                                          F.length) ∧
                                                                                                                    Value.func
                                                                                                                          (Fn.func
                                                                                                                            (24 :
                                                                                                                              Nat))
                                                                                                                          (Array.mk
                                                                                                                            [])
                                                                                                                          (Array.mk
                                                                                                                            []) =
                                                                                                                        Value.func
                                                                                                                          (Fn.func
                                                                                                                            (24 :
                                                                                                                              Nat))
                                                                                                                          (Array.mk
                                                                                                                            [])
                                                                                                                          (Array.mk
                                                                                                                            []) ∧
                                                                                                                      (True ∧
                                                                                                                          (0 :
                                                                                                                                Nat) =
                                                                                                                              (0 :
                                                                                                                                Nat) ∧
                                                                                                                            (M ++
                                                                                                                                  F).length =
                                                                                                                              (M ++
                                                                                                                                  F).length) ∧
                                                                                                                        (↑(M ++
                                                                                                                                    F).length :
                                                                                                                              Int) =
                                                                                                                            (↑(M ++
                                                                                                                                    F).length :
                                                                                                                              Int) ∧
                                                                                                                          IntKind.i64.wrap
                                                                                                                                ((↑x :
                                                                                                                                    Int) +
                                                                                                                                  (1 :
                                                                                                                                    Int)) =
                                                                                                                              (↑y :
                                                                                                                                Int) ∧
                                                                                                                            True) ∧
                                                                                                            (((31 : Nat) =
                                                                                                                    (31 :
                                                                                                                      Nat) ∧
                                                                                                                  d.kind =
                                                                                                                      d.kind ∧
                                                                                                                    d.client =
                                                                                                                        d.client ∧
                                                                                                                      d.seq =
                                                                                                                          d.seq ∧
                                                                                                                        d.branch =
                                                                                                                            d.branch ∧
                                                                                                                          (IntKind.u8 =
                                                                                                                                IntKind.u8 ∧
                                                                                                                              (32 :
                                                                                                                                    Nat) =
                                                                                                                                  (32 :
                                                                                                                                    Nat) ∧
                                                                                                                                ∀
                                                                                                                                  (i :
                                                                                                                                    Nat),
                                                                                                                                  i <
                                                                                                                                      (32 :
                                                                                                                                        Nat) →
                                                                                                                                    d.old
                                                                                                                                        i =
                                                                                                                                      d.old
                                                                                                                                        i) ∧
                                                                                                                            (IntKind.u8 =
                                                                                                                                  IntKind.u8 ∧
                                                                                                                                (32 :
                                                                                                                                      Nat) =
                                                                                                                                    (32 :
                                                                                                                                      Nat) ∧
                                                                                                                                  ∀
                                                                                                                                    (i :
                                                                                                                                      Nat),
                                                                                                                                    i <
                                                                                                                                        (32 :
                                                                                                                                          Nat) →
                                                                                                                                      d.new
                                                                                                                                          i =
                                                                                                                                        d.new
                                                                                                                                          i) ∧
                                                                                                                              ((1 :
                                                                                                                                      Nat) =
                                                                                                                                    (1 :
                                                                                                                                      Nat) ∧
                                                                                                                                  d.dn =
                                                                                                                                      d.dn ∧
                                                                                                                                    ∀
                                                                                                                                      (i :
                                                                                                                                        Nat),
                                                                                                                                      i <
                                                                                                                                          d.dn →
                                                                                                                                        d.df
                                                                                                                                            i =
                                                                                                                                          d.df
                                                                                                                                            i) ∧
                                                                                                                                True) ∧
                                                                                                                ((34 :
                                                                                                                        Nat) =
                                                                                                                      (34 :
                                                                                                                        Nat) ∧
                                                                                                                    a.err =
                                                                                                                        a.err ∧
                                                                                                                      (IntKind.u8 =
                                                                                                                            IntKind.u8 ∧
                                                                                                                          (32 :
                                                                                                                                Nat) =
                                                                                                                              (32 :
                                                                                                                                Nat) ∧
                                                                                                                            ∀
                                                                                                                              (i :
                                                                                                                                Nat),
                                                                                                                              i <
                                                                                                                                  (32 :
                                                                                                                                    Nat) →
                                                                                                                                a.id
                                                                                                                                    i =
                                                                                                                                  a.id
                                                                                                                                    i) ∧
                                                                                                                        True) ∧
                                                                                                                  ((33 :
                                                                                                                          Nat) =
                                                                                                                        (33 :
                                                                                                                          Nat) ∧
                                                                                                                      (45 :
                                                                                                                            Nat) =
                                                                                                                          (45 :
                                                                                                                            Nat) ∧
                                                                                                                        M.length.le
                                                                                                                            M.length ∧
                                                                                                                          ∀
                                                                                                                            (i :
                                                                                                                              Nat),
                                                                                                                            i <
                                                                                                                                M.length →
                                                                                                                              brsF
                                                                                                                                  M
                                                                                                                                  i =
                                                                                                                                brsF
                                                                                                                                  M
                                                                                                                                  i) ∧
                                                                                                                    ((33 :
                                                                                                                            Nat) =
                                                                                                                          (33 :
                                                                                                                            Nat) ∧
                                                                                                                        (45 :
                                                                                                                              Nat) =
                                                                                                                            (45 :
                                                                                                                              Nat) ∧
                                                                                                                          F.length.le
                                                                                                                              F.length ∧
                                                                                                                            ∀
                                                                                                                              (i :
                                                                                                                                Nat),
                                                                                                                              i <
                                                                                                                                  F.length →
                                                                                                                                brsF
                                                                                                                                    F
                                                                                                                                    i =
                                                                                                                                  brsF
                                                                                                                                    F
                                                                                                                                    i) ∧
                                                                                                                      ((33 :
                                                                                                                              Nat) =
                                                                                                                            (33 :
                                                                                                                              Nat) ∧
                                                                                                                          (45 :
                                                                                                                                Nat) =
                                                                                                                              (45 :
                                                                                                                                Nat) ∧
                                                                                                                            (M ++
                                                                                                                                      F).length.le
                                                                                                                                (M ++
                                                                                                                                    F).length ∧
                                                                                                                              ∀
                                                                                                                                (i :
                                                                                                                                  Nat),
                                                                                                                                i <
                                                                                                                                    (M ++
                                                                                                                                        F).length →
                                                                                                                                  AV.agg
                                                                                                                                      [AV.pl
                                                                                                                                          (Value.string
                                                                                                                                            (brAt
                                                                                                                                                (M ++
                                                                                                                                                  F)
                                                                                                                                                i).name),
                                                                                                                                        AV.iarr
                                                                                                                                          IntKind.u8
                                                                                                                                          (32 :
                                                                                                                                            Nat)
                                                                                                                                          (brAt
                                                                                                                                              (M ++
                                                                                                                                                F)
                                                                                                                                              i).id] =
                                                                                                                                    AV.agg
                                                                                                                                      [AV.pl
                                                                                                                                          (Value.string
                                                                                                                                            (brAt
                                                                                                                                                (M ++
                                                                                                                                                  F)
                                                                                                                                                i).name),
                                                                                                                                        AV.iarr
                                                                                                                                          IntKind.u8
                                                                                                                                          (32 :
                                                                                                                                            Nat)
                                                                                                                                          (brAt
                                                                                                                                              (M ++
                                                                                                                                                F)
                                                                                                                                              i).id]) ∧
                                                                                                                        True) ∧
                                                                                                              inv y ∧
                                                                                                                ((M ++
                                                                                                                            F).length -
                                                                                                                        y).succ.le
                                                                                                                  ((M ++
                                                                                                                        F).length -
                                                                                                                    x)))) ∧
                                                                                    (gEq (!true) true = false →
                                                                                      (gEq (!true) true = true → False) ∧
                                                                                        (gEq (!true) true = false →
                                                                                          (false = true →
                                                                                              (True ∧ True) ∧
                                                                                                True ∧
                                                                                                  R
                                                                                                    (AV.pl
                                                                                                      (Value.bool false))
                                                                                                    []) ∧
                                                                                            (false = false →
                                                                                              ∃ (y : Nat),
                                                                                                ((True ∧
                                                                                                      (0 : Nat) =
                                                                                                          (0 : Nat) ∧
                                                                                                        M.length =
                                                                                                          M.length) ∧
                                                                                                    (True ∧
                                                                                                        (0 : Nat) =
                                                                                                            (0 : Nat) ∧
                                                                                                          (0 : Nat) =
                                                                                                              (0 : Nat) ∧
                                                                                                            (0 : Nat) =
                                                                                                              (0 : Nat)) ∧
                                                                                                      (True ∧
                                                                                                          (0 : Nat) =
                                                                                                              (0 : Nat) ∧
                                                                                                            (0 : Nat) =
                                                                                                                (0 : Nat) ∧
                                                                                                              (0 : Nat) =
                                                                                                                (0 : Nat)) ∧
                                                                                                        (True ∧
                                                                                                            (0 : Nat) =
                                                                                                                (0 : Nat) ∧
                                                                                                              F.length =
                                                                                                                F.length) ∧
                                                                                                          Value.func
                                                                                                                (Fn.func
                                                                                                                  (24 :
                                                                                                                    Nat))
                                                                                                                (Array.mk
                                                                                                                  [])
                                                                                                                (Array.mk
                                                                                                                  []) =
                                                                                                              Value.func
                                                                                                                (Fn.func
                                                                                                                  (24 :
                                                                                                                    Nat))
                                                                                                                (Array.mk
                                                                                                                  [])
                                                                                                                (Array.mk
                                                                                                                  []) ∧
                                                                                                            (True ∧
                                                                                                                (0 : Nat) =
                                                                                                                    (0 :
                                                                                                                      Nat) ∧
                                                                                                                  (M ++
                                                                                                                        F).length =
                                                                                                                    (M ++
                                                                                                                        F).length) ∧
                                                                                                              (↑(M ++
                                                                                                                          F).length :
                                                                                                                    Int) =
                                                                                                                  (↑(M ++
                                                                                                                          F).length :
                                                                                                                    Int) ∧
                                                                                                                IntKind.i64.wrap
                                                                                                                      ((↑x :
                                                                                                                          Int) +
                                                                                                                        (1 :
                                                                                                                          Int)) =
                                                                                                                    (↑y :
                                                                                                                      Int) ∧
                                                                                                                  True) ∧
                                                                                                  (((31 : Nat) =
                                                                                                          (31 : Nat) ∧
                                                                                                        d.kind = d.kind ∧
                                                                                                          d.client =
                                                                                                              d.client ∧
                                                                                                            d.seq = d.seq ∧
                                                                                                              d.branch =
                                                                                                                  d.branch ∧
                                                                                                                (IntKind.u8 =
                                                                                                                      IntKind.u8 ∧
                                                                                                                    (32 :
                                                                                                                          Nat) =
                                                                                                                        (32 :
                                                                                                                          Nat) ∧
                                                                                                                      ∀
                                                                                                                        (i :
                                                                                                                          Nat),
                                                                                                                        i <
                                                                                                                            (32 :
                                                                                                                              Nat) →
                                                                                                                          d.old
                                                                                                                              i =
                                                                                                                            d.old
                                                                                                                              i) ∧
                                                                                                                  (IntKind.u8 =
                                                                                                                        IntKind.u8 ∧
                                                                                                                      (32 :
                                                                                                                            Nat) =
                                                                                                                          (32 :
                                                                                                                            Nat) ∧
                                                                                                                        ∀
                                                                                                                          (i :
                                                                                                                            Nat),
                                                                                                                          i <
                                                                                                                              (32 :
                                                                                                                                Nat) →
                                                                                                                            d.new
                                                                                                                                i =
                                                                                                                              d.new
                                                                                                                                i) ∧
                                                                                                                    ((1 :
                                                                                                                            Nat) =
                                                                                                                          (1 :
                                                                                                                            Nat) ∧
                                                                                                                        d.dn =
                                                                                                                            d.dn ∧
                                                                                                                          ∀
                                                                                                                            (i :
                                                                                                                              Nat),
                                                                                                                            i <
                                                                                                                                d.dn →
                                                                                                                              d.df
                                                                                                                                  i =
                                                                                                                                d.df
                                                                                                                                  i) ∧
                                                                                                                      True) ∧
                                                                                                      ((34 : Nat) =
                                                                                                            (34 : Nat) ∧
                                                                                                          a.err = a.err ∧
                                                                                                            (IntKind.u8 =
                                                                                                                  IntKind.u8 ∧
                                                                                                                (32 : Nat) =
                                                                                                                    (32 :
                                                                                                                      Nat) ∧
                                                                                                                  ∀
                                                                                                                    (i :
                                                                                                                      Nat),
                                                                                                                    i <
                                                                                                                        (32 :
                                                                                                                          Nat) →
                                                                                                                      a.id
                                                                                                                          i =
                                                                                                                        a.id
                                                                                                                          i) ∧
                                                                                                              True) ∧
                                                                                                        ((33 : Nat) =
                                                                                                              (33 : Nat) ∧
                                                                                                            (45 : Nat) =
                                                                                                                (45 : Nat) ∧
                                                                                                              M.length.le
                                                                                                                  M.length ∧
                                                                                                                ∀ (i : Nat),
                                                                                                                  i <
                                                                                                                      M.length →
                                                                                                                    brsF M
                                                                                                                        i =
                                                                                                                      brsF M
                                                                                                                        i) ∧
                                                                                                          ((33 : Nat) =
                                                                                                                (33 : Nat) ∧
                                                                                                              (45 : Nat) =
                                                                                                                  (45 :
                                                                                                                    Nat) ∧
                                                                                                                F.length.le
                                                                                                                    F.length ∧
                                                                                                                  ∀
                                                                                                                    (i :
                                                                                                                      Nat),
                                                                                                                    i <
                                                                                                                        F.length →
                                                                                                                      brsF F
                                                                                                                          i =
                                                                                                                        brsF
                                                                                                                          F
                                                                                                                          i) ∧
                                                                                                            ((33 : Nat) =
                                                                                                                  (33 :
                                                                                                                    Nat) ∧
                                                                                                                (45 : Nat) =
                                                                                                                    (45 :
                                                                                                                      Nat) ∧
                                                                                                                  (M ++
                                                                                                                            F).length.le
                                                                                                                      (M ++
                                                                                                                          F).length ∧
                                                                                                                    ∀
                                                                                                                      (i :
                                                                                                                        Nat),
                                                                                                                      i <
                                                                                                                          (M ++
                                                                                                                              F).length →
                                                                                                                        AV.agg
                                                                                                                            [AV.pl
                                                                                                                                (Value.string
                                                                                                                                  (brAt
                                                                                                                                      (M ++
                                                                                                                                        F)
                                                                                                                                      i).name),
                                                                                                                              AV.iarr
                                                                                                                                IntKind.u8
                                                                                                                                (32 :
                                                                                                                                  Nat)
                                                                                                                                (brAt
                                                                                                                                    (M ++
                                                                                                                                      F)
                                                                                                                                    i).id] =
                                                                                                                          AV.agg
                                                                                                                            [AV.pl
                                                                                                                                (Value.string
                                                                                                                                  (brAt
                                                                                                                                      (M ++
                                                                                                                                        F)
                                                                                                                                      i).name),
                                                                                                                              AV.iarr
                                                                                                                                IntKind.u8
                                                                                                                                (32 :
                                                                                                                                  Nat)
                                                                                                                                (brAt
                                                                                                                                    (M ++
                                                                                                                                      F)
                                                                                                                                    i).id]) ∧
                                                                                                              True) ∧
                                                                                                    inv y ∧
                                                                                                      ((M ++ F).length -
                                                                                                              y).succ.le
                                                                                                        ((M ++ F).length -
                                                                                                          x)))))) ∧
                                                                    (decide ((↑x : Int) < (↑(M ++ F).length : Int)) =
                                                                        false →
                                                                      ((bif a.err == (0 : Int) then
                                                                              bif d.kind == (2 : Int) then true
                                                                              else d.kind == (3 : Int)
                                                                            else false) =
                                                                            true →
                                                                          (((0 : Nat) + F.length).le F.length ∧
                                                                              True ∧ True) ∧
                                                                            ∃ (L : List Br),
                                                                              IsBrs
                                                                                  (AV.rows (33 : Nat) F.length
                                                                                    fun (i : Nat) =>
                                                                                    AV.agg
                                                                                      [AV.pl
                                                                                          (Value.string
                                                                                            (brAt F ((0 : Nat) + i)).name),
                                                                                        AV.iarr IntKind.u8 (32 : Nat)
                                                                                          (brAt F ((0 : Nat) + i)).id])
                                                                                  L ∧
                                                                                True ∧
                                                                                  True ∧
                                                                                    (True ∧ True) ∧
                                                                                      True ∧
                                                                                        R
                                                                                          (AV.pl
                                                                                            (Value.bool
                                                                                              ((List.range (32 : Nat)).all
                                                                                                fun (i : Nat) =>
                                                                                                headW L d.branch i ==
                                                                                                  d.new i)))
                                                                                          []) ∧
                                                                        ((bif a.err == (0 : Int) then
                                                                              bif d.kind == (2 : Int) then true
                                                                              else d.kind == (3 : Int)
                                                                            else false) =
                                                                            false →
                                                                          (((0 : Nat) + M.length).le M.length ∧
                                                                              ((0 : Nat) + F.length).le F.length ∧ True) ∧
                                                                            ∃ (L : List Br),
                                                                              ∃ (M_1 : List Br),
                                                                                IsBrs
                                                                                    (AV.rows (33 : Nat) M.length
                                                                                      fun (i : Nat) =>
                                                                                      AV.agg
                                                                                        [AV.pl
                                                                                            (Value.string
                                                                                              (brAt M
                                                                                                  ((0 : Nat) + i)).name),
                                                                                          AV.iarr IntKind.u8 (32 : Nat)
                                                                                            (brAt M ((0 : Nat) + i)).id])
                                                                                    L ∧
                                                                                  IsBrs
                                                                                      (AV.rows (33 : Nat) F.length
                                                                                        fun (i : Nat) =>
                                                                                        AV.agg
                                                                                          [AV.pl
                                                                                              (Value.string
                                                                                                (brAt F
                                                                                                    ((0 : Nat) + i)).name),
                                                                                            AV.iarr IntKind.u8 (32 : Nat)
                                                                                              (brAt F ((0 : Nat) + i)).id])
                                                                                      M_1 ∧
                                                                                    True ∧
                                                                                      True ∧
                                                                                        (True ∧ True) ∧
                                                                                          True ∧
                                                                                            R
                                                                                              (AV.pl
                                                                                                (Value.bool (brsEq L M_1)))
                                                                                              []))))) := by kernel_rfl
/-- The law, as what is computed. -/
def okH (M F : List Br) (d : Cmd) (i : Nat) : Bool := (brAt (M ++ F) i).name.toList == d.branch.toList || idEq (headW M (brAt (M ++ F) i).name) (headW F (brAt (M ++ F) i).name)
def headsOf (M F : List Br) (d : Cmd) (a : Ans) : Bool := match firstNo (M ++ F).length (okH M F d) with
  | some _ => false
  | none => bif a.err == 0 && (d.kind == 2 || d.kind == 3) then idEq (headW F d.branch) d.new else brsEq M F
def headsB (L : List Br) (c : Cmd) (a : Ans) : Bool := bif FitsB (cutL L) (cutC c) a then headsOf (cutL L) (FitsL (cutL L) (cutC c) a) (cutC c) a else ((FitsL (cutL L) (cutC c) a).length : Int) == 0
def T5 : Trans := fun args K => match args with
  | [x, y, z] => ∃ (L : List Br) (c : Cmd) (a : Ans), IsBrs x L ∧ IsCmd y c ∧ IsAns z a ∧ K (bl (headsB L c a)) []
  | _ => False
theorem brAt_app (M F : List Br) (i : Nat) : (if i < M.length then brAt M i else brAt F (i - M.length)) = brAt (M ++ F) i := by
  unfold brAt
  simp only [List.getD_eq_getElem?_getD]
  split
  · rename_i h; rw [List.getElem?_append_left h]
  · rename_i h; rw [List.getElem?_append_right (by omega)]
theorem X5 : EntOk Try.prog 5 (.lend T5) := by
  refine ⟨enters_of (fn := Try.f5) rfl rfl (by kernel_rfl), fun args R h => ?_⟩
  unfold T5 at h
  split at h
  case h_2 => exact h.elim
  obtain ⟨L, c, a, hx, hy, hz, h⟩ := h
  have hm : (cutL L).length ≤ 20 := by simp [cutL]; omega
  have hl : (FitsL (cutL L) (cutC c) a).length ≤ 21 := by have := len_FitsL (cutL L) (cutC c) a; omega
  refine Spec.args (args' := [brs L, c.av, a.av]) ⟨hx, hy, hz, trivial⟩ (mkS (v5 L (cutL L) (FitsL (cutL L) (cutC c) a) c (cutC c) a (fun i => i ≤ (cutL L ++ FitsL (cutL L) (cutC c) a).length ∧ ∀ j, j < i → okH (cutL L) (FitsL (cutL L) (cutC c) a) (cutC c) j = true) R) (tb (ac X6 (ac X7 (ac X8 (ac X9 (ac X24 (ac X25 (ac X26 az)))))))) rfl rfl ?_)
  simp only [true_and, and_true, and_self, implies_true, forall_const, gEq_true, natle_iff, decide_eq_true_eq, decide_eq_false_iff_not, Int.toNat_natCast, cond_bt, cond_bf, Bool.cond_true, Bool.not_true, false_implies, implies_true, Bool.true_eq_false, Bool.false_eq_true, Bool.not_eq_true', Bool.not_eq_false']
  unfold headsB at h
  generalize hM : cutL L = M at *
  generalize hd : cutC c = d at *
  generalize hF : FitsL M d a = F at *
  have bsh : ∀ b : List Br, IsBrs (AV.rows 33 b.length fun i => AV.agg [AV.pl (Value.string (brAt b (0 + i)).name), AV.iarr IntKind.u8 32 (brAt b (0 + i)).id]) b := fun b => ⟨rfl, rfl, fun i _ => by dsimp only; rw [Nat.zero_add]; rfl⟩
  have hlen : (M ++ F).length = M.length + F.length := by simp
  have hmax : 1000 ≤ maxLen := by rw [maxLen_eq]; omega
  refine ⟨L, isBrs_self L, c, isCmd_self c, by omega, M, d, a, by rw [hM]; exact bsh M, by rw [hd]; exact isCmd_self d, isAns_self a, by unfold Bd; omega, fun _ _ => rfl, fun hf => ?_, fun hf => ⟨by omega, M, by rw [hM]; exact bsh M, by unfold Bd; omega, fun _ _ => rfl, by rw [hF]; exact ⟨by omega, by omega, by omega⟩, ⟨0, ⟨by rw [hM], by rw [hF], by rw [hF, hlen], by rw [hF, hlen], rfl⟩, ⟨⟨by rw [hd], by rw [hd], by rw [hd], by rw [hd], fun _ _ => by rw [hd], fun _ _ => by rw [hd], by rw [hd], fun _ _ => by rw [hd]⟩, ⟨by rw [hM]; exact Nat.le_refl _, fun _ _ => by rw [hM]⟩, ⟨by rw [hF]; exact Nat.le_refl _, fun _ _ => by rw [hF]⟩, by rw [hF]; omega, fun i _ => ?_⟩, Nat.zero_le _, fun j hj => by omega⟩, fun x hx => ⟨fun hlt => ⟨⟨by omega, by omega⟩, by omega, fun hne => ⟨by omega, M, bsh M, by omega, F, bsh F, fun hno => ?_, fun hyes => ⟨x + 1, by rw [wrap64] <;> omega, ⟨Nat.le_refl _, Nat.le_refl _, Nat.le_refl _⟩, ⟨by omega, allTo hx.2 ?_⟩, by omega⟩⟩, fun heq => ⟨x + 1, by rw [wrap64] <;> omega, ⟨Nat.le_refl _, Nat.le_refl _, Nat.le_refl _⟩, ⟨by omega, allTo hx.2 ?_⟩, by omega⟩⟩, fun hge => ⟨fun hk => ⟨by omega, F, bsh F, ?_⟩, fun hk => ⟨⟨by omega, by omega⟩, M, F, bsh M, bsh F, ?_⟩⟩⟩⟩⟩
  · rw [hF]
    rw [hf] at h
    exact h
  · rw [hF, Nat.zero_add, ← brAt_app]
    split <;> rfl
  · rw [hf, cond_true, headsOf, firstNo_some (by omega) hx.2 (i := x)] at h
    · exact h
    · rw [okH]
      simp only [Nat.zero_add] at hne hno
      rw [hne, Bool.false_or]
      exact hno
  · rw [okH]
    simp only [Nat.zero_add] at hyes
    rw [show idEq _ _ = true from hyes, Bool.or_true]
  · rw [okH]
    simp only [Nat.zero_add] at heq
    rw [heq, Bool.true_or]
  · have : x = (M ++ F).length := by omega
    subst this
    rw [hf, cond_true, headsOf, firstNo_none hx.2] at h
    simp only [hk, cond_true] at h
    exact h
  · have : x = (M ++ F).length := by omega
    subst this
    rw [hf, cond_true, headsOf, firstNo_none hx.2] at h
    simp only [hk, cond_false] at h
    exact h
end Go.Proofs.R1

namespace Go.Proofs.R1
open Go Go.Am

theorem idEq_self (a : Idv) : idEq a a = true := by simp [idEq]
theorem idEq_symm {a b : Idv} (h : idEq a b = true) : idEq b a = true := by
  simp only [idEq, List.all_eq_true, beq_iff_eq] at h ⊢
  exact fun i hi => (h i hi).symm
theorem brsEq_self : ∀ L : List Br, brsEq L L = true := by
  intro L
  induction L with
  | nil => rfl
  | cons b L ih => simp [brsEq, brEq, idEq_self, ih]
theorem headW_app {s : ByteArray} : ∀ {A B : List Br}, (∀ b ∈ A, b.name.toList ≠ s.toList) → headW (A ++ B) s = headW B s := by
  intro A
  induction A with
  | nil => intro B _; rfl
  | cons a A ih =>
    intro B h
    have h0 : (a.name.toList == s.toList) = false := by simpa using h a List.mem_cons_self
    rw [List.cons_append, headW, h0, cond_false]
    exact ih fun b hb => h b (List.mem_cons_of_mem _ hb)
theorem headW_skip {s : ByteArray} {b : Br} (hb : b.name.toList ≠ s.toList) : ∀ {A B : List Br}, headW (A ++ b :: B) s = headW (A ++ B) s := by
  intro A
  induction A with
  | nil =>
    intro B
    have h0 : (b.name.toList == s.toList) = false := by simpa using hb
    rw [List.nil_append, headW, h0, cond_false, List.nil_append]
  | cons a A ih => intro B; rw [List.cons_append, List.cons_append, headW, headW, ih]
theorem headW_none {s : ByteArray} {A : List Br} (h : ∀ b ∈ A, b.name.toList ≠ s.toList) : headW A s = z0 := by
  have := headW_app (B := []) h
  rw [List.append_nil] at this
  rw [this]; rfl
theorem headW_here {s : ByteArray} {b : Br} (hb : b.name.toList = s.toList) {A B : List Br} (h : ∀ b ∈ A, b.name.toList ≠ s.toList) : headW (A ++ b :: B) s = b.id := by
  rw [headW_app h, headW]
  simp [hb]

theorem mem_takeW {p : Br → Bool} : ∀ {L : List Br} {b : Br}, b ∈ L.takeWhile p → p b = true := by
  intro L
  induction L with
  | nil => intro b h; cases h
  | cons c L ih =>
    intro b h
    rw [List.takeWhile_cons] at h
    split at h
    · rename_i hp
      rcases List.mem_cons.1 h with rfl | h
      · exact hp
      · exact ih h
    · cases h
theorem take_drop (p : Br → Bool) (L : List Br) : L = L.takeWhile p ++ L.dropWhile p := (List.takeWhile_append_dropWhile).symm
/-- A sorted row, parted at a name. -/
theorem part {L : List Br} (hs : Sorted L) (s : ByteArray) : ∃ A B, L = A ++ B ∧ findI L s = A.length ∧ (∀ b ∈ A, b.name.toList ≠ s.toList) ∧
    ((hasB L s = true ∧ ∃ b C, B = b :: C ∧ b.name.toList = s.toList ∧ ∀ c ∈ C, c.name.toList ≠ s.toList) ∨ (hasB L s = false ∧ ∀ b ∈ B, b.name.toList ≠ s.toList)) := by
  refine ⟨L.takeWhile fun b => lt b.name.toList s.toList, L.dropWhile fun b => lt b.name.toList s.toList, take_drop _ L, rfl, fun b hb => ?_, ?_⟩
  · exact lt_ne (mem_takeW (p := fun b => lt b.name.toList s.toList) hb)
  · have hA : ∀ b ∈ L.takeWhile fun b => lt b.name.toList s.toList, b.name.toList ≠ s.toList := fun b hb => lt_ne (mem_takeW (p := fun b => lt b.name.toList s.toList) hb)
    have hL := take_drop (fun b => lt b.name.toList s.toList) L
    generalize L.takeWhile (fun b => lt b.name.toList s.toList) = A at hA hL
    cases hB : L.dropWhile (fun b => lt b.name.toList s.toList) with
    | nil =>
      right
      rw [hB, List.append_nil] at hL
      refine ⟨?_, fun b hb => by cases hb⟩
      rw [hL, hasB, List.any_eq_false]
      intro b hb
      simpa using hA b hb
    | cons b C =>
      rw [hB] at hL
      have hb : lt b.name.toList s.toList = false := by
        have := List.head?_dropWhile_not (fun b : Br => lt b.name.toList s.toList) L
        rw [hB] at this
        simpa using this
      have hC : ∀ c ∈ C, lt b.name.toList c.name.toList = true := by
        intro c hc
        rw [hL] at hs
        exact (List.pairwise_cons.1 (List.pairwise_append.1 hs).2.1).1 c hc
      rcases ge_of_not_lt hb with he | hgt
      · left
        refine ⟨?_, b, C, rfl, he, fun c hc hh => ?_⟩
        · rw [hL, hasB, List.any_eq_true]
          exact ⟨b, by simp, by simpa using he⟩
        · have := hC c hc
          rw [hh, he, lt_irrefl] at this
          cases this
      · right
        have hall : ∀ c ∈ b :: C, c.name.toList ≠ s.toList := by
          intro c hc
          rcases List.mem_cons.1 hc with rfl | hc
          · exact (lt_ne hgt).symm
          · exact (lt_ne (lt_trans hgt (hC c hc))).symm
        refine ⟨?_, hall⟩
        rw [hL, hasB, List.any_eq_false]
        intro c hc
        rcases List.mem_append.1 hc with hc | hc
        · simpa using hA c hc
        · simpa using hall c hc

theorem del_part (A C : List Br) (b : Br) : delB (A ++ b :: C) A.length = A ++ C := by simp [delB]
theorem put_part (A C : List Br) (b : Br) (x : Idv) : putId (A ++ b :: C) A.length x = A ++ ⟨b.name, x⟩ :: C := by
  have : brAt (A ++ b :: C) A.length = b := by simp [brAt]
  simp [putId, this]
theorem ins_part (A B : List Br) (b : Br) : insB (A ++ B) A.length b = A ++ b :: B := by simp [insB]

/-- The heads of other names stay. -/
theorem moved_other {L : List Br} (hs : Sorted L) (c : Cmd) {t : ByteArray} (ht : t.toList ≠ c.branch.toList) : headW (moved L c) t = headW L t := by
  obtain ⟨A, B, hL, hf, hA, hB⟩ := part hs c.branch
  unfold moved
  rcases hB with ⟨hh, b, C, rfl, hb, hC⟩ | ⟨hh, hB⟩
  · have hbt : b.name.toList ≠ t.toList := fun e => ht (by rw [← e, hb])
    cases h0 : idEq c.new z0 <;> simp only [hh, cond_true, cond_false]
    · rw [hf, hL, put_part, headW_skip hbt]
      exact headW_skip (b := ⟨b.name, c.new⟩) hbt
    · rw [hf, hL, del_part, headW_skip hbt]
  · cases h0 : idEq c.new z0 <;> simp only [hh, cond_true, cond_false]
    rw [hf, hL, ins_part]
    exact headW_skip (b := ⟨c.branch, c.new⟩) (fun e => ht e.symm)
/-- The head of the name that moves. -/
theorem moved_own {L : List Br} (hs : Sorted L) (c : Cmd) : idEq (headW (moved L c) c.branch) c.new = true := by
  obtain ⟨A, B, hL, hf, hA, hB⟩ := part hs c.branch
  unfold moved
  rcases hB with ⟨hh, b, C, rfl, hb, hC⟩ | ⟨hh, hB⟩
  · cases h0 : idEq c.new z0 <;> simp only [hh, cond_true, cond_false]
    · rw [hf, hL, put_part, headW_here (b := ⟨b.name, c.new⟩) hb hA]
      exact idEq_self _
    · rw [hf, hL, del_part, headW_app hA, headW_none hC]
      exact idEq_symm h0
  · cases h0 : idEq c.new z0 <;> simp only [hh, cond_true, cond_false]
    · rw [hf, hL, ins_part, headW_here (b := ⟨c.branch, c.new⟩) rfl hA]
      exact idEq_self _
    · rw [hL, headW_app hA, headW_none hB]
      exact idEq_symm h0

theorem heads_true (L : List Br) (c : Cmd) (a : Ans) : headsB L c a = true := by
  unfold headsB
  generalize cutL L = M
  generalize cutC c = d
  cases hF : FitsB M d a with
  | false => simp [FitsL, hF]
  | true =>
    rw [cond_true]
    have hFL : FitsL M d a = fitsL M d a := by rw [FitsL, hF, cond_true]
    rw [hFL]
    unfold FitsB at hF
    simp only [Bool.and_eq_true] at hF
    obtain ⟨⟨hr, hc⟩, hfit⟩ := hF
    have hs := right_sorted hr
    have hok : ∀ i, i < (M ++ fitsL M d a).length → okH M (fitsL M d a) d i = true := by
      intro i _
      unfold okH
      cases he : (brAt (M ++ fitsL M d a) i).name.toList == d.branch.toList with
      | true => rfl
      | false =>
        rw [Bool.false_or]
        have hne : (brAt (M ++ fitsL M d a) i).name.toList ≠ d.branch.toList := by simpa using he
        have : headW (fitsL M d a) (brAt (M ++ fitsL M d a) i).name = headW M (brAt (M ++ fitsL M d a) i).name := by
          generalize (brAt (M ++ fitsL M d a) i).name = t at hne
          unfold fitsL
          cases (d.kind == 1 || d.kind == 4 || (d.kind == 2 && !idEq (headI M d.branch) d.old) || !ansEq a 0 d.new) with
          | true => rfl
          | false => exact moved_other hs d hne
        rw [this]
        exact idEq_self _
    rw [headsOf, firstNo_none hok]
    simp only
    have hk : 1 ≤ d.kind ∧ d.kind ≤ 4 := by
      unfold checkB at hc
      simp only [Bool.and_eq_true, decide_eq_true_eq] at hc
      exact ⟨hc.1.1.1.1.1.1.1, hc.1.1.1.1.1.1.2⟩
    cases hx : (a.err == 0 && (d.kind == 2 || d.kind == 3)) with
    | true =>
      rw [cond_true]
      simp only [Bool.and_eq_true, Bool.or_eq_true, beq_iff_eq] at hx
      obtain ⟨he, hk2⟩ := hx
      have k1 : (d.kind == 1) = false := by simp; omega
      have k4 : (d.kind == 4) = false := by simp; omega
      unfold fitsB at hfit
      rw [k1, k4, cond_false, cond_false] at hfit
      unfold fitsL
      rw [k1, k4, Bool.false_or, Bool.false_or]
      cases hst : (d.kind == 2 && !idEq (headI M d.branch) d.old) with
      | true =>
        rw [hst, cond_true, ansEq, he] at hfit
        simp at hfit
      | false =>
        rw [hst, cond_false] at hfit
        cases hans : ansEq a 0 d.new with
        | true =>
          simp only [Bool.not_true, Bool.or_false, cond_false]
          exact moved_own hs d
        | false =>
          rw [hans, cond_false, isB, isB, he] at hfit
          simp at hfit
    | false =>
      rw [cond_false]
      have : fitsL M d a = M := by
        unfold fitsL
        cases h1 : (d.kind == 1 || d.kind == 4) with
        | true => simp
        | false =>
          have hk2 : (d.kind == 2 || d.kind == 3) = true := by
            simp at h1 ⊢; omega
          rw [hk2, Bool.and_true] at hx
          have : ansEq a 0 d.new = false := by rw [ansEq, hx, Bool.false_and]
          rw [this]
          simp
      rw [this]
      exact brsEq_self M
end Go.Proofs.R1

namespace Go.Proofs.R1
open Go Go.Am

theorem g22 : goodT Try.prog 6 22 = true := by kernel_rfl
theorem g31 : goodT Try.prog 6 31 = true := by kernel_rfl
theorem g34 : goodT Try.prog 6 34 = true := by kernel_rfl
theorem c45 : Try.prog.cellsOf 45 = 33 := by kernel_rfl
theorem c5 : Try.prog.cellsOf 5 = 1 := by kernel_rfl
theorem partsId {n : Nat} {Xs : List AV} (h : Parts Try.prog (n + 1) 28 Xs) : ∃ f, Xs = [.iarr .u8 32 f] := by
  obtain ⟨f, hf, _⟩ := Parts.array Try.underlying28 Try.underlying5 h
  exact ⟨f, hf⟩
theorem partsBr {n : Nat} {Xs : List AV} (h : Parts Try.prog (n + 2) 45 Xs) : ∃ b : Br, Xs = [.pl (.string b.name), .iarr .u8 32 b.id] := by
  obtain ⟨_, _, rfl, h1, _, _, rfl, h2, rfl⟩ := Parts.struct Try.underlying45 h
  obtain ⟨s, rfl, _⟩ := Parts.string Try.underlying9 h1
  obtain ⟨f, rfl⟩ := partsId h2
  exact ⟨⟨s, f⟩, rfl⟩
theorem partsBrs {Xs : List AV} (h : Parts Try.prog 6 22 Xs) : ∃ L : List Br, IsBrs (wrapV Try.prog 22 Xs) L := by
  obtain ⟨m, f, rfl, _, h1⟩ := Parts.slice Try.underlying22 h
  obtain ⟨L, hl, hL⟩ := list_of (fun i (b : Br) => f i = b.av) m (fun i hi => by
    obtain ⟨Ys, hp, hf⟩ := h1 i hi
    obtain ⟨b, rfl⟩ := partsBr hp
    rw [wrapE_struct Try.underlying45] at hf
    exact ⟨b, hf⟩)
  refine ⟨L, ?_⟩
  rw [wrapV_slice Try.underlying22, c45]
  refine ⟨rfl, hl.symm, fun i hi => ?_⟩
  rw [hL i (by omega)]
  simp [brsF, brAt, hl, hi]
theorem partsData {n : Nat} {Xs : List AV} (h : Parts Try.prog (n + 2) 29 Xs) : ∃ m f, Xs = [.rows 1 m f] := by
  obtain ⟨m, f, rfl, _⟩ := Parts.slice Try.underlying29 h
  exact ⟨m, f, by rw [c5]⟩
theorem partsCmd {n : Nat} {Xs : List AV} (h : Parts Try.prog (n + 3) 31 Xs) : ∃ c : Cmd, Xs = partsL c.av := by
  obtain ⟨_, _, rfl, h1, _, _, rfl, h2, _, _, rfl, h3, _, _, rfl, h4, _, _, rfl, h5, _, _, rfl, h6, _, _, rfl, h7, rfl⟩ := Parts.struct Try.underlying31 h
  obtain ⟨k, rfl, _⟩ := Parts.int Try.underlying3 h1
  obtain ⟨cl, rfl, _⟩ := Parts.int Try.underlying3 h2
  obtain ⟨sq, rfl, _⟩ := Parts.int Try.underlying26 h3
  obtain ⟨s, rfl, _⟩ := Parts.string Try.underlying9 h4
  obtain ⟨o, rfl⟩ := partsId h5
  obtain ⟨w, rfl⟩ := partsId h6
  obtain ⟨m, f, rfl⟩ := partsData h7
  exact ⟨⟨k, cl, sq, s, o, w, m, f⟩, rfl⟩
theorem partsAns {n : Nat} {Xs : List AV} (h : Parts Try.prog (n + 2) 34 Xs) : ∃ a : Ans, Xs = partsL a.av := by
  obtain ⟨_, _, rfl, h1, _, _, rfl, h2, rfl⟩ := Parts.struct Try.underlying34 h
  obtain ⟨k, rfl, _⟩ := Parts.int Try.underlying32 h1
  obtain ⟨f, rfl⟩ := partsId h2
  exact ⟨⟨k, f⟩, rfl⟩

/-- What IdealHeads computes of all that it may be given: true. -/
theorem heads_spec (xs : List AV) (h : ArgsOf Try.prog 6 Try.f5.params.toList xs) : Am.Spec Try.prog 5 xs fun y _ => y = .pl (.bool true) := by
  rw [Try.params5] at h
  obtain ⟨Ys, xs, rfl, hp, h⟩ := args_cons h
  obtain ⟨Zs, xs, rfl, hq, h⟩ := args_cons h
  obtain ⟨Ws, xs, rfl, hr, h⟩ := args_cons h
  obtain rfl := args_nil h
  obtain ⟨L, hL⟩ := partsBrs hp
  obtain ⟨c, rfl⟩ := partsCmd hq
  obtain ⟨a, rfl⟩ := partsAns hr
  refine X5.2 _ _ ⟨L, c, a, hL, ?_, ?_, ?_⟩
  · rw [wrapV_struct Try.underlying31]; exact isCmd_self c
  · rw [wrapV_struct Try.underlying34]; exact isAns_self a
  · rw [heads_true]
end Go.Proofs.R1

namespace Go.Proofs.Ytbjonljojnjceaa
open Go Go.Am Go.ChangeShapes Go.WideShapes Go.ChangeAt Go.RowKit Go.Proofs.R1

theorem Try.own : ownKnob Try.prog.godebug = none := by kernel_rfl
theorem Try.laidOut : laidOutB Try.prog = true := by kernel_rfl
theorem heads_types : ∀ t ∈ Try.f5.params.toList, goodT Try.prog 6 t = true ∧ Try.prog.readableRec t = true ∧ t < Try.prog.types.size := by
  rw [Try.params5]
  intro t ht
  rcases List.mem_cons.1 ht with rfl | ht
  · exact ⟨g22, by kernel_rfl, of_decide_eq_true (by kernel_rfl)⟩
  rcases List.mem_cons.1 ht with rfl | ht
  · exact ⟨g31, by kernel_rfl, of_decide_eq_true (by kernel_rfl)⟩
  rcases List.mem_cons.1 ht with rfl | ht
  · exact ⟨g34, by kernel_rfl, of_decide_eq_true (by kernel_rfl)⟩
  cases ht
theorem heads_fn {H : Type} (ds : List (DataW H)) (h : ds.length = Try.f5.params.toList.length) : Rows.idealHeadsSpec.fn H (ds ++ []) = { results := [.lit (.bool true)], args := ds, vars := [] } := by
  rw [Try.params5] at h
  match ds, h with
  | [d1, d2, d3], _ => rfl

set_option maxRecDepth 100000 in
theorem idealHeads_lifted (os : Os) (started : os.Started) (H : Type) (enc : TypeId × Value → H) :
    ReturnsInHanded {} Try.checked os 5 .any (Rows.idealHeadsSpec.pre6 enc Try.prog Try.f5 Rows.idealHeadsRow.domain false) (Rows.idealHeadsSpec.post enc Try.prog Try.f5 false true false false) := by
  refine returnsInHanded_of_change (C := Try.checked) Try.own started (by kernel_rfl) Try.func5
    (ChangeSpec.witness6 (enc := enc) (C := Try.checked) false ⟨#[], #[.slice none 0 0, .agg (#[.int .i64 0, .int .i64 0, .int .u32 0, .string ByteArray.empty] ++ Array.replicate 64 (.int .u8 0) ++ #[.slice none 0 0]), .agg (#[.int .i64 0] ++ Array.replicate 32 (.int .u8 0))], []⟩ 8 (by kernel_rfl) (by kernel_rfl) (by kernel_rfl) (by kernel_rfl)) ?_
  intro W base args ds gs before hval hW _ _
  exact law_post (tb := 4) (n := 6) Try.laidOut heads_types rfl (fun ds h => heads_fn ds h) rfl (by kernel_rfl) heads_spec hval hW

theorem idealHeads_holds : Rows.IdealHeadsSaid :=
  OpenClaim.holds_of_wide 5 Try.f5 rfl rfl rfl rfl rfl rfl rfl ⟨rfl, rfl, rfl, rfl, rfl⟩ rfl rfl rfl rfl rfl (by kernel_rfl) Try.func5 (by kernel_rfl)
    (of_decide_eq_true (by kernel_rfl)) (by unfold Func.isWrapper; first | (rw [if_pos (by decide +kernel)]; kernel_rfl) | (rw [if_neg (by decide +kernel)]; exact ⟨rfl, rfl⟩))
    (fun os started H enc _ => idealHeads_lifted os started H enc)
end Go.Proofs.Ytbjonljojnjceaa
