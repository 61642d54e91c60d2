/- Seat r1: contracts of Fits, Does, of what is cut short, of a head found by a walk. Seat r1: what is computed of a list of pasts. Seat r1: contracts of Check and of the rows in an order. Seat r1: what is computed of an order of pasts. Seat r1: the contract of Order. Seat r1: what is computed of an order of pasts that is judged. Seat r1: the contract of Judge. Seat r1: the law that the laws wake, and IdealHeads, as what is computed. Seat r1: the contracts of first and wakes. -/
import Derived.Test.YtbjonljojnjceaaSA
import Derived.Test.YtbjonljojnjceaaMC
namespace Go.Proofs.R1
open Go Go.Am

theorem v9 (L : List Br) (c : Cmd) (a : Ans) (R : AV → List LObj → Prop) :
    (vcA false 0 [] Try.prog (mkTab [(28, .lend T28), (29, .lend T29), (30, .lend T30)]) (Try.f9.body.getD .skip) ([]) (finalK Try.prog Try.f9 (fun y H => ∃ _ : Unit, leSt 0 ⟨[y], H⟩ ⟨[.tup [.own 0 0 (FitsL L c a).length, bl (FitsB L c a)]], [brsO (FitsL L c a)]⟩ (R (.tup [.own 0 0 (FitsL L c a).length, bl (FitsB L c a)]) [brsO (FitsL L c a)]))) (startSt Try.f9 ([brs L, c.av, a.av]))) = (
    True ∧
      True ∧
        ∃ (L_1 : List Br),
          IsBrs (AV.rows (33 : Nat) L.length (brsF L)) L_1 ∧
            (gEq (!rightB L_1) false = true →
                ∃ (c_1 : Cmd),
                  IsCmd
                      (AV.agg
                        [AV.pl (Value.int IntKind.i64 c.kind), AV.pl (Value.int IntKind.i64 c.client),
                          AV.pl (Value.int IntKind.u32 c.seq), AV.pl (Value.string c.branch),
                          AV.iarr IntKind.u8 (32 : Nat) c.old, AV.iarr IntKind.u8 (32 : Nat) c.new,
                          AV.rows (1 : Nat) c.dn c.df])
                      c_1 ∧
                    true = true ∧
                      ((bif false then true else checkE c_1 != (0 : Int)) = true →
                          (True ∧ True ∧ True) ∧
                            (True ∧ True ∧ True) ∧
                              ∃ (_ : Unit),
                                (((True ∧ True ∧ (0 : Nat) = (0 : Nat) ∧ (FitsL L c a).length = (0 : Nat)) ∧
                                      false = FitsB L c a ∧ True) ∧
                                    True) ∧
                                  ((FitsL L c a).length = (0 : Nat) ∧ True) ∧
                                    R
                                      (AV.tup
                                        [AV.own (0 : Nat) (0 : Nat) (FitsL L c a).length, AV.pl (Value.bool (FitsB L c a))])
                                      [LObj.row (33 : Nat) (45 : Nat) (FitsL L c a).length (brsF (FitsL L c a))]) ∧
                        ((bif false then true else checkE c_1 != (0 : Int)) = false →
                          ∃ (L_2 : List Br),
                            ∃ (c_2 : Cmd),
                              ∃ (a_3 : Ans),
                                IsBrs (AV.rows (33 : Nat) L.length (brsF L)) L_2 ∧
                                  IsCmd
                                      (AV.agg
                                        [AV.pl (Value.int IntKind.i64 c.kind), AV.pl (Value.int IntKind.i64 c.client),
                                          AV.pl (Value.int IntKind.u32 c.seq), AV.pl (Value.string c.branch),
                                          AV.iarr IntKind.u8 (32 : Nat) c.old, AV.iarr IntKind.u8 (32 : Nat) c.new,
                                          AV.rows (1 : Nat) c.dn c.df])
                                      c_2 ∧
                                    IsAns (AV.agg [AV.pl (Value.int IntKind.i64 a.err), AV.iarr IntKind.u8 (32 : Nat) a.id])
                                        a_3 ∧
                                      Bd L_2 ∧
                                        Sorted L_2 ∧
                                          ((!fitsB L_2 c_2 a_3) = true →
                                              (True ∧ True ∧ True) ∧
                                                (True ∧ True ∧ True) ∧
                                                  ∃ (_ : Unit),
                                                    (((True ∧
                                                            True ∧
                                                              (0 : Nat) = (0 : Nat) ∧ (FitsL L c a).length = (0 : Nat)) ∧
                                                          false = FitsB L c a ∧ True) ∧
                                                        True) ∧
                                                      ((FitsL L c a).length = (0 : Nat) ∧ True) ∧
                                                        R
                                                          (AV.tup
                                                            [AV.own (0 : Nat) (0 : Nat) (FitsL L c a).length,
                                                              AV.pl (Value.bool (FitsB L c a))])
                                                          [LObj.row (33 : Nat) (45 : Nat) (FitsL L c a).length
                                                              (brsF (FitsL L c a))]) ∧
                                            ((!fitsB L_2 c_2 a_3) = false →
                                              (True ∧ True ∧ True) ∧
                                                True ∧
                                                  ∃ (_ : Unit),
                                                    (((True ∧
                                                            (0 : Nat) = (0 : Nat) ∧
                                                              (fitsL L_2 c_2 a_3).length = (FitsL L c a).length) ∧
                                                          true = FitsB L c a ∧ True) ∧
                                                        True) ∧
                                                      (((33 : Nat) = (33 : Nat) ∧
                                                            (45 : Nat) = (45 : Nat) ∧
                                                              (FitsL L c a).length.le (fitsL L_2 c_2 a_3).length ∧
                                                                ∀ (i : Nat),
                                                                  i < (FitsL L c a).length →
                                                                    AV.agg
                                                                        [AV.pl
                                                                            (Value.string
                                                                              (brAt (fitsL L_2 c_2 a_3) i).name),
                                                                          AV.iarr IntKind.u8 (32 : Nat)
                                                                            (brAt (fitsL L_2 c_2 a_3) i).id] =
                                                                      AV.agg
                                                                        [AV.pl (Value.string (brAt (FitsL L c a) i).name),
                                                                          AV.iarr IntKind.u8 (32 : Nat)
                                                                            (brAt (FitsL L c a) i).id]) ∧
                                                          True) ∧
                                                        R
                                                          (AV.tup
                                                            [AV.own (0 : Nat) (0 : Nat) (FitsL L c a).length,
                                                              AV.pl (Value.bool (FitsB L c a))])
                                                          [LObj.row (33 : Nat) (45 : Nat) (FitsL L c a).length
                                                              (brsF (FitsL L c a))]))) ∧
              (gEq (!rightB L_1) false = false →
                true = true ∧
                  (true = true →
                      (True ∧ True ∧ True) ∧
                        (True ∧ True ∧ True) ∧
                          ∃ (_ : Unit),
                            (((True ∧ True ∧ (0 : Nat) = (0 : Nat) ∧ (FitsL L c a).length = (0 : Nat)) ∧
                                  false = FitsB L c a ∧ True) ∧
                                True) ∧
                              ((FitsL L c a).length = (0 : Nat) ∧ True) ∧
                                R
                                  (AV.tup
                                    [AV.own (0 : Nat) (0 : Nat) (FitsL L c a).length, AV.pl (Value.bool (FitsB L c a))])
                                  [LObj.row (33 : Nat) (45 : Nat) (FitsL L c a).length (brsF (FitsL L c a))]) ∧
                    (true = false →
                      ∃ (L_2 : List Br),
                        ∃ (c_1 : Cmd),
                          ∃ (a_3 : Ans),
                            IsBrs (AV.rows (33 : Nat) L.length (brsF L)) L_2 ∧
                              IsCmd
                                  (AV.agg
                                    [AV.pl (Value.int IntKind.i64 c.kind), AV.pl (Value.int IntKind.i64 c.client),
                                      AV.pl (Value.int IntKind.u32 c.seq), AV.pl (Value.string c.branch),
                                      AV.iarr IntKind.u8 (32 : Nat) c.old, AV.iarr IntKind.u8 (32 : Nat) c.new,
                                      AV.rows (1 : Nat) c.dn c.df])
                                  c_1 ∧
                                IsAns (AV.agg [AV.pl (Value.int IntKind.i64 a.err), AV.iarr IntKind.u8 (32 : Nat) a.id])
                                    a_3 ∧
                                  Bd L_2 ∧
                                    Sorted L_2 ∧
                                      ((!fitsB L_2 c_1 a_3) = true →
                                          (True ∧ True ∧ True) ∧
                                            (True ∧ True ∧ True) ∧
                                              ∃ (_ : Unit),
                                                (((True ∧ True ∧ (0 : Nat) = (0 : Nat) ∧ (FitsL L c a).length = (0 : Nat)) ∧
                                                      false = FitsB L c a ∧ True) ∧
                                                    True) ∧
                                                  ((FitsL L c a).length = (0 : Nat) ∧ True) ∧
                                                    R
                                                      (AV.tup
                                                        [AV.own (0 : Nat) (0 : Nat) (FitsL L c a).length,
                                                          AV.pl (Value.bool (FitsB L c a))])
                                                      [LObj.row (33 : Nat) (45 : Nat) (FitsL L c a).length
                                                          (brsF (FitsL L c a))]) ∧
                                        ((!fitsB L_2 c_1 a_3) = false →
                                          (True ∧ True ∧ True) ∧
                                            True ∧
                                              ∃ (_ : Unit),
                                                (((True ∧
                                                        (0 : Nat) = (0 : Nat) ∧
                                                          (fitsL L_2 c_1 a_3).length = (FitsL L c a).length) ∧
                                                      true = FitsB L c a ∧ True) ∧
                                                    True) ∧
                                                  (((33 : Nat) = (33 : Nat) ∧
                                                        (45 : Nat) = (45 : Nat) ∧
                                                          (FitsL L c a).length.le (fitsL L_2 c_1 a_3).length ∧
                                                            ∀ (i : Nat),
                                                              i < (FitsL L c a).length →
                                                                AV.agg
                                                                    [AV.pl (Value.string (brAt (fitsL L_2 c_1 a_3) i).name),
                                                                      AV.iarr IntKind.u8 (32 : Nat)
                                                                        (brAt (fitsL L_2 c_1 a_3) i).id] =
                                                                  AV.agg
                                                                    [AV.pl (Value.string (brAt (FitsL L c a) i).name),
                                                                      AV.iarr IntKind.u8 (32 : Nat)
                                                                        (brAt (FitsL L c a) i).id]) ∧
                                                      True) ∧
                                                    R
                                                      (AV.tup
                                                        [AV.own (0 : Nat) (0 : Nat) (FitsL L c a).length,
                                                          AV.pl (Value.bool (FitsB L c a))])
                                                      [LObj.row (33 : Nat) (45 : Nat) (FitsL L c a).length
                                                          (brsF (FitsL L c a))])))) := by kernel_rfl
theorem v10 (L : List Br) (c : Cmd) (R : AV → List LObj → Prop) :
    (vcA false 0 [] Try.prog (mkTab [(28, .lend T28), (29, .lend T29), (30, .lend T30), (25, .lend T25)]) (Try.f10.body.getD .skip) ([]) (finalK Try.prog Try.f10 (fun y H => ∃ _ : Unit, leSt 0 ⟨[y], H⟩ ⟨[.own 0 0 (DoesL L c).length], [brsO (DoesL L c)]⟩ (R (.own 0 0 (DoesL L c).length) [brsO (DoesL L c)]))) (startSt Try.f10 ([brs L, c.av]))) = (
    True ∧
      ∃ (L_1 : List Br),
        IsBrs (AV.rows (33 : Nat) L.length (brsF L)) L_1 ∧
          (gEq (!rightB L_1) false = true →
              ∃ (c_1 : Cmd),
                IsCmd
                    (AV.agg
                      [AV.pl (Value.int IntKind.i64 c.kind), AV.pl (Value.int IntKind.i64 c.client),
                        AV.pl (Value.int IntKind.u32 c.seq), AV.pl (Value.string c.branch),
                        AV.iarr IntKind.u8 (32 : Nat) c.old, AV.iarr IntKind.u8 (32 : Nat) c.new,
                        AV.rows (1 : Nat) c.dn c.df])
                    c_1 ∧
                  true = true ∧
                    ((bif false then true else checkE c_1 != (0 : Int)) = true →
                        (True ∧ True) ∧
                          True ∧
                            ∃ (_ : Unit),
                              ((True ∧ True ∧ (0 : Nat) = (0 : Nat) ∧ (DoesL L c).length = (0 : Nat)) ∧ True) ∧
                                ((DoesL L c).length = (0 : Nat) ∧ True) ∧
                                  R (AV.own (0 : Nat) (0 : Nat) (DoesL L c).length)
                                    [LObj.row (33 : Nat) (45 : Nat) (DoesL L c).length (brsF (DoesL L c))]) ∧
                      ((bif false then true else checkE c_1 != (0 : Int)) = false →
                        ((bif c.kind == (1 : Int) then true else c.kind == (4 : Int)) = true →
                            ∃ (L_2 : List Br),
                              IsBrs (AV.rows (33 : Nat) L.length (brsF L)) L_2 ∧
                                Bd L_2 ∧
                                  (True ∧ True) ∧
                                    True ∧
                                      ∃ (_ : Unit),
                                        ((True ∧ (0 : Nat) = (0 : Nat) ∧ L_2.length = (DoesL L c).length) ∧ True) ∧
                                          (((33 : Nat) = (33 : Nat) ∧
                                                (45 : Nat) = (45 : Nat) ∧
                                                  (DoesL L c).length.le L_2.length ∧
                                                    ∀ (i : Nat),
                                                      i < (DoesL L c).length →
                                                        AV.agg
                                                            [AV.pl (Value.string (brAt L_2 i).name),
                                                              AV.iarr IntKind.u8 (32 : Nat) (brAt L_2 i).id] =
                                                          AV.agg
                                                            [AV.pl (Value.string (brAt (DoesL L c) i).name),
                                                              AV.iarr IntKind.u8 (32 : Nat) (brAt (DoesL L c) i).id]) ∧
                                              True) ∧
                                            R (AV.own (0 : Nat) (0 : Nat) (DoesL L c).length)
                                              [LObj.row (33 : Nat) (45 : Nat) (DoesL L c).length (brsF (DoesL L c))]) ∧
                          ((bif c.kind == (1 : Int) then true else c.kind == (4 : Int)) = false →
                            ∃ (L_2 : List Br),
                              ∃ (c_2 : Cmd),
                                ∃ (a : Ans),
                                  IsBrs (AV.rows (33 : Nat) L.length (brsF L)) L_2 ∧
                                    IsCmd
                                        (AV.agg
                                          [AV.pl (Value.int IntKind.i64 c.kind), AV.pl (Value.int IntKind.i64 c.client),
                                            AV.pl (Value.int IntKind.u32 c.seq), AV.pl (Value.string c.branch),
                                            AV.iarr IntKind.u8 (32 : Nat) c.old, AV.iarr IntKind.u8 (32 : Nat) c.new,
                                            AV.rows (1 : Nat) c.dn c.df])
                                        c_2 ∧
                                      IsAns
                                          (AV.agg
                                            [AV.pl (Value.int IntKind.i64 (0 : Int)), AV.iarr IntKind.u8 (32 : Nat) c.new])
                                          a ∧
                                        Bd L_2 ∧
                                          Sorted L_2 ∧
                                            ((!fitsB L_2 c_2 a) = true →
                                                ∃ (L_3 : List Br),
                                                  IsBrs (AV.rows (33 : Nat) L.length (brsF L)) L_3 ∧
                                                    Bd L_3 ∧
                                                      (True ∧ True) ∧
                                                        True ∧
                                                          ∃ (_ : Unit),
                                                            ((True ∧
                                                                  (0 : Nat) = (0 : Nat) ∧ L_3.length = (DoesL L c).length) ∧
                                                                True) ∧
                                                              (((33 : Nat) = (33 : Nat) ∧
                                                                    (45 : Nat) = (45 : Nat) ∧
                                                                      (DoesL L c).length.le L_3.length ∧
                                                                        ∀ (i : Nat),
                                                                          i < (DoesL L c).length →
                                                                            AV.agg
                                                                                [AV.pl (Value.string (brAt L_3 i).name),
                                                                                  AV.iarr IntKind.u8 (32 : Nat)
                                                                                    (brAt L_3 i).id] =
                                                                              AV.agg
                                                                                [AV.pl
                                                                                    (Value.string
                                                                                      (brAt (DoesL L c) i).name),
                                                                                  AV.iarr IntKind.u8 (32 : Nat)
                                                                                    (brAt (DoesL L c) i).id]) ∧
                                                                  True) ∧
                                                                R (AV.own (0 : Nat) (0 : Nat) (DoesL L c).length)
                                                                  [LObj.row (33 : Nat) (45 : Nat) (DoesL L c).length
                                                                      (brsF (DoesL L c))]) ∧
                                              ((!fitsB L_2 c_2 a) = false →
                                                (True ∧ True) ∧
                                                  True ∧
                                                    ∃ (_ : Unit),
                                                      ((True ∧
                                                            (0 : Nat) = (0 : Nat) ∧
                                                              (fitsL L_2 c_2 a).length = (DoesL L c).length) ∧
                                                          True) ∧
                                                        (((33 : Nat) = (33 : Nat) ∧
                                                              (45 : Nat) = (45 : Nat) ∧
                                                                (DoesL L c).length.le (fitsL L_2 c_2 a).length ∧
                                                                  ∀ (i : Nat),
                                                                    i < (DoesL L c).length →
                                                                      AV.agg
                                                                          [AV.pl
                                                                              (Value.string
                                                                                (brAt (fitsL L_2 c_2 a) i).name),
                                                                            AV.iarr IntKind.u8 (32 : Nat)
                                                                              (brAt (fitsL L_2 c_2 a) i).id] =
                                                                        AV.agg
                                                                          [AV.pl (Value.string (brAt (DoesL L c) i).name),
                                                                            AV.iarr IntKind.u8 (32 : Nat)
                                                                              (brAt (DoesL L c) i).id]) ∧
                                                            True) ∧
                                                          R (AV.own (0 : Nat) (0 : Nat) (DoesL L c).length)
                                                            [LObj.row (33 : Nat) (45 : Nat) (DoesL L c).length
                                                                (brsF (DoesL L c))])))) ∧
            (gEq (!rightB L_1) false = false →
              true = true ∧
                (true = true →
                    (True ∧ True) ∧
                      True ∧
                        ∃ (_ : Unit),
                          ((True ∧ True ∧ (0 : Nat) = (0 : Nat) ∧ (DoesL L c).length = (0 : Nat)) ∧ True) ∧
                            ((DoesL L c).length = (0 : Nat) ∧ True) ∧
                              R (AV.own (0 : Nat) (0 : Nat) (DoesL L c).length)
                                [LObj.row (33 : Nat) (45 : Nat) (DoesL L c).length (brsF (DoesL L c))]) ∧
                  (true = false →
                    ((bif c.kind == (1 : Int) then true else c.kind == (4 : Int)) = true →
                        ∃ (L_2 : List Br),
                          IsBrs (AV.rows (33 : Nat) L.length (brsF L)) L_2 ∧
                            Bd L_2 ∧
                              (True ∧ True) ∧
                                True ∧
                                  ∃ (_ : Unit),
                                    ((True ∧ (0 : Nat) = (0 : Nat) ∧ L_2.length = (DoesL L c).length) ∧ True) ∧
                                      (((33 : Nat) = (33 : Nat) ∧
                                            (45 : Nat) = (45 : Nat) ∧
                                              (DoesL L c).length.le L_2.length ∧
                                                ∀ (i : Nat),
                                                  i < (DoesL L c).length →
                                                    AV.agg
                                                        [AV.pl (Value.string (brAt L_2 i).name),
                                                          AV.iarr IntKind.u8 (32 : Nat) (brAt L_2 i).id] =
                                                      AV.agg
                                                        [AV.pl (Value.string (brAt (DoesL L c) i).name),
                                                          AV.iarr IntKind.u8 (32 : Nat) (brAt (DoesL L c) i).id]) ∧
                                          True) ∧
                                        R (AV.own (0 : Nat) (0 : Nat) (DoesL L c).length)
                                          [LObj.row (33 : Nat) (45 : Nat) (DoesL L c).length (brsF (DoesL L c))]) ∧
                      ((bif c.kind == (1 : Int) then true else c.kind == (4 : Int)) = false →
                        ∃ (L_2 : List Br),
                          ∃ (c_1 : Cmd),
                            ∃ (a : Ans),
                              IsBrs (AV.rows (33 : Nat) L.length (brsF L)) L_2 ∧
                                IsCmd
                                    (AV.agg
                                      [AV.pl (Value.int IntKind.i64 c.kind), AV.pl (Value.int IntKind.i64 c.client),
                                        AV.pl (Value.int IntKind.u32 c.seq), AV.pl (Value.string c.branch),
                                        AV.iarr IntKind.u8 (32 : Nat) c.old, AV.iarr IntKind.u8 (32 : Nat) c.new,
                                        AV.rows (1 : Nat) c.dn c.df])
                                    c_1 ∧
                                  IsAns
                                      (AV.agg
                                        [AV.pl (Value.int IntKind.i64 (0 : Int)), AV.iarr IntKind.u8 (32 : Nat) c.new])
                                      a ∧
                                    Bd L_2 ∧
                                      Sorted L_2 ∧
                                        ((!fitsB L_2 c_1 a) = true →
                                            ∃ (L_3 : List Br),
                                              IsBrs (AV.rows (33 : Nat) L.length (brsF L)) L_3 ∧
                                                Bd L_3 ∧
                                                  (True ∧ True) ∧
                                                    True ∧
                                                      ∃ (_ : Unit),
                                                        ((True ∧ (0 : Nat) = (0 : Nat) ∧ L_3.length = (DoesL L c).length) ∧
                                                            True) ∧
                                                          (((33 : Nat) = (33 : Nat) ∧
                                                                (45 : Nat) = (45 : Nat) ∧
                                                                  (DoesL L c).length.le L_3.length ∧
                                                                    ∀ (i : Nat),
                                                                      i < (DoesL L c).length →
                                                                        AV.agg
                                                                            [AV.pl (Value.string (brAt L_3 i).name),
                                                                              AV.iarr IntKind.u8 (32 : Nat)
                                                                                (brAt L_3 i).id] =
                                                                          AV.agg
                                                                            [AV.pl (Value.string (brAt (DoesL L c) i).name),
                                                                              AV.iarr IntKind.u8 (32 : Nat)
                                                                                (brAt (DoesL L c) i).id]) ∧
                                                              True) ∧
                                                            R (AV.own (0 : Nat) (0 : Nat) (DoesL L c).length)
                                                              [LObj.row (33 : Nat) (45 : Nat) (DoesL L c).length
                                                                  (brsF (DoesL L c))]) ∧
                                          ((!fitsB L_2 c_1 a) = false →
                                            (True ∧ True) ∧
                                              True ∧
                                                ∃ (_ : Unit),
                                                  ((True ∧
                                                        (0 : Nat) = (0 : Nat) ∧
                                                          (fitsL L_2 c_1 a).length = (DoesL L c).length) ∧
                                                      True) ∧
                                                    (((33 : Nat) = (33 : Nat) ∧
                                                          (45 : Nat) = (45 : Nat) ∧
                                                            (DoesL L c).length.le (fitsL L_2 c_1 a).length ∧
                                                              ∀ (i : Nat),
                                                                i < (DoesL L c).length →
                                                                  AV.agg
                                                                      [AV.pl (Value.string (brAt (fitsL L_2 c_1 a) i).name),
                                                                        AV.iarr IntKind.u8 (32 : Nat)
                                                                          (brAt (fitsL L_2 c_1 a) i).id] =
                                                                    AV.agg
                                                                      [AV.pl (Value.string (brAt (DoesL L c) i).name),
                                                                        AV.iarr IntKind.u8 (32 : Nat)
                                                                          (brAt (DoesL L c) i).id]) ∧
                                                        True) ∧
                                                      R (AV.own (0 : Nat) (0 : Nat) (DoesL L c).length)
                                                        [LObj.row (33 : Nat) (45 : Nat) (DoesL L c).length
                                                            (brsF (DoesL L c))]))))) := by kernel_rfl
theorem v7 (L : List Br) (inv : Nat → Prop) (R : AV → List LObj → Prop) :
    (vcA false 0 [] Try.prog (mkTab []) (Try.f7.body.getD .skip) ([.loop 3 Nat inv (fun i => ⟨slotsOf 36 0 [(3, .own 0 0 (L.take 20).length), (13, nm (L.take 20).length), (14, nm i)], [brsO (cutTo L i)]⟩) (fun i => L.length - i) (fun _ => [])]) (finalK Try.prog Try.f7 (R)) (startSt Try.f7 ([brs L]))) = (
    True ∧
      ((0 : Int) ≤ (0 : Int) ∧
          ((0 : Int) ≤ if (20 : Int) < (↑L.length : Int) then (20 : Int) else (↑L.length : Int)) ∧
            (if (20 : Int) < (↑L.length : Int) then (20 : Int) else (↑L.length : Int)) ≤ (↑L.length : Int)) ∧
        (True ∧
            ((if (20 : Int) < (↑L.length : Int) then (20 : Int) else (↑L.length : Int)).toNat - Int.toNat (0 : Int)).le
                maxLen ∧
              (((if (20 : Int) < (↑L.length : Int) then (20 : Int) else (↑L.length : Int)).toNat - Int.toNat (0 : Int)) *
                    (48 : Nat)).le
                (140737488355328 : Nat)) ∧
          (∃ (x : Nat),
              ((True ∧
                    (0 : Nat) = (0 : Nat) ∧
                      (if (20 : Int) < (↑L.length : Int) then (20 : Int) else (↑L.length : Int)).toNat -
                          Int.toNat (0 : Int) =
                        (List.take (20 : Nat) L).length) ∧
                  (↑((if (20 : Int) < (↑L.length : Int) then (20 : Int) else (↑L.length : Int)).toNat -
                            Int.toNat (0 : Int)) :
                        Int) =
                      (↑(List.take (20 : Nat) L).length : Int) ∧
                    (0 : Int) = (↑x : Int) ∧ True) ∧
                (((33 : Nat) = (33 : Nat) ∧
                      (45 : Nat) = (45 : Nat) ∧
                        (cutTo L x).length.le
                            ((if (20 : Int) < (↑L.length : Int) then (20 : Int) else (↑L.length : Int)).toNat -
                              Int.toNat (0 : Int)) ∧
                          ∀ (i : Nat),
                            i < (cutTo L x).length →
                              AV.agg
                                  [AV.pl (Value.string (brAt L (Int.toNat (0 : Int) + i)).name),
                                    AV.iarr IntKind.u8 (32 : Nat) (brAt L (Int.toNat (0 : Int) + i)).id] =
                                AV.agg
                                  [AV.pl (Value.string (brAt (cutTo L x) i).name),
                                    AV.iarr IntKind.u8 (32 : Nat) (brAt (cutTo L x) i).id]) ∧
                    True) ∧
                  inv x) ∧
            ∀ (x : Nat),
              inv x →
                (decide ((↑x : Int) < (↑(List.take (20 : Nat) L).length : Int)) = true →
                    ((0 : Int) ≤ (↑x : Int) ∧ (↑x : Int) + (1 : Int) ≤ (↑(List.take (20 : Nat) L).length : Int)) ∧
                      ((0 : Int) ≤ (↑x : Int) ∧ (↑x : Int) + (1 : Int) ≤ (↑(List.take (20 : Nat) L).length : Int)) ∧
                        (((0 : Nat) + (↑x : Int).toNat).succ.le (cutTo L x).length ∧ True) ∧
                          (((0 : Nat) + (↑x : Int).toNat).succ.le (cutTo L x).length ∧ True) ∧
                            ((0 : Int) ≤ (↑x : Int) ∧ (↑x : Int) + (1 : Int) ≤ (↑(List.take (20 : Nat) L).length : Int)) ∧
                              ((0 : Int) ≤ (↑x : Int) ∧ (↑x : Int) + (1 : Int) ≤ (↑(List.take (20 : Nat) L).length : Int)) ∧
                                (((0 : Nat) + (↑x : Int).toNat).succ.le (cutTo L x).length ∧ True) ∧
                                  (((0 : Nat) + (↑x : Int).toNat).succ.le (cutTo L x).length ∧ True) ∧
                                    ((0 : Int) ≤ (0 : Int) ∧
                                        ((0 : Int) ≤
                                            if
                                                (30 : Int) <
                                                  (↑(brAt (cutTo L x) ((0 : Nat) + (↑x : Int).toNat)).name.size : Int) then
                                              (30 : Int)
                                            else (↑(brAt (cutTo L x) ((0 : Nat) + (↑x : Int).toNat)).name.size : Int)) ∧
                                          (if
                                                (30 : Int) <
                                                  (↑(brAt (cutTo L x) ((0 : Nat) + (↑x : Int).toNat)).name.size : Int) then
                                              (30 : Int)
                                            else (↑(brAt (cutTo L x) ((0 : Nat) + (↑x : Int).toNat)).name.size : Int)) ≤
                                            (↑(brAt (cutTo L x) ((0 : Nat) + (↑x : Int).toNat)).name.size : Int)) ∧
                                      ((0 : Int) ≤ (0 : Int) ∧
                                          ((0 : Int) ≤
                                              if
                                                  (30 : Int) <
                                                    (↑(brAt (cutTo L x) ((0 : Nat) + (↑x : Int).toNat)).name.size :
                                                      Int) then
                                                (30 : Int)
                                              else (↑(brAt (cutTo L x) ((0 : Nat) + (↑x : Int).toNat)).name.size : Int)) ∧
                                            (if
                                                  (30 : Int) <
                                                    (↑(brAt (cutTo L x) ((0 : Nat) + (↑x : Int).toNat)).name.size :
                                                      Int) then
                                                (30 : Int)
                                              else (↑(brAt (cutTo L x) ((0 : Nat) + (↑x : Int).toNat)).name.size : Int)) ≤
                                              (↑(brAt (cutTo L x) ((0 : Nat) + (↑x : Int).toNat)).name.size : Int)) ∧
                                        ((0 : Int) ≤ (↑x : Int) ∧
                                            (↑x : Int) + (1 : Int) ≤ (↑(List.take (20 : Nat) L).length : Int)) ∧
                                          ((0 : Int) ≤ (↑x : Int) ∧
                                              (↑x : Int) + (1 : Int) ≤ (↑(List.take (20 : Nat) L).length : Int)) ∧
                                            (((0 : Nat) + (↑x : Int).toNat).succ.le (cutTo L x).length ∧ True) ∧
                                              ∃ (y : Nat),
                                                ((True ∧
                                                      (0 : Nat) = (0 : Nat) ∧
                                                        (List.take (20 : Nat) L).length = (List.take (20 : Nat) L).length) ∧
                                                    (↑(List.take (20 : Nat) L).length : Int) =
                                                        (↑(List.take (20 : Nat) L).length : Int) ∧
                                                      IntKind.i64.wrap ((↑x : Int) + (1 : Int)) = (↑y : Int) ∧ True) ∧
                                                  (((33 : Nat) = (33 : Nat) ∧
                                                        (45 : Nat) = (45 : Nat) ∧
                                                          (cutTo L y).length.le (cutTo L x).length ∧
                                                            ∀ (i : Nat),
                                                              i < (cutTo L y).length →
                                                                (if i = (0 : Nat) + (↑x : Int).toNat then
                                                                    AV.agg
                                                                      [AV.pl
                                                                          (Value.string
                                                                            ((brAt (cutTo L x)
                                                                                    ((0 : Nat) +
                                                                                      (↑x : Int).toNat)).name.extract
                                                                              (Int.toNat (0 : Int))
                                                                              (if
                                                                                    (30 : Int) <
                                                                                      (↑(brAt (cutTo L x)
                                                                                                ((0 : Nat) +
                                                                                                  (↑x :
                                                                                                      Int).toNat)).name.size :
                                                                                        Int) then
                                                                                  (30 : Int)
                                                                                else
                                                                                  (↑(brAt (cutTo L x)
                                                                                            ((0 : Nat) +
                                                                                              (↑x : Int).toNat)).name.size :
                                                                                    Int)).toNat)),
                                                                        AV.iarr IntKind.u8 (32 : Nat)
                                                                          (brAt (cutTo L x)
                                                                              ((0 : Nat) + (↑x : Int).toNat)).id]
                                                                  else
                                                                    AV.agg
                                                                      [AV.pl (Value.string (brAt (cutTo L x) i).name),
                                                                        AV.iarr IntKind.u8 (32 : Nat)
                                                                          (brAt (cutTo L x) i).id]) =
                                                                  AV.agg
                                                                    [AV.pl (Value.string (brAt (cutTo L y) i).name),
                                                                      AV.iarr IntKind.u8 (32 : Nat)
                                                                        (brAt (cutTo L y) i).id]) ∧
                                                      True) ∧
                                                    inv y ∧ (L.length - y).succ.le (L.length - x)) ∧
                  (decide ((↑x : Int) < (↑(List.take (20 : Nat) L).length : Int)) = false →
                    (True ∧ True) ∧
                      True ∧
                        R (AV.own (0 : Nat) (0 : Nat) (List.take (20 : Nat) L).length)
                          [LObj.row (33 : Nat) (45 : Nat) (cutTo L x).length (brsF (cutTo L x))])) := by kernel_rfl
theorem v8 (c : Cmd) (R : AV → List LObj → Prop) :
    (vcA false 0 [] Try.prog (mkTab []) (Try.f8.body.getD .skip) ([]) (finalK Try.prog Try.f8 (R)) (startSt Try.f8 ([c.av]))) = (
    True ∧
      True ∧
        ((0 : Int) ≤ (0 : Int) ∧
            ((0 : Int) ≤ if (30 : Int) < (↑c.branch.size : Int) then (30 : Int) else (↑c.branch.size : Int)) ∧
              (if (30 : Int) < (↑c.branch.size : Int) then (30 : Int) else (↑c.branch.size : Int)) ≤
                (↑c.branch.size : Int)) ∧
          ((0 : Int) ≤ (0 : Int) ∧
              ((0 : Int) ≤ if (30 : Int) < (↑c.branch.size : Int) then (30 : Int) else (↑c.branch.size : Int)) ∧
                (if (30 : Int) < (↑c.branch.size : Int) then (30 : Int) else (↑c.branch.size : Int)) ≤
                  (↑c.branch.size : Int)) ∧
            ((0 : Int) ≤ (0 : Int) ∧
                ((0 : Int) ≤ if (801 : Int) < (↑c.dn : Int) then (801 : Int) else (↑c.dn : Int)) ∧
                  (if (801 : Int) < (↑c.dn : Int) then (801 : Int) else (↑c.dn : Int)) ≤ (↑c.dn : Int)) ∧
              ((0 : Int) ≤ (0 : Int) ∧
                  ((0 : Int) ≤ if (801 : Int) < (↑c.dn : Int) then (801 : Int) else (↑c.dn : Int)) ∧
                    (if (801 : Int) < (↑c.dn : Int) then (801 : Int) else (↑c.dn : Int)) ≤ (↑c.dn : Int)) ∧
                True ∧
                  (True ∧
                      ((if (801 : Int) < (↑c.dn : Int) then (801 : Int) else (↑c.dn : Int)).toNat - Int.toNat (0 : Int)).le
                          maxLen ∧
                        (((if (801 : Int) < (↑c.dn : Int) then (801 : Int) else (↑c.dn : Int)).toNat -
                                Int.toNat (0 : Int)) *
                              (1 : Nat)).le
                          (140737488355328 : Nat)) ∧
                    True ∧
                      True ∧
                        True ∧
                          (True ∧ True) ∧
                            (True ∧
                                True ∧
                                  True ∧
                                    True ∧
                                      True ∧
                                        True ∧
                                          ((0 : Nat) +
                                                  ((if (801 : Int) < (↑c.dn : Int) then (801 : Int)
                                                      else (↑c.dn : Int)).toNat -
                                                    Int.toNat (0 : Int))).le
                                              ((if (801 : Int) < (↑c.dn : Int) then (801 : Int) else (↑c.dn : Int)).toNat -
                                                Int.toNat (0 : Int)) ∧
                                            True) ∧
                              R
                                (AV.agg
                                  [AV.pl (Value.int IntKind.i64 c.kind), AV.pl (Value.int IntKind.i64 c.client),
                                    AV.pl (Value.int IntKind.u32 c.seq),
                                    AV.pl
                                      (Value.string
                                        (c.branch.extract (Int.toNat (0 : Int))
                                          (if (30 : Int) < (↑c.branch.size : Int) then (30 : Int)
                                            else (↑c.branch.size : Int)).toNat)),
                                    AV.iarr IntKind.u8 (32 : Nat) c.old, AV.iarr IntKind.u8 (32 : Nat) c.new,
                                    AV.rows (1 : Nat)
                                      ((if (801 : Int) < (↑c.dn : Int) then (801 : Int) else (↑c.dn : Int)).toNat -
                                        Int.toNat (0 : Int))
                                      fun (i : Nat) => c.df (Int.toNat (0 : Int) + ((0 : Nat) + i))])
                                []) := by kernel_rfl
theorem v24 (L : List Br) (s : ByteArray) (inv : Nat → Prop) (R : AV → List LObj → Prop) :
    (vcA false 0 [] Try.prog (mkTab []) (Try.f24.body.getD .skip) ([.loop 2 Nat inv (fun i => ⟨slotsOf 21 0 [(1, st s), (4, .ptr 0 0 0 0), (7, brs L), (8, nm L.length), (9, nm i)], [.box 28 [.iarr .u8 32 z0]]⟩) (fun i => L.length - i) (fun _ => [])]) (finalK Try.prog Try.f24 (R)) (startSt Try.f24 ([brs L, st s]))) = (
    True ∧
      (∃ (x : Nat),
          (s = s ∧
              (True ∧ (0 : Nat) = (0 : Nat) ∧ (0 : Nat) = (0 : Nat) ∧ (0 : Nat) = (0 : Nat)) ∧
                ((33 : Nat) = (33 : Nat) ∧ L.length = L.length ∧ ∀ (i : Nat), i < L.length → brsF L i = brsF L i) ∧
                  (↑L.length : Int) = (↑L.length : Int) ∧ (0 : Int) = (↑x : Int) ∧ True) ∧
            (((28 : Nat) = (28 : Nat) ∧
                  (IntKind.u8 = IntKind.u8 ∧ (32 : Nat) = (32 : Nat) ∧ ∀ (i : Nat), i < (32 : Nat) → (0 : Int) = z0 i) ∧
                    True) ∧
                True) ∧
              inv x) ∧
        ∀ (x : Nat),
          inv x →
            (decide ((↑x : Int) < (↑L.length : Int)) = true →
                ((0 : Int) ≤ (↑x : Int) ∧ (↑x : Int) + (1 : Int) ≤ (↑L.length : Int)) ∧
                  True ∧
                    True ∧
                      (((brAt L (↑x : Int).toNat).name.toList == s.toList) = true →
                          True ∧
                            (True ∧ True) ∧
                              (True ∧ True) ∧ R (AV.agg [AV.iarr IntKind.u8 (32 : Nat) (brAt L (↑x : Int).toNat).id]) []) ∧
                        (((brAt L (↑x : Int).toNat).name.toList == s.toList) = false →
                          ∃ (y : Nat),
                            (s = s ∧
                                (True ∧ (0 : Nat) = (0 : Nat) ∧ (0 : Nat) = (0 : Nat) ∧ (0 : Nat) = (0 : Nat)) ∧
                                  ((33 : Nat) = (33 : Nat) ∧
                                      L.length = L.length ∧ ∀ (i : Nat), i < L.length → brsF L i = brsF L i) ∧
                                    (↑L.length : Int) = (↑L.length : Int) ∧
                                      IntKind.i64.wrap ((↑x : Int) + (1 : Int)) = (↑y : Int) ∧ True) ∧
                              (((28 : Nat) = (28 : Nat) ∧
                                    (IntKind.u8 = IntKind.u8 ∧
                                        (32 : Nat) = (32 : Nat) ∧ ∀ (i : Nat), i < (32 : Nat) → z0 i = z0 i) ∧
                                      True) ∧
                                  True) ∧
                                inv y ∧ (L.length - y).succ.le (L.length - x))) ∧
              (decide ((↑x : Int) < (↑L.length : Int)) = false →
                True ∧
                  (True ∧ True) ∧ (True ∧ True) ∧ R (AV.agg [AV.iarr IntKind.u8 (32 : Nat) fun (_ : Nat) => (0 : Int)]) [])) := by kernel_rfl

theorem sorted_of_right : ∀ (L : List Br) (last : List UInt8), rightFrom last L = true → (∀ b ∈ L, lt last b.name.toList = true) ∧ Sorted L := by
  intro L
  induction L with
  | nil => intro last _; exact ⟨fun b hb => (by cases hb), List.Pairwise.nil⟩
  | cons b L ih =>
    intro last h
    simp only [rightFrom, Bool.and_eq_true] at h
    obtain ⟨h1, h2⟩ := ih b.name.toList h.2
    refine ⟨fun b' hb' => ?_, List.Pairwise.cons h1 h2⟩
    rcases List.mem_cons.1 hb' with rfl | hb'
    · exact h.1.1.1
    · exact lt_trans h.1.1.1 (h1 b' hb')
theorem checkE_ne (c : Cmd) : (checkE c != 0) = !checkB c := by
  unfold checkE
  cases checkB c <;> rfl
theorem right_sorted {L : List Br} (h : rightB L = true) : Sorted L := (sorted_of_right L [] h).2
theorem X9 : EntOk Try.prog 9 (.lend T9) := by
  refine ⟨enters_of (fn := Try.f9) rfl rfl (by kernel_rfl), fun args R h => ?_⟩
  unfold T9 at h
  split at h
  case h_2 => exact h.elim
  obtain ⟨L, c, a, hx, hy, hz, hB, h⟩ := h
  refine Spec.args (args' := [brs L, c.av, a.av]) ⟨hx, hy, hz, trivial⟩ (Spec.weak (Z := Unit) (X := fun _ => .tup [.own 0 0 (FitsL L c a).length, bl (FitsB L c a)]) (HH := fun _ => [brsO (FitsL L c a)]) (mkS (v9 L c a R) (tb (ac X28 (ac X29 (ac X30 az)))) rfl rfl ?_))
  simp only [true_and, and_true, and_self, forall_const, gEq_false, natle_iff, Bool.cond_false, false_implies, Bool.true_eq_false, Bool.not_eq_true', Bool.not_eq_false']
  have fin : ∀ b M, M = FitsL L c a → b = FitsB L c a → (M.length = (FitsL L c a).length ∧ b = FitsB L c a) ∧ ((FitsL L c a).length ≤ M.length ∧ ∀ (i : Nat), i < (FitsL L c a).length → AV.agg [AV.pl (Value.string (brAt M i).name), AV.iarr IntKind.u8 32 (brAt M i).id] = AV.agg [AV.pl (Value.string (brAt (FitsL L c a) i).name), AV.iarr IntKind.u8 32 (brAt (FitsL L c a) i).id]) ∧
      R (AV.tup [AV.own 0 0 (FitsL L c a).length, AV.pl (Value.bool (FitsB L c a))]) [LObj.row 33 45 (FitsL L c a).length (brsF (FitsL L c a))] := by
    rintro M b rfl rfl
    exact ⟨⟨rfl, rfl⟩, ⟨Nat.le_refl _, fun _ _ => rfl⟩, h⟩
  have no : FitsB L c a = false → ((FitsL L c a).length = 0 ∧ false = FitsB L c a) ∧ (FitsL L c a).length = 0 ∧ R (AV.tup [AV.own 0 0 (FitsL L c a).length, AV.pl (Value.bool (FitsB L c a))]) [LObj.row 33 45 (FitsL L c a).length (brsF (FitsL L c a))] := by
    intro hb
    have h0 : (FitsL L c a).length = 0 := by unfold FitsL; rw [hb]; rfl
    exact ⟨⟨h0, hb.symm⟩, h0, h⟩
  refine ⟨L, isBrs_self L, fun hr => ⟨c, isCmd_self c, fun hc => ⟨(), no ?_⟩, fun hc => ⟨L, c, a, isBrs_self L, isCmd_self c, isAns_self a, hB, right_sorted hr, fun hf => ⟨(), no ?_⟩, fun hf => ⟨(), fin _ _ ?_ ?_⟩⟩⟩, fun hr => ⟨(), no ?_⟩⟩
  · rw [checkE_ne] at hc
    have : checkB c = false := by simpa using hc
    simp [FitsB, this]
  · simp [FitsB, hf]
  · rw [checkE_ne] at hc
    have : checkB c = true := by simpa using hc
    simp [FitsL, FitsB, hr, this, hf]
  · rw [checkE_ne] at hc
    have : checkB c = true := by simpa using hc
    simp [FitsB, hr, this, hf]
  · simp [FitsB, hr]
theorem X10 : EntOk Try.prog 10 (.lend T10) := by
  refine ⟨enters_of (fn := Try.f10) rfl rfl (by kernel_rfl), fun args R h => ?_⟩
  unfold T10 at h
  split at h
  case h_2 => exact h.elim
  obtain ⟨L, c, hx, hy, hB, h⟩ := h
  refine Spec.args (args' := [brs L, c.av]) ⟨hx, hy, trivial⟩ (Spec.weak (Z := Unit) (X := fun _ => .own 0 0 (DoesL L c).length) (HH := fun _ => [brsO (DoesL L c)]) (mkS (v10 L c R) (tb (ac X28 (ac X29 (ac X30 (ac X25 az))))) rfl rfl ?_))
  simp only [true_and, and_true, and_self, forall_const, gEq_false, natle_iff, cond_bt, Bool.cond_false, false_implies, Bool.true_eq_false, Bool.not_eq_true', Bool.not_eq_false']
  have fin : ∀ M, M = DoesL L c → M.length = (DoesL L c).length ∧ ((DoesL L c).length ≤ M.length ∧ ∀ (i : Nat), i < (DoesL L c).length → AV.agg [AV.pl (Value.string (brAt M i).name), AV.iarr IntKind.u8 32 (brAt M i).id] = AV.agg [AV.pl (Value.string (brAt (DoesL L c) i).name), AV.iarr IntKind.u8 32 (brAt (DoesL L c) i).id]) ∧
      R (AV.own 0 0 (DoesL L c).length) [LObj.row 33 45 (DoesL L c).length (brsF (DoesL L c))] := by
    rintro M rfl
    exact ⟨rfl, ⟨Nat.le_refl _, fun _ _ => rfl⟩, h⟩
  have no : (rightB L && checkB c) = false → (DoesL L c).length = 0 ∧ (DoesL L c).length = 0 ∧ R (AV.own 0 0 (DoesL L c).length) [LObj.row 33 45 (DoesL L c).length (brsF (DoesL L c))] := by
    intro hb
    have h0 : (DoesL L c).length = 0 := by unfold DoesL; rw [hb]; rfl
    exact ⟨h0, h0, h⟩
  refine ⟨L, isBrs_self L, fun hr => ⟨c, isCmd_self c, fun hc => ⟨(), no ?_⟩, fun hc => ⟨fun hk => ⟨L, isBrs_self L, hB, (), fin _ ?_⟩, fun hk => ⟨L, c, ⟨0, c.new⟩, isBrs_self L, isCmd_self c, isAns_self ⟨0, c.new⟩, hB, right_sorted hr, fun hf => ⟨L, isBrs_self L, hB, (), fin _ ?_⟩, fun hf => ⟨(), fin _ ?_⟩⟩⟩⟩, fun hr => ⟨(), no ?_⟩⟩
  · rw [checkE_ne] at hc
    have : checkB c = false := by simpa using hc
    simp [this]
  · rw [checkE_ne] at hc
    have : checkB c = true := by simpa using hc
    simp [DoesL, hr, this, hk]
  · rw [checkE_ne] at hc
    have : checkB c = true := by simpa using hc
    simp [DoesL, hr, this, hk, hf]
  · rw [checkE_ne] at hc
    have : checkB c = true := by simpa using hc
    simp [DoesL, hr, this, hk, hf]
  · simp [hr]
theorem X7 : EntOk Try.prog 7 (.lend T7) := by
  refine ⟨enters_of (fn := Try.f7) rfl rfl (by kernel_rfl), fun args R h => ?_⟩
  unfold T7 at h
  split at h
  case h_2 => exact h.elim
  obtain ⟨L, hx, h⟩ := h
  refine Spec.args (args' := [brs L]) ⟨hx, trivial⟩ (mkS (v7 L (fun i => i ≤ (L.take 20).length) R) (tb az) rfl rfl ?_)
  simp only [true_and, and_true, and_self, natle_iff, decide_eq_true_eq, decide_eq_false_iff_not, Int.toNat_natCast]
  have e0 : Int.toNat 0 = 0 := rfl
  have eq20 : (if (20 : Int) < (L.length : Int) then (20 : Int) else (L.length : Int)) = ((L.take 20).length : Int) := by
    rw [List.length_take]; split <;> omega
  have lc : ∀ i, (cutTo L i).length = (L.take 20).length := fun i => by unfold cutTo; simp only [List.length_append, List.length_map, List.length_drop, List.length_take]; omega
  have l20 : (L.take 20).length ≤ 20 := by rw [List.length_take]; omega
  have l20L : (L.take 20).length ≤ L.length := by rw [List.length_take]; omega
  rw [eq20, e0, maxLen_eq]
  simp only [Int.toNat_natCast, Nat.sub_zero, Nat.zero_add, lc]
  refine ⟨⟨by omega, by omega, by omega⟩, ⟨by omega, by omega⟩, ⟨0, ⟨trivial, trivial, rfl⟩, ⟨Nat.le_refl _, fun i hi => ?_⟩, Nat.zero_le _⟩, fun x hx => ⟨fun hlt => ?_, fun hge => ?_⟩⟩
  · have : brAt (cutTo L 0) i = brAt L i := by
      unfold brAt cutTo
      simp only [List.take_zero, List.map_nil, List.nil_append, List.drop_zero, List.getD_eq_getElem?_getD]
      rw [List.getElem?_take_of_lt (by omega)]
    rw [this]
  · have hx' : x < (L.take 20).length := by omega
    have hcs : ∀ n : Nat, (if (30 : Int) < (n : Int) then (30 : Int) else (n : Int)) = ((min n 30 : Nat) : Int) := fun n => by split <;> omega
    simp only [hcs, Int.toNat_natCast]
    have hc1 : brAt (cutTo L x) x = brAt (L.take 20) x := by
      unfold brAt cutTo
      simp only [List.getD_eq_getElem?_getD]
      rw [List.getElem?_append_right (by simp only [List.length_map, List.length_take]; omega), List.getElem?_drop]
      simp only [List.length_map, List.length_take]
      congr 2
      simp only [List.length_take] at hx'
      omega
    refine ⟨⟨by omega, by omega⟩, ⟨by omega, by omega⟩, by omega, by omega, ⟨by omega, by omega⟩, ⟨by omega, by omega⟩, by omega, by omega, ⟨by omega, by omega, by omega⟩, ⟨by omega, by omega, by omega⟩, ⟨by omega, by omega⟩, ⟨by omega, by omega⟩, by omega, x + 1, by rw [wrap64] <;> omega, ⟨Nat.le_refl _, fun i hi => ?_⟩, by omega, by omega⟩
    have hc2 : ∀ i, i < (L.take 20).length → brAt (cutTo L (x + 1)) i = if i = x then cutB (brAt (cutTo L x) x) else brAt (cutTo L x) i := by
      intro i hi
      rw [hc1]
      unfold brAt cutTo
      simp only [List.getD_eq_getElem?_getD]
      by_cases h1 : i = x
      · subst h1
        rw [if_pos rfl, List.getElem?_append_left (by simp only [List.length_map, List.length_take]; simp only [List.length_take] at hi; omega)]
        rw [List.getElem?_map, List.getElem?_take_of_lt (by omega), List.getElem?_eq_getElem hi]
        rfl
      · rw [if_neg h1]
        by_cases h2 : i < x
        · rw [List.getElem?_append_left (by simp only [List.length_map, List.length_take]; simp only [List.length_take] at hi; omega), List.getElem?_append_left (by simp only [List.length_map, List.length_take]; simp only [List.length_take] at hi; omega)]
          simp only [List.getElem?_map]
          rw [List.getElem?_take_of_lt (by omega), List.getElem?_take_of_lt h2]
        · have g1 : ((L.take 20).take (x + 1)).length = x + 1 := by simp only [List.length_take] at hx' ⊢; omega
          have g2 : ((L.take 20).take x).length = x := by simp only [List.length_take] at hx' ⊢; omega
          rw [List.getElem?_append_right (by rw [List.length_map, g1]; omega), List.getElem?_append_right (by rw [List.length_map, g2]; omega), List.length_map, List.length_map, g1, g2, List.getElem?_drop, List.getElem?_drop, show x + 1 + (i - (x + 1)) = x + (i - x) by omega]
    rw [hc2 i hi]
    by_cases h1 : i = x
    · rw [if_pos h1, if_pos h1]
      rfl
    · rw [if_neg h1, if_neg h1]
  · have hx' : x = (L.take 20).length := by omega
    subst hx'
    have hcut : cutTo L (L.take 20).length = cutL L := by
      unfold cutTo cutL
      rw [List.take_length, List.drop_length, List.append_nil]
    have hl := lc (L.take 20).length
    rw [hcut] at hl ⊢
    rw [← hl]
    exact h
theorem X8 : EntOk Try.prog 8 (.lend T8) := by
  refine ⟨enters_of (fn := Try.f8) rfl rfl (by kernel_rfl), fun args R h => ?_⟩
  unfold T8 at h
  split at h
  case h_2 => exact h.elim
  obtain ⟨c, hx, h⟩ := h
  refine Spec.args (args' := [c.av]) ⟨hx, trivial⟩ (mkS (v8 c R) (tb az) rfl rfl ?_)
  simp only [true_and, and_true, and_self, natle_iff]
  have e0 : Int.toNat 0 = 0 := rfl
  have hcs : ∀ n : Nat, (if (30 : Int) < (n : Int) then (30 : Int) else (n : Int)) = ((min n 30 : Nat) : Int) := fun n => by split <;> omega
  have hcd : ∀ n : Nat, (if (801 : Int) < (n : Int) then (801 : Int) else (n : Int)) = ((min n 801 : Nat) : Int) := fun n => by split <;> omega
  simp only [hcs, hcd, e0, Int.toNat_natCast, Nat.sub_zero, Nat.zero_add]
  rw [maxLen_eq]
  exact ⟨⟨by omega, by omega, by omega⟩, ⟨by omega, by omega, by omega⟩, ⟨by omega, by omega, by omega⟩, ⟨by omega, by omega, by omega⟩, ⟨by omega, by omega⟩, by omega, h⟩
theorem X24 : EntOk Try.prog 24 (.lend T24) := by
  refine ⟨enters_of (fn := Try.f24) rfl rfl (by kernel_rfl), fun args R h => ?_⟩
  unfold T24 at h
  split at h
  case h_2 => exact h.elim
  rename_i x s
  obtain ⟨L, hx, h⟩ := h
  refine Spec.args (args' := [brs L, st s]) ⟨hx, rfl, trivial⟩ (Spec.given fun hg => mkS (v24 L s (fun i => i ≤ L.length ∧ headW L s = headW (L.drop i) s) R) (tb az) rfl rfl ?_)
  simp only [true_and, and_true, and_self, implies_true, natle_iff, decide_eq_true_eq, decide_eq_false_iff_not, Int.toNat_natCast, implies_true]
  have hL : L.length ≤ 9223372036854775807 := by rw [← maxLen_eq]; exact hg.1
  refine ⟨⟨0, rfl, fun _ _ => rfl, Nat.zero_le _, rfl⟩, fun x hx => ⟨fun hlt => ⟨⟨by omega, by omega⟩, fun hb => ?_, fun hb => ⟨x + 1, by rw [wrap64] <;> omega, ⟨by omega, ?_⟩, by omega⟩⟩, fun hge => ?_⟩⟩
  · rw [hx.2, brAt_cons L x (by omega), headW, hb] at h
    exact h
  · rw [hx.2, brAt_cons L x (by omega), headW, hb]; rfl
  · have : x = L.length := by omega
    subst this
    rw [hx.2, List.drop_length] at h
    exact h
end Go.Proofs.R1

namespace Go.Proofs.R1
open Go Go.Am

/-- One command as it was asked and told. -/
structure Past where
  cmd : Cmd
  asked : Int
  told : Int
  ans : Ans
instance : Inhabited Past := ⟨⟨⟨0, 0, 0, ByteArray.empty, z0, z0, 0, fun _ => .any⟩, 0, 0, ⟨0, z0⟩⟩⟩
def Past.av (p : Past) : AV := .agg [.pl (.int .i64 p.cmd.kind), .pl (.int .i64 p.cmd.client), .pl (.int .u32 p.cmd.seq), .pl (.string p.cmd.branch), .iarr .u8 32 p.cmd.old, .iarr .u8 32 p.cmd.new, .rows 1 p.cmd.dn p.cmd.df, nm p.asked, nm p.told, nm p.ans.err, .iarr .u8 32 p.ans.id]
def pAt (L : List Past) (i : Nat) : Past := L.getD i default
def pastF (L : List Past) (i : Nat) : AV := (pAt L i).av
def pasts (L : List Past) : AV := .rows 104 L.length (pastF L)
def IsPasts (x : AV) (L : List Past) : Prop := leR x (pasts L)
theorem isPasts_self (L : List Past) : IsPasts (pasts L) L := ⟨rfl, rfl, fun _ _ => ⟨rfl, rfl, rfl, rfl, ⟨rfl, rfl, fun _ _ => rfl⟩, ⟨rfl, rfl, fun _ _ => rfl⟩, ⟨rfl, rfl, fun _ _ => rfl⟩, rfl, rfl, rfl, ⟨rfl, rfl, fun _ _ => rfl⟩, trivial⟩⟩
/-- An order: numbers of rows. -/
def oAt (o : List Int) (i : Nat) : Int := o.getD i 0
def ordF (o : List Int) (i : Nat) : AV := nm (oAt o i)
def ords (o : List Int) : AV := .rows 1 o.length (ordF o)
def IsOrd (x : AV) (o : List Int) : Prop := leR x (ords o)
theorem isOrd_self (o : List Int) : IsOrd (ords o) o := ⟨rfl, rfl, fun _ _ => rfl⟩

def keyP (p : Past) : Value := .agg #[.int .i64 p.cmd.client, .int .u32 p.cmd.seq]
def sameKey (p q : Past) : Bool := p.cmd.client == q.cmd.client && p.cmd.seq == q.cmd.seq
def dupP (L : List Past) (i : Nat) : Bool := (List.range i).any fun j => sameKey (pAt L j) (pAt L i)
def okP (L : List Past) (i : Nat) : Bool := checkB (pAt L i).cmd && decide (0 < (pAt L i).asked) && !dupP L i && (bif (pAt L i).told == 0 then (pAt L i).ans.err == 0 && idEq (pAt L i).ans.id z0 else decide ((pAt L i).asked ≤ (pAt L i).told))
/-- The first for which it is not so. -/
def firstNo (n : Nat) (ok : Nat → Bool) : Option Nat := (List.range n).find? fun i => !ok i
def outNo (r : Option Nat) (e : Int) : Int × Int := match r with
  | some i => (i, e)
  | none => (0, 0)
def chk (L : List Past) : Int × Int := bif decide (400 < L.length) then (0, 3) else outNo (firstNo L.length (okP L)) 340
def T17 : Trans := fun args K => match args with
  | [x] => ∃ L : List Past, IsPasts x L ∧ K (.tup [nm (chk L).1, nm (chk L).2]) []
  | _ => False
def hasK (L : List Past) (i : Nat) (v : Value) : Prop := ∃ j, j < i ∧ keyP (pAt L j) = v

/-- Each row, in an order. -/
def numOf : AV → Nat
  | .pl (.int _ m) => m.toNat
  | _ => 0
def rowX (f g : Nat → AV) (i : Nat) : List AV := [f i, g (numOf (f i))]
/-- A list of pasts, and an order of rows that there are. -/
def IsRows (n : Nat) (f : Nat → AV) (m : Nat) (g : Nat → AV) : Prop := n ≤ 1000000 ∧ ∃ (L : List Past) (o : List Int), n = o.length ∧ f = ordF o ∧ m = L.length ∧ g = pastF L ∧ ∀ i, i < n → 0 ≤ oAt o i ∧ oAt o i < m
def F41 : List AV → Option (Prop × Nat × (Nat → List AV)) := fun caps => match caps with
  | [.ipt (.agg [.rows 1 n f]) 0 0, .ipt (.agg [.rows 104 m g]) 0 0] => some (IsRows n f m g, n, rowX f g)
  | _ => none
def T33 : Trans := fun args K => match args with
  | [.rows 104 m g, .rows 1 n f] => K (.clo (.func 41) [.ipt (.agg [.rows 1 n f]) 0 0, .ipt (.agg [.rows 104 m g]) 0 0]) []
  | _ => False
end Go.Proofs.R1

namespace Go.Proofs.R1
open Go Go.Am

theorem v17 (L : List Past) (inv : Nat → Prop) (R : AV → List LObj → Prop) :
    (vcA false 0 [] Try.prog (mkTab [(29, .lend T29)] [(67, Two .i64 .u32)]) (Try.f17.body.getD .skip) ([.loop 5 Nat inv (fun i => ⟨slotsOf 66 0 [(4, .mp 0), (13, pasts L), (14, nm L.length), (15, nm i)], [.mapo 67 (Two .i64 .u32) (hasK L i) (fun _ => bl true)]⟩) (fun i => L.length - i) (fun _ => [])]) (finalK Try.prog Try.f17 (R)) (startSt Try.f17 ([pasts L]))) = (
    (decide ((↑L.length : Int) > (400 : Int)) = true →
        (True ∧ True ∧ True) ∧
          (True ∧ True ∧ True) ∧
            R (AV.tup [AV.pl (Value.int IntKind.i64 (0 : Int)), AV.pl (Value.int IntKind.i64 (3 : Int))]) []) ∧
      (decide ((↑L.length : Int) > (400 : Int)) = false →
        (∃ (x : Nat),
            (True ∧
                ((104 : Nat) = (104 : Nat) ∧ L.length = L.length ∧ ∀ (i : Nat), i < L.length → pastF L i = pastF L i) ∧
                  (↑L.length : Int) = (↑L.length : Int) ∧ (0 : Int) = (↑x : Int) ∧ True) ∧
              (((67 : Nat) = (67 : Nat) ∧
                    Two IntKind.i64 IntKind.u32 = Two IntKind.i64 IntKind.u32 ∧
                      (∀ (v : Value), False ↔ hasK L x v) ∧ ∀ (_ : Value), False → AV.any = AV.pl (Value.bool true)) ∧
                  True) ∧
                inv x) ∧
          ∀ (x : Nat),
            inv x →
              (decide ((↑x : Int) < (↑L.length : Int)) = true →
                  ((0 : Int) ≤ (↑x : Int) ∧ (↑x : Int) + (1 : Int) ≤ (↑L.length : Int)) ∧
                    True ∧
                      True ∧
                        True ∧
                          True ∧
                            ∃ (c : Cmd),
                              IsCmd
                                  (AV.agg
                                    [AV.pl (Value.int IntKind.i64 (pAt L (↑x : Int).toNat).cmd.kind),
                                      AV.pl (Value.int IntKind.i64 (pAt L (↑x : Int).toNat).cmd.client),
                                      AV.pl (Value.int IntKind.u32 (pAt L (↑x : Int).toNat).cmd.seq),
                                      AV.pl (Value.string (pAt L (↑x : Int).toNat).cmd.branch),
                                      AV.iarr IntKind.u8 (32 : Nat) (pAt L (↑x : Int).toNat).cmd.old,
                                      AV.iarr IntKind.u8 (32 : Nat) (pAt L (↑x : Int).toNat).cmd.new,
                                      AV.rows (1 : Nat) (pAt L (↑x : Int).toNat).cmd.dn (pAt L (↑x : Int).toNat).cmd.df])
                                  c ∧
                                (gEq
                                        (bif checkE c == (0 : Int) then decide ((pAt L (↑x : Int).toNat).asked > (0 : Int))
                                        else false)
                                        true =
                                      true →
                                    (67 : Nat) = (67 : Nat) ∧
                                      some (Two IntKind.i64 IntKind.u32) = some (Two IntKind.i64 IntKind.u32) ∧
                                        (∃ (a : Int),
                                            ∃ (b : Int),
                                              Value.agg
                                                  (Array.mk
                                                    [Value.int IntKind.i64 (pAt L (↑x : Int).toNat).cmd.client,
                                                      Value.int IntKind.u32 (pAt L (↑x : Int).toNat).cmd.seq]) =
                                                Value.agg (Array.mk [Value.int IntKind.i64 a, Value.int IntKind.u32 b])) ∧
                                          ∀ (c : Bool),
                                            (c = true ↔
                                                hasK L x
                                                    (Value.agg
                                                      #[Value.int IntKind.i64 (pAt L (↑x : Int).toNat).cmd.client,
                                                        Value.int IntKind.u32 (pAt L (↑x : Int).toNat).cmd.seq]) ∧
                                                  true = true) →
                                              true = true ∧
                                                (((pAt L (↑x : Int).toNat).told == (0 : Int)) = true →
                                                    ((!bif bif true then !c else false then
                                                              (pAt L (↑x : Int).toNat).ans.err == (0 : Int) &&
                                                                (((List.range (32 : Nat)).all fun (i : Nat) =>
                                                                    (pAt L (↑x : Int).toNat).ans.id i == (0 : Int)) &&
                                                                  true)
                                                            else false) =
                                                          true →
                                                        (True ∧ True ∧ True) ∧
                                                          (True ∧ True ∧ True) ∧
                                                            R
                                                              (AV.tup
                                                                [AV.pl (Value.int IntKind.i64 (↑x : Int)),
                                                                  AV.pl (Value.int IntKind.i64 (340 : Int))])
                                                              []) ∧
                                                      ((!bif bif true then !c else false then
                                                              (pAt L (↑x : Int).toNat).ans.err == (0 : Int) &&
                                                                (((List.range (32 : Nat)).all fun (i : Nat) =>
                                                                    (pAt L (↑x : Int).toNat).ans.id i == (0 : Int)) &&
                                                                  true)
                                                            else false) =
                                                          false →
                                                        (67 : Nat) = (67 : Nat) ∧
                                                          some (Two IntKind.i64 IntKind.u32) =
                                                              some (Two IntKind.i64 IntKind.u32) ∧
                                                            (∃ (a : Int),
                                                                ∃ (b : Int),
                                                                  Value.agg
                                                                      (Array.mk
                                                                        [Value.int IntKind.i64
                                                                            (pAt L (↑x : Int).toNat).cmd.client,
                                                                          Value.int IntKind.u32
                                                                            (pAt L (↑x : Int).toNat).cmd.seq]) =
                                                                    Value.agg
                                                                      (Array.mk
                                                                        [Value.int IntKind.i64 a,
                                                                          Value.int IntKind.u32 b])) ∧
                                                              ∃ (y : Nat),
                                                                (True ∧
                                                                    ((104 : Nat) = (104 : Nat) ∧
                                                                        L.length = L.length ∧
                                                                          ∀ (i : Nat),
                                                                            i < L.length → pastF L i = pastF L i) ∧
                                                                      (↑L.length : Int) = (↑L.length : Int) ∧
                                                                        IntKind.i64.wrap ((↑x : Int) + (1 : Int)) =
                                                                            (↑y : Int) ∧
                                                                          True) ∧
                                                                  (((67 : Nat) = (67 : Nat) ∧
                                                                        Two IntKind.i64 IntKind.u32 =
                                                                            Two IntKind.i64 IntKind.u32 ∧
                                                                          (∀ (v : Value),
                                                                              v =
                                                                                    Value.agg
                                                                                      #[Value.int IntKind.i64
                                                                                          (pAt L
                                                                                                (↑x :
                                                                                                    Int).toNat).cmd.client,
                                                                                        Value.int IntKind.u32
                                                                                          (pAt L
                                                                                                (↑x : Int).toNat).cmd.seq] ∨
                                                                                  hasK L x v ↔
                                                                                hasK L y v) ∧
                                                                            ∀ (v : Value),
                                                                              v =
                                                                                    Value.agg
                                                                                      #[Value.int IntKind.i64
                                                                                          (pAt L
                                                                                                (↑x :
                                                                                                    Int).toNat).cmd.client,
                                                                                        Value.int IntKind.u32
                                                                                          (pAt L
                                                                                                (↑x : Int).toNat).cmd.seq] ∨
                                                                                  hasK L x v →
                                                                                updV (fun (_ : Value) => bl true)
                                                                                    (Value.agg
                                                                                      #[Value.int IntKind.i64
                                                                                          (pAt L
                                                                                                (↑x :
                                                                                                    Int).toNat).cmd.client,
                                                                                        Value.int IntKind.u32
                                                                                          (pAt L (↑x : Int).toNat).cmd.seq])
                                                                                    (AV.pl (Value.bool true)) v =
                                                                                  AV.pl (Value.bool true)) ∧
                                                                      True) ∧
                                                                    inv y ∧ (L.length - y).succ.le (L.length - x))) ∧
                                                  (((pAt L (↑x : Int).toNat).told == (0 : Int)) = false →
                                                    ((!bif bif true then !c else false then
                                                              decide
                                                                ((pAt L (↑x : Int).toNat).told ≥
                                                                  (pAt L (↑x : Int).toNat).asked)
                                                            else false) =
                                                          true →
                                                        (True ∧ True ∧ True) ∧
                                                          (True ∧ True ∧ True) ∧
                                                            R
                                                              (AV.tup
                                                                [AV.pl (Value.int IntKind.i64 (↑x : Int)),
                                                                  AV.pl (Value.int IntKind.i64 (340 : Int))])
                                                              []) ∧
                                                      ((!bif bif true then !c else false then
                                                              decide
                                                                ((pAt L (↑x : Int).toNat).told ≥
                                                                  (pAt L (↑x : Int).toNat).asked)
                                                            else false) =
                                                          false →
                                                        (67 : Nat) = (67 : Nat) ∧
                                                          some (Two IntKind.i64 IntKind.u32) =
                                                              some (Two IntKind.i64 IntKind.u32) ∧
                                                            (∃ (a : Int),
                                                                ∃ (b : Int),
                                                                  Value.agg
                                                                      (Array.mk
                                                                        [Value.int IntKind.i64
                                                                            (pAt L (↑x : Int).toNat).cmd.client,
                                                                          Value.int IntKind.u32
                                                                            (pAt L (↑x : Int).toNat).cmd.seq]) =
                                                                    Value.agg
                                                                      (Array.mk
                                                                        [Value.int IntKind.i64 a,
                                                                          Value.int IntKind.u32 b])) ∧
                                                              ∃ (y : Nat),
                                                                (True ∧
                                                                    ((104 : Nat) = (104 : Nat) ∧
                                                                        L.length = L.length ∧
                                                                          ∀ (i : Nat),
                                                                            i < L.length → pastF L i = pastF L i) ∧
                                                                      (↑L.length : Int) = (↑L.length : Int) ∧
                                                                        IntKind.i64.wrap ((↑x : Int) + (1 : Int)) =
                                                                            (↑y : Int) ∧
                                                                          True) ∧
                                                                  (((67 : Nat) = (67 : Nat) ∧
                                                                        Two IntKind.i64 IntKind.u32 =
                                                                            Two IntKind.i64 IntKind.u32 ∧
                                                                          (∀ (v : Value),
                                                                              v =
                                                                                    Value.agg
                                                                                      #[Value.int IntKind.i64
                                                                                          (pAt L
                                                                                                (↑x :
                                                                                                    Int).toNat).cmd.client,
                                                                                        Value.int IntKind.u32
                                                                                          (pAt L
                                                                                                (↑x : Int).toNat).cmd.seq] ∨
                                                                                  hasK L x v ↔
                                                                                hasK L y v) ∧
                                                                            ∀ (v : Value),
                                                                              v =
                                                                                    Value.agg
                                                                                      #[Value.int IntKind.i64
                                                                                          (pAt L
                                                                                                (↑x :
                                                                                                    Int).toNat).cmd.client,
                                                                                        Value.int IntKind.u32
                                                                                          (pAt L
                                                                                                (↑x : Int).toNat).cmd.seq] ∨
                                                                                  hasK L x v →
                                                                                updV (fun (_ : Value) => bl true)
                                                                                    (Value.agg
                                                                                      #[Value.int IntKind.i64
                                                                                          (pAt L
                                                                                                (↑x :
                                                                                                    Int).toNat).cmd.client,
                                                                                        Value.int IntKind.u32
                                                                                          (pAt L (↑x : Int).toNat).cmd.seq])
                                                                                    (AV.pl (Value.bool true)) v =
                                                                                  AV.pl (Value.bool true)) ∧
                                                                      True) ∧
                                                                    inv y ∧ (L.length - y).succ.le (L.length - x)))) ∧
                                  (gEq
                                        (bif checkE c == (0 : Int) then decide ((pAt L (↑x : Int).toNat).asked > (0 : Int))
                                        else false)
                                        true =
                                      false →
                                    true = true ∧
                                      (((pAt L (↑x : Int).toNat).told == (0 : Int)) = true →
                                          ((!bif false then
                                                    (pAt L (↑x : Int).toNat).ans.err == (0 : Int) &&
                                                      (((List.range (32 : Nat)).all fun (i : Nat) =>
                                                          (pAt L (↑x : Int).toNat).ans.id i == (0 : Int)) &&
                                                        true)
                                                  else false) =
                                                true →
                                              (True ∧ True ∧ True) ∧
                                                (True ∧ True ∧ True) ∧
                                                  R
                                                    (AV.tup
                                                      [AV.pl (Value.int IntKind.i64 (↑x : Int)),
                                                        AV.pl (Value.int IntKind.i64 (340 : Int))])
                                                    []) ∧
                                            ((!bif false then
                                                    (pAt L (↑x : Int).toNat).ans.err == (0 : Int) &&
                                                      (((List.range (32 : Nat)).all fun (i : Nat) =>
                                                          (pAt L (↑x : Int).toNat).ans.id i == (0 : Int)) &&
                                                        true)
                                                  else false) =
                                                false →
                                              (67 : Nat) = (67 : Nat) ∧
                                                some (Two IntKind.i64 IntKind.u32) = some (Two IntKind.i64 IntKind.u32) ∧
                                                  (∃ (a : Int),
                                                      ∃ (b : Int),
                                                        Value.agg
                                                            (Array.mk
                                                              [Value.int IntKind.i64 (pAt L (↑x : Int).toNat).cmd.client,
                                                                Value.int IntKind.u32 (pAt L (↑x : Int).toNat).cmd.seq]) =
                                                          Value.agg
                                                            (Array.mk [Value.int IntKind.i64 a, Value.int IntKind.u32 b])) ∧
                                                    ∃ (y : Nat),
                                                      (True ∧
                                                          ((104 : Nat) = (104 : Nat) ∧
                                                              L.length = L.length ∧
                                                                ∀ (i : Nat), i < L.length → pastF L i = pastF L i) ∧
                                                            (↑L.length : Int) = (↑L.length : Int) ∧
                                                              IntKind.i64.wrap ((↑x : Int) + (1 : Int)) = (↑y : Int) ∧
                                                                True) ∧
                                                        (((67 : Nat) = (67 : Nat) ∧
                                                              Two IntKind.i64 IntKind.u32 = Two IntKind.i64 IntKind.u32 ∧
                                                                (∀ (v : Value),
                                                                    v =
                                                                          Value.agg
                                                                            #[Value.int IntKind.i64
                                                                                (pAt L (↑x : Int).toNat).cmd.client,
                                                                              Value.int IntKind.u32
                                                                                (pAt L (↑x : Int).toNat).cmd.seq] ∨
                                                                        hasK L x v ↔
                                                                      hasK L y v) ∧
                                                                  ∀ (v : Value),
                                                                    v =
                                                                          Value.agg
                                                                            #[Value.int IntKind.i64
                                                                                (pAt L (↑x : Int).toNat).cmd.client,
                                                                              Value.int IntKind.u32
                                                                                (pAt L (↑x : Int).toNat).cmd.seq] ∨
                                                                        hasK L x v →
                                                                      updV (fun (_ : Value) => bl true)
                                                                          (Value.agg
                                                                            #[Value.int IntKind.i64
                                                                                (pAt L (↑x : Int).toNat).cmd.client,
                                                                              Value.int IntKind.u32
                                                                                (pAt L (↑x : Int).toNat).cmd.seq])
                                                                          (AV.pl (Value.bool true)) v =
                                                                        AV.pl (Value.bool true)) ∧
                                                            True) ∧
                                                          inv y ∧ (L.length - y).succ.le (L.length - x))) ∧
                                        (((pAt L (↑x : Int).toNat).told == (0 : Int)) = false →
                                          ((!bif false then
                                                    decide ((pAt L (↑x : Int).toNat).told ≥ (pAt L (↑x : Int).toNat).asked)
                                                  else false) =
                                                true →
                                              (True ∧ True ∧ True) ∧
                                                (True ∧ True ∧ True) ∧
                                                  R
                                                    (AV.tup
                                                      [AV.pl (Value.int IntKind.i64 (↑x : Int)),
                                                        AV.pl (Value.int IntKind.i64 (340 : Int))])
                                                    []) ∧
                                            ((!bif false then
                                                    decide ((pAt L (↑x : Int).toNat).told ≥ (pAt L (↑x : Int).toNat).asked)
                                                  else false) =
                                                false →
                                              (67 : Nat) = (67 : Nat) ∧
                                                some (Two IntKind.i64 IntKind.u32) = some (Two IntKind.i64 IntKind.u32) ∧
                                                  (∃ (a : Int),
                                                      ∃ (b : Int),
                                                        Value.agg
                                                            (Array.mk
                                                              [Value.int IntKind.i64 (pAt L (↑x : Int).toNat).cmd.client,
                                                                Value.int IntKind.u32 (pAt L (↑x : Int).toNat).cmd.seq]) =
                                                          Value.agg
                                                            (Array.mk [Value.int IntKind.i64 a, Value.int IntKind.u32 b])) ∧
                                                    ∃ (y : Nat),
                                                      (True ∧
                                                          ((104 : Nat) = (104 : Nat) ∧
                                                              L.length = L.length ∧
                                                                ∀ (i : Nat), i < L.length → pastF L i = pastF L i) ∧
                                                            (↑L.length : Int) = (↑L.length : Int) ∧
                                                              IntKind.i64.wrap ((↑x : Int) + (1 : Int)) = (↑y : Int) ∧
                                                                True) ∧
                                                        (((67 : Nat) = (67 : Nat) ∧
                                                              Two IntKind.i64 IntKind.u32 = Two IntKind.i64 IntKind.u32 ∧
                                                                (∀ (v : Value),
                                                                    v =
                                                                          Value.agg
                                                                            #[Value.int IntKind.i64
                                                                                (pAt L (↑x : Int).toNat).cmd.client,
                                                                              Value.int IntKind.u32
                                                                                (pAt L (↑x : Int).toNat).cmd.seq] ∨
                                                                        hasK L x v ↔
                                                                      hasK L y v) ∧
                                                                  ∀ (v : Value),
                                                                    v =
                                                                          Value.agg
                                                                            #[Value.int IntKind.i64
                                                                                (pAt L (↑x : Int).toNat).cmd.client,
                                                                              Value.int IntKind.u32
                                                                                (pAt L (↑x : Int).toNat).cmd.seq] ∨
                                                                        hasK L x v →
                                                                      updV (fun (_ : Value) => bl true)
                                                                          (Value.agg
                                                                            #[Value.int IntKind.i64
                                                                                (pAt L (↑x : Int).toNat).cmd.client,
                                                                              Value.int IntKind.u32
                                                                                (pAt L (↑x : Int).toNat).cmd.seq])
                                                                          (AV.pl (Value.bool true)) v =
                                                                        AV.pl (Value.bool true)) ∧
                                                            True) ∧
                                                          inv y ∧ (L.length - y).succ.le (L.length - x))))) ∧
                (decide ((↑x : Int) < (↑L.length : Int)) = false →
                  (True ∧ True ∧ True) ∧
                    (True ∧ True ∧ True) ∧
                      R (AV.tup [AV.pl (Value.int IntKind.i64 (0 : Int)), AV.pl (Value.int IntKind.i64 (0 : Int))]) []))) := by kernel_rfl
theorem v33 (n m : Nat) (f g : Nat → AV) (R : AV → List LObj → Prop) :
    (vcA false 0 [] Try.prog (mkTab []) (Try.f33.body.getD .skip) ([]) (finalK Try.prog Try.f33 (R)) (startSt Try.f33 ([.rows 104 m g, .rows 1 n f]))) = (
    True ∧
      True ∧
        (True ∧ True) ∧
          (True ∧ True ∧ True) ∧
            R
              (AV.clo (Fn.func (41 : Nat))
                [(AV.agg [AV.rows (1 : Nat) n f]).ipt (0 : Nat) (0 : Nat),
                  (AV.agg [AV.rows (104 : Nat) m g]).ipt (0 : Nat) (0 : Nat)])
              []) := by kernel_rfl
theorem v41 (l : Nat) (n : Nat) (L : List Past) (o : List Int) (inv : Nat → Prop) :
    (vcI Try.prog (mkTab []) l n (rowX (ordF o) (pastF L)) (Try.f41.body.getD .skip) ([.loop 1 Nat inv (fun i => ⟨slotsOf 21 0 [(0, .pl (.func (.yield l) #[] #[])), (1, .ipt (.agg [ords o]) 0 0), (2, .ipt (.agg [pasts L]) 0 0), (6, ords o), (7, nm o.length), (8, nm i)], []⟩) (fun i => some i) (fun i => o.length - i) (fun _ => [])]) (finalKI Try.prog Try.f41 n) (startSt Try.f41 ([.pl (.func (.yield l) #[] #[]), .ipt (.agg [ords o]) 0 0, .ipt (.agg [pasts L]) 0 0])) (some 0)) = (
    (∃ (x : Nat),
        (Value.func (Fn.yield l) (Array.mk []) (Array.mk []) = Value.func (Fn.yield l) (Array.mk []) (Array.mk []) ∧
            (AV.agg [AV.rows (1 : Nat) o.length (ordF o)] = AV.agg [AV.rows (1 : Nat) o.length (ordF o)] ∧
                (0 : Nat) = (0 : Nat) ∧ (0 : Nat) = (0 : Nat)) ∧
              (AV.agg [AV.rows (104 : Nat) L.length (pastF L)] = AV.agg [AV.rows (104 : Nat) L.length (pastF L)] ∧
                  (0 : Nat) = (0 : Nat) ∧ (0 : Nat) = (0 : Nat)) ∧
                ((1 : Nat) = (1 : Nat) ∧ o.length = o.length ∧ ∀ (i : Nat), i < o.length → ordF o i = ordF o i) ∧
                  (↑o.length : Int) = (↑o.length : Int) ∧ (0 : Int) = (↑x : Int) ∧ True) ∧
          True ∧ inv x ∧ some x = some (0 : Nat)) ∧
      ∀ (x : Nat),
        inv x →
          (decide ((↑x : Int) < (↑o.length : Int)) = true →
              ((0 : Int) ≤ (↑x : Int) ∧ (↑x : Int) + (1 : Int) ≤ (↑o.length : Int)) ∧
                ((0 : Int) ≤ oAt o (↑x : Int).toNat ∧ oAt o (↑x : Int).toNat + (1 : Int) ≤ (↑L.length : Int)) ∧
                  l = l ∧
                    x.succ.le n ∧
                      (oAt o (↑x : Int).toNat = oAt o x ∧
                          ((pAt L (oAt o (↑x : Int).toNat).toNat).cmd.kind = (pAt L (numOf (ordF o x))).cmd.kind ∧
                              (pAt L (oAt o (↑x : Int).toNat).toNat).cmd.client = (pAt L (numOf (ordF o x))).cmd.client ∧
                                (pAt L (oAt o (↑x : Int).toNat).toNat).cmd.seq = (pAt L (numOf (ordF o x))).cmd.seq ∧
                                  (pAt L (oAt o (↑x : Int).toNat).toNat).cmd.branch =
                                      (pAt L (numOf (ordF o x))).cmd.branch ∧
                                    (IntKind.u8 = IntKind.u8 ∧
                                        (32 : Nat) = (32 : Nat) ∧
                                          ∀ (i : Nat),
                                            i < (32 : Nat) →
                                              (pAt L (oAt o (↑x : Int).toNat).toNat).cmd.old i =
                                                (pAt L (numOf (ordF o x))).cmd.old i) ∧
                                      (IntKind.u8 = IntKind.u8 ∧
                                          (32 : Nat) = (32 : Nat) ∧
                                            ∀ (i : Nat),
                                              i < (32 : Nat) →
                                                (pAt L (oAt o (↑x : Int).toNat).toNat).cmd.new i =
                                                  (pAt L (numOf (ordF o x))).cmd.new i) ∧
                                        ((1 : Nat) = (1 : Nat) ∧
                                            (pAt L (oAt o (↑x : Int).toNat).toNat).cmd.dn =
                                                (pAt L (numOf (ordF o x))).cmd.dn ∧
                                              ∀ (i : Nat),
                                                i < (pAt L (oAt o (↑x : Int).toNat).toNat).cmd.dn →
                                                  (pAt L (oAt o (↑x : Int).toNat).toNat).cmd.df i =
                                                    (pAt L (numOf (ordF o x))).cmd.df i) ∧
                                          (pAt L (oAt o (↑x : Int).toNat).toNat).asked = (pAt L (numOf (ordF o x))).asked ∧
                                            (pAt L (oAt o (↑x : Int).toNat).toNat).told = (pAt L (numOf (ordF o x))).told ∧
                                              (pAt L (oAt o (↑x : Int).toNat).toNat).ans.err =
                                                  (pAt L (numOf (ordF o x))).ans.err ∧
                                                (IntKind.u8 = IntKind.u8 ∧
                                                    (32 : Nat) = (32 : Nat) ∧
                                                      ∀ (i : Nat),
                                                        i < (32 : Nat) →
                                                          (pAt L (oAt o (↑x : Int).toNat).toNat).ans.id i =
                                                            (pAt L (numOf (ordF o x))).ans.id i) ∧
                                                  True) ∧
                            True) ∧
                        (((!true) = true → True ∧ x + (1 : Nat) = n) ∧
                            ((!true) = false →
                              ∃ (y : Nat),
                                (Value.func (Fn.yield l) (Array.mk []) (Array.mk []) =
                                      Value.func (Fn.yield l) (Array.mk []) (Array.mk []) ∧
                                    (AV.agg [AV.rows (1 : Nat) o.length (ordF o)] =
                                          AV.agg [AV.rows (1 : Nat) o.length (ordF o)] ∧
                                        (0 : Nat) = (0 : Nat) ∧ (0 : Nat) = (0 : Nat)) ∧
                                      (AV.agg [AV.rows (104 : Nat) L.length (pastF L)] =
                                            AV.agg [AV.rows (104 : Nat) L.length (pastF L)] ∧
                                          (0 : Nat) = (0 : Nat) ∧ (0 : Nat) = (0 : Nat)) ∧
                                        ((1 : Nat) = (1 : Nat) ∧
                                            o.length = o.length ∧ ∀ (i : Nat), i < o.length → ordF o i = ordF o i) ∧
                                          (↑o.length : Int) = (↑o.length : Int) ∧
                                            IntKind.i64.wrap ((↑x : Int) + (1 : Int)) = (↑y : Int) ∧ True) ∧
                                  True ∧ inv y ∧ some y = some (x + (1 : Nat)) ∧ (o.length - y).succ.le (o.length - x))) ∧
                          ((!false) = true → True) ∧
                            ((!false) = false →
                              ∃ (y : Nat),
                                (Value.func (Fn.yield l) (Array.mk []) (Array.mk []) =
                                      Value.func (Fn.yield l) (Array.mk []) (Array.mk []) ∧
                                    (AV.agg [AV.rows (1 : Nat) o.length (ordF o)] =
                                          AV.agg [AV.rows (1 : Nat) o.length (ordF o)] ∧
                                        (0 : Nat) = (0 : Nat) ∧ (0 : Nat) = (0 : Nat)) ∧
                                      (AV.agg [AV.rows (104 : Nat) L.length (pastF L)] =
                                            AV.agg [AV.rows (104 : Nat) L.length (pastF L)] ∧
                                          (0 : Nat) = (0 : Nat) ∧ (0 : Nat) = (0 : Nat)) ∧
                                        ((1 : Nat) = (1 : Nat) ∧
                                            o.length = o.length ∧ ∀ (i : Nat), i < o.length → ordF o i = ordF o i) ∧
                                          (↑o.length : Int) = (↑o.length : Int) ∧
                                            IntKind.i64.wrap ((↑x : Int) + (1 : Int)) = (↑y : Int) ∧ True) ∧
                                  True ∧ inv y ∧ some y = none ∧ (o.length - y).succ.le (o.length - x))) ∧
            (decide ((↑x : Int) < (↑o.length : Int)) = false → True ∧ x = n)) := by kernel_rfl
theorem K67 : KLaw Try.prog 67 (Two .i64 .u32) := klaw_two (P := Try.prog) (f := (fieldOf Try.prog 67 0).getD default) (g := (fieldOf Try.prog 67 1).getD default) (by kernel_rfl) (by kernel_rfl) (by kernel_rfl) (by kernel_rfl) (by kernel_rfl) (by kernel_rfl) (by kernel_rfl) (by kernel_rfl) (by kernel_rfl) (by kernel_rfl) (by kernel_rfl) (by kernel_rfl) (by kernel_rfl)
theorem mkI {f : FuncId} {fn : Func} {caps : List AV} {n : Nat} {xs : Nat → List AV} {C : Table} {an : Nat → List AnnI} {X : Nat → Prop}
    (v : ∀ l, vcI Try.prog C l n xs (fn.body.getD .skip) (an l) (finalKI Try.prog fn n) (startSt fn (.pl (.func (.yield l) #[] #[]) :: caps)) (some 0) = X l) (hC : TableOk Try.prog C) (hf : Try.prog.funcs[f]? = some fn) (hb : fn.body = some (fn.body.getD .skip)) (h : ∀ l, X l) : SeqSpec Try.prog f caps n xs :=
  seq_of_code hC mixed hf hb (fun l => (v l) ▸ h l)
theorem X33 : EntOk Try.prog 33 (.lend T33) := by
  refine ⟨enters_of (fn := Try.f33) rfl rfl (by kernel_rfl), fun args R h => ?_⟩
  unfold T33 at h
  split at h
  case h_2 => exact h.elim
  rename_i m g n f
  refine mkS (v33 n m f g R) (tb az) rfl rfl ?_
  simp only [true_and, and_self]
  exact h
theorem X41 : EntOk Try.prog 41 (.seq F41) := by
  refine ⟨enters_of (fn := Try.f41) rfl rfl (by kernel_rfl), fun caps p n xs hF hp => ?_⟩
  unfold F41 at hF
  split at hF
  · rename_i n f m g
    simp only [Option.some.injEq, Prod.mk.injEq] at hF
    obtain ⟨rfl, rfl, rfl⟩ := hF
    obtain ⟨hn, L, o, rfl, rfl, rfl, rfl, ho⟩ := hp
    refine mkI (f := 41) (fn := Try.f41) (caps := [.ipt (.agg [ords o]) 0 0, .ipt (.agg [pasts L]) 0 0]) (n := o.length) (xs := rowX (ordF o) (pastF L)) (fun l => v41 l o.length L o (fun i => i ≤ o.length)) (tb az) rfl rfl (fun l => ?_)
    simp only [true_and, and_true, and_self, implies_true, forall_const, natle_iff, decide_eq_true_eq, decide_eq_false_iff_not, Int.toNat_natCast, Bool.not_true, Bool.not_false, reduceCtorEq, false_implies, implies_true, Bool.true_eq_false, Bool.false_eq_true]
    exact ⟨⟨0, rfl, Nat.zero_le _, rfl⟩, fun x hx => ⟨fun hlt => ⟨⟨by omega, by omega⟩, ⟨(ho x (by omega)).1, by have := (ho x (by omega)).2; omega⟩, by omega, ⟨rfl, rfl, rfl, rfl, fun _ _ => rfl, fun _ _ => rfl, ⟨rfl, fun _ _ => rfl⟩, rfl, rfl, rfl, fun _ _ => rfl⟩, x + 1, by rw [wrap64] <;> omega, by omega, rfl, by omega⟩, fun hge => by omega⟩⟩
  · cases hF
theorem firstNo_some {n i : Nat} {ok : Nat → Bool} (hi : i < n) (h : ∀ j, j < i → ok j = true) (h2 : ok i = false) : firstNo n ok = some i := by
  unfold firstNo
  rcases find_range n (fun i => !ok i) with ⟨j, h3, h4, h5, h6⟩ | ⟨h3, h4⟩
  · rw [h3]
    rcases Nat.lt_trichotomy i j with h7 | h7 | h7
    · have := h6 i h7; rw [h2] at this; cases this
    · rw [h7]
    · rw [h j h7] at h5; cases h5
  · have := h4 i hi; rw [h2] at this; cases this
theorem firstNo_none {n : Nat} {ok : Nat → Bool} (h : ∀ j, j < n → ok j = true) : firstNo n ok = none := by
  unfold firstNo
  rcases find_range n (fun i => !ok i) with ⟨j, h3, h4, h5, h6⟩ | ⟨h3, h4⟩
  · rw [h j h4] at h5; cases h5
  · exact h3
theorem keyP_eq {p q : Past} : keyP p = keyP q ↔ sameKey p q = true := by
  unfold keyP sameKey
  constructor
  · intro h
    injection h with h
    simp at h
    simp [h.1, h.2]
  · intro h
    simp at h
    rw [h.1, h.2]
theorem hasK_dup (L : List Past) (i : Nat) : hasK L i (keyP (pAt L i)) ↔ dupP L i = true := by
  unfold hasK dupP
  rw [List.any_eq_true]
  constructor
  · rintro ⟨j, hj, h⟩; exact ⟨j, by simpa using hj, keyP_eq.1 h⟩
  · rintro ⟨j, hj, h⟩; exact ⟨j, by simpa using hj, keyP_eq.2 h⟩
theorem hasK_succ (L : List Past) (i : Nat) (v : Value) : (v = keyP (pAt L i) ∨ hasK L i v) ↔ hasK L (i + 1) v := by
  unfold hasK
  constructor
  · rintro (rfl | ⟨j, hj, h⟩)
    · exact ⟨i, by omega, rfl⟩
    · exact ⟨j, by omega, h⟩
  · rintro ⟨j, hj, h⟩
    rcases Nat.lt_or_ge j i with h1 | h1
    · exact .inr ⟨j, h1, h⟩
    · have : j = i := by omega
      subst this
      exact .inl h.symm
theorem updV_true (v k : Value) : updV (fun _ => bl true) k (bl true) v = bl true := by
  unfold updV
  split <;> rfl
theorem checkE_zero (c : Cmd) : (checkE c == 0) = checkB c := by
  unfold checkE
  cases checkB c <;> rfl
theorem X17 : EntOk Try.prog 17 (.lend T17) := by
  refine ⟨enters_of (fn := Try.f17) rfl rfl (by kernel_rfl), fun args R h => ?_⟩
  unfold T17 at h
  split at h
  case h_2 => exact h.elim
  obtain ⟨L, hx, h⟩ := h
  refine Spec.argsR (args' := [pasts L]) ⟨hx, trivial⟩ (mkS (v17 L (fun i => i ≤ L.length ∧ ∀ j, j < i → okP L j = true) R) (mkTab_ok (ac X29 az) ⟨K67, trivial⟩) rfl rfl ?_)
  simp only [true_and, and_true, and_self, implies_true, forall_const, gEq_true, natle_iff, decide_eq_true_eq, decide_eq_false_iff_not, Int.toNat_natCast, cond_bf, Bool.cond_true, Bool.cond_false, Bool.not_false, reduceCtorEq, false_implies, implies_true, Bool.true_eq_false, Bool.not_eq_true', Bool.not_eq_false']
  refine ⟨fun hgt => ?_, fun hle => ⟨⟨0, rfl, fun v => ⟨fun hh => hh.elim, fun ⟨j, hj, _⟩ => by omega⟩, Nat.zero_le _, fun j hj => by omega⟩, fun x hx => ⟨fun hlt => ⟨⟨by omega, by omega⟩, (pAt L x).cmd, isCmd_self _, fun hc => ⟨⟨_, _, rfl⟩, fun c hcb => ⟨fun ht => ⟨fun hb => ?_, fun hb => ⟨⟨_, _, rfl⟩, x + 1, by rw [wrap64] <;> omega, ⟨fun v => hasK_succ L x v, fun v _ => updV_true v _⟩, ⟨by omega, fun j hj => ?_⟩, by omega⟩⟩, fun ht => ⟨fun hb => ?_, fun hb => ⟨⟨_, _, rfl⟩, x + 1, by rw [wrap64] <;> omega, ⟨fun v => hasK_succ L x v, fun v _ => updV_true v _⟩, ⟨by omega, fun j hj => ?_⟩, by omega⟩⟩⟩⟩, fun hc => ⟨fun ht => ?_, fun ht => ?_⟩⟩, fun hge => ?_⟩⟩⟩
  · rw [chk, decide_eq_true (by omega : 400 < L.length)] at h
    exact h
  all_goals have h400 : decide (400 < L.length) = false := decide_eq_false (by omega)
  all_goals have no : okP L x = false → x < L.length → R (AV.tup [AV.pl (Value.int IntKind.i64 x), AV.pl (Value.int IntKind.i64 340)]) [] := (fun h1 h2 => by
    rw [chk, h400, firstNo_some h2 hx.2 h1] at h
    exact h)
  · refine no ?_ (by omega)
    have hcd : c = dupP L x := by rw [Bool.eq_iff_iff, hcb]; exact hasK_dup L x
    rw [okP, ← hcd, ht, cond_true]
    simp only [Bool.and_true] at hb
    have hb' : (!c && ((pAt L x).ans.err == 0 && idEq (pAt L x).ans.id z0)) = false := hb
    rw [Bool.and_assoc, hb', Bool.and_false]
  · rcases Nat.lt_or_ge j x with h1 | h1
    · exact hx.2 j h1
    · have : j = x := by omega
      subst this
      have hcd : c = dupP L j := by rw [Bool.eq_iff_iff, hcb]; exact hasK_dup L j
      rw [okP, ← hcd, ht, cond_true]
      simp only [Bool.and_true] at hb
      have hb' : (!c && ((pAt L j).ans.err == 0 && idEq (pAt L j).ans.id z0)) = true := hb
      rw [checkE_zero] at hc
      rw [Bool.and_assoc, hb', Bool.and_true]
      exact hc
  · refine no ?_ (by omega)
    have hcd : c = dupP L x := by rw [Bool.eq_iff_iff, hcb]; exact hasK_dup L x
    rw [okP, ← hcd, ht, cond_false]
    have hb' : (!c && decide ((pAt L x).asked ≤ (pAt L x).told)) = false := hb
    rw [Bool.and_assoc, hb', Bool.and_false]
  · rcases Nat.lt_or_ge j x with h1 | h1
    · exact hx.2 j h1
    · have : j = x := by omega
      subst this
      have hcd : c = dupP L j := by rw [Bool.eq_iff_iff, hcb]; exact hasK_dup L j
      rw [okP, ← hcd, ht, cond_false]
      have hb' : (!c && decide ((pAt L j).asked ≤ (pAt L j).told)) = true := hb
      rw [checkE_zero] at hc
      rw [Bool.and_assoc, hb', Bool.and_true]
      exact hc
  · refine no ?_ (by omega)
    rw [checkE_zero] at hc
    have hc' : (checkB (pAt L x).cmd && decide (0 < (pAt L x).asked)) = false := hc
    rw [okP, hc', Bool.false_and, Bool.false_and]
  · refine no ?_ (by omega)
    rw [checkE_zero] at hc
    have hc' : (checkB (pAt L x).cmd && decide (0 < (pAt L x).asked)) = false := hc
    rw [okP, hc', Bool.false_and, Bool.false_and]
  · have : x = L.length := by omega
    subst this
    rw [chk, h400, firstNo_none hx.2] at h
    exact h
end Go.Proofs.R1

namespace Go.Proofs.R1
open Go Go.Am

def okO (L : List Past) (o : List Int) (i : Nat) : Bool := decide (0 ≤ oAt o i) && decide (oAt o i < L.length) && !((List.range i).any fun j => oAt o j == oAt o i)
def okT (L : List Past) (o : List Int) (i : Nat) : Bool := !(decide (0 < (pAt L i).told) && !((List.range o.length).any fun j => oAt o j == (i : Int)))
def rowAt (L : List Past) (o : List Int) (i : Nat) : Past := pAt L (oAt o i).toNat
def lastTo (L : List Past) (o : List Int) : Nat → Int
  | 0 => 0
  | i + 1 => if lastTo L o i < (rowAt L o i).asked then (rowAt L o i).asked else lastTo L o i
def okL (L : List Past) (o : List Int) (i : Nat) : Bool := !(decide (0 < (rowAt L o i).told) && decide ((rowAt L o i).told < lastTo L o i))
def order (L : List Past) (o : List Int) : Int × Int := bif (chk L).2 != 0 then chk L else match firstNo o.length (okO L o) with
  | some i => (i, 2)
  | none => match firstNo L.length (okT L o) with
    | some i => (i, 341)
    | none => match firstNo o.length (okL L o) with
      | some i => (oAt o i, 341)
      | none => (0, 0)
def T19 : Trans := fun args K => match args with
  | [x, y] => ∃ (L : List Past) (o : List Int), IsPasts x L ∧ IsOrd y o ∧ o.length ≤ 1000000 ∧ K (.tup [nm (order L o).1, nm (order L o).2]) []
  | _ => False
def hasO (o : List Int) (i : Nat) (v : Value) : Prop := ∃ j, j < i ∧ .int .i64 (oAt o j) = v
end Go.Proofs.R1

namespace Go.Proofs.R1
open Go Go.Am Go.MapKept

theorem v19 (L : List Past) (o : List Int) (inv1 inv2 : Nat → Prop) (inv3 : Nat × Int → Prop) (R : AV → List LObj → Prop) :
    (vcA false 0 [] Try.prog (mkTab [(17, .lend T17), (33, .lend T33), (41, .seq F41)] [(3, IsKey (.int .i64))]) (Try.f19.body.getD .skip) ([.loop 6 Nat inv1 (fun i => ⟨slotsOf 87 0 [(0, pasts L), (1, ords o), (4, .ptr 0 0 0 0), (5, .ptr 1 0 0 0), (8, .mp 2), (26, ords o), (27, nm o.length), (28, nm i)], [.box 3 [.any], .box 32 [.any], .mapo 3 (IsKey (.int .i64)) (hasO o i) (fun _ => bl true)]⟩) (fun i => o.length - i) (fun _ => []), .loop 13 Nat inv2 (fun i => ⟨slotsOf 87 0 [(0, pasts L), (1, ords o), (4, .ptr 0 0 0 0), (5, .ptr 1 0 0 0), (8, .mp 2), (50, pasts L), (51, nm L.length), (52, nm i)], [.box 3 [.any], .box 32 [.any], .mapo 3 (IsKey (.int .i64)) (hasO o o.length) (fun _ => bl true)]⟩) (fun i => L.length - i) (fun _ => []), .range 20 (Nat × Int) inv3 (fun p => p.1) (fun p => [.box 3 [.any], .box 32 [.any], .dead, .box 3 [nm p.2]]) (fun _ => [])]) (finalK Try.prog Try.f19 (R)) (startSt Try.f19 ([pasts L, ords o]))) = (
    True ∧
      True ∧
        ∃ (L_1 : List Past),
          IsPasts (AV.rows (104 : Nat) L.length (pastF L)) L_1 ∧
            (((chk L_1).snd != (0 : Int)) = true →
                True ∧
                  True ∧
                    (True ∧ True ∧ True) ∧
                      (True ∧ True ∧ True) ∧
                        R
                          (AV.tup
                            [AV.pl (Value.int IntKind.i64 (chk L_1).fst), AV.pl (Value.int IntKind.i64 (chk L_1).snd)])
                          []) ∧
              (((chk L_1).snd != (0 : Int)) = false →
                (∃ (x : Nat),
                    (((104 : Nat) = (104 : Nat) ∧ L.length = L.length ∧ ∀ (i : Nat), i < L.length → pastF L i = pastF L i) ∧
                        ((1 : Nat) = (1 : Nat) ∧ o.length = o.length ∧ ∀ (i : Nat), i < o.length → ordF o i = ordF o i) ∧
                          (True ∧ (0 : Nat) = (0 : Nat) ∧ (0 : Nat) = (0 : Nat) ∧ (0 : Nat) = (0 : Nat)) ∧
                            (True ∧ (0 : Nat) = (0 : Nat) ∧ (0 : Nat) = (0 : Nat) ∧ (0 : Nat) = (0 : Nat)) ∧
                              True ∧
                                ((1 : Nat) = (1 : Nat) ∧
                                    o.length = o.length ∧ ∀ (i : Nat), i < o.length → ordF o i = ordF o i) ∧
                                  (↑o.length : Int) = (↑o.length : Int) ∧ (0 : Int) = (↑x : Int) ∧ True) ∧
                      (((3 : Nat) = (3 : Nat) ∧ True ∧ True) ∧
                          ((32 : Nat) = (32 : Nat) ∧ True ∧ True) ∧
                            ((3 : Nat) = (3 : Nat) ∧
                                IsKey (TypeDesc.int IntKind.i64) = IsKey (TypeDesc.int IntKind.i64) ∧
                                  (∀ (v : Value), False ↔ hasO o x v) ∧
                                    ∀ (_ : Value), False → AV.any = AV.pl (Value.bool true)) ∧
                              True) ∧
                        inv1 x) ∧
                  ∀ (x : Nat),
                    inv1 x →
                      (decide ((↑x : Int) < (↑o.length : Int)) = true →
                          ((0 : Int) ≤ (↑x : Int) ∧ (↑x : Int) + (1 : Int) ≤ (↑o.length : Int)) ∧
                            (gEq
                                    (bif decide (oAt o (↑x : Int).toNat < (0 : Int)) then true
                                    else decide (oAt o (↑x : Int).toNat ≥ (↑L.length : Int)))
                                    false =
                                  true →
                                (3 : Nat) = (3 : Nat) ∧
                                  some (IsKey (TypeDesc.int IntKind.i64)) = some (IsKey (TypeDesc.int IntKind.i64)) ∧
                                    IsKey (TypeDesc.int IntKind.i64) (Value.int IntKind.i64 (oAt o (↑x : Int).toNat)) ∧
                                      ∀ (c : Bool),
                                        (c = true ↔
                                            hasO o x (Value.int IntKind.i64 (oAt o (↑x : Int).toNat)) ∧ true = true) →
                                          true = true ∧
                                            ((bif false then true else c) = true →
                                                True ∧
                                                  True ∧
                                                    (True ∧ True ∧ True) ∧
                                                      (True ∧ True ∧ True) ∧
                                                        R
                                                          (AV.tup
                                                            [AV.pl (Value.int IntKind.i64 (↑x : Int)),
                                                              AV.pl (Value.int IntKind.i64 (2 : Int))])
                                                          []) ∧
                                              ((bif false then true else c) = false →
                                                (3 : Nat) = (3 : Nat) ∧
                                                  some (IsKey (TypeDesc.int IntKind.i64)) =
                                                      some (IsKey (TypeDesc.int IntKind.i64)) ∧
                                                    IsKey (TypeDesc.int IntKind.i64)
                                                        (Value.int IntKind.i64 (oAt o (↑x : Int).toNat)) ∧
                                                      ∃ (y : Nat),
                                                        (((104 : Nat) = (104 : Nat) ∧
                                                              L.length = L.length ∧
                                                                ∀ (i : Nat), i < L.length → pastF L i = pastF L i) ∧
                                                            ((1 : Nat) = (1 : Nat) ∧
                                                                o.length = o.length ∧
                                                                  ∀ (i : Nat), i < o.length → ordF o i = ordF o i) ∧
                                                              (True ∧
                                                                  (0 : Nat) = (0 : Nat) ∧
                                                                    (0 : Nat) = (0 : Nat) ∧ (0 : Nat) = (0 : Nat)) ∧
                                                                (True ∧
                                                                    (0 : Nat) = (0 : Nat) ∧
                                                                      (0 : Nat) = (0 : Nat) ∧ (0 : Nat) = (0 : Nat)) ∧
                                                                  True ∧
                                                                    ((1 : Nat) = (1 : Nat) ∧
                                                                        o.length = o.length ∧
                                                                          ∀ (i : Nat), i < o.length → ordF o i = ordF o i) ∧
                                                                      (↑o.length : Int) = (↑o.length : Int) ∧
                                                                        IntKind.i64.wrap ((↑x : Int) + (1 : Int)) =
                                                                            (↑y : Int) ∧
                                                                          True) ∧
                                                          (((3 : Nat) = (3 : Nat) ∧ True ∧ True) ∧
                                                              ((32 : Nat) = (32 : Nat) ∧ True ∧ True) ∧
                                                                ((3 : Nat) = (3 : Nat) ∧
                                                                    IsKey (TypeDesc.int IntKind.i64) =
                                                                        IsKey (TypeDesc.int IntKind.i64) ∧
                                                                      (∀ (v : Value),
                                                                          v =
                                                                                Value.int IntKind.i64
                                                                                  (oAt o (↑x : Int).toNat) ∨
                                                                              hasO o x v ↔
                                                                            hasO o y v) ∧
                                                                        ∀ (v : Value),
                                                                          v =
                                                                                Value.int IntKind.i64
                                                                                  (oAt o (↑x : Int).toNat) ∨
                                                                              hasO o x v →
                                                                            updV (fun (_ : Value) => bl true)
                                                                                (Value.int IntKind.i64
                                                                                  (oAt o (↑x : Int).toNat))
                                                                                (AV.pl (Value.bool true)) v =
                                                                              AV.pl (Value.bool true)) ∧
                                                                  True) ∧
                                                            inv1 y ∧ (o.length - y).succ.le (o.length - x))) ∧
                              (gEq
                                    (bif decide (oAt o (↑x : Int).toNat < (0 : Int)) then true
                                    else decide (oAt o (↑x : Int).toNat ≥ (↑L.length : Int)))
                                    false =
                                  false →
                                true = true ∧
                                  (true = true →
                                      True ∧
                                        True ∧
                                          (True ∧ True ∧ True) ∧
                                            (True ∧ True ∧ True) ∧
                                              R
                                                (AV.tup
                                                  [AV.pl (Value.int IntKind.i64 (↑x : Int)),
                                                    AV.pl (Value.int IntKind.i64 (2 : Int))])
                                                []) ∧
                                    (true = false →
                                      (3 : Nat) = (3 : Nat) ∧
                                        some (IsKey (TypeDesc.int IntKind.i64)) = some (IsKey (TypeDesc.int IntKind.i64)) ∧
                                          IsKey (TypeDesc.int IntKind.i64)
                                              (Value.int IntKind.i64 (oAt o (↑x : Int).toNat)) ∧
                                            ∃ (y : Nat),
                                              (((104 : Nat) = (104 : Nat) ∧
                                                    L.length = L.length ∧
                                                      ∀ (i : Nat), i < L.length → pastF L i = pastF L i) ∧
                                                  ((1 : Nat) = (1 : Nat) ∧
                                                      o.length = o.length ∧
                                                        ∀ (i : Nat), i < o.length → ordF o i = ordF o i) ∧
                                                    (True ∧
                                                        (0 : Nat) = (0 : Nat) ∧
                                                          (0 : Nat) = (0 : Nat) ∧ (0 : Nat) = (0 : Nat)) ∧
                                                      (True ∧
                                                          (0 : Nat) = (0 : Nat) ∧
                                                            (0 : Nat) = (0 : Nat) ∧ (0 : Nat) = (0 : Nat)) ∧
                                                        True ∧
                                                          ((1 : Nat) = (1 : Nat) ∧
                                                              o.length = o.length ∧
                                                                ∀ (i : Nat), i < o.length → ordF o i = ordF o i) ∧
                                                            (↑o.length : Int) = (↑o.length : Int) ∧
                                                              IntKind.i64.wrap ((↑x : Int) + (1 : Int)) = (↑y : Int) ∧
                                                                True) ∧
                                                (((3 : Nat) = (3 : Nat) ∧ True ∧ True) ∧
                                                    ((32 : Nat) = (32 : Nat) ∧ True ∧ True) ∧
                                                      ((3 : Nat) = (3 : Nat) ∧
                                                          IsKey (TypeDesc.int IntKind.i64) =
                                                              IsKey (TypeDesc.int IntKind.i64) ∧
                                                            (∀ (v : Value),
                                                                v = Value.int IntKind.i64 (oAt o (↑x : Int).toNat) ∨
                                                                    hasO o x v ↔
                                                                  hasO o y v) ∧
                                                              ∀ (v : Value),
                                                                v = Value.int IntKind.i64 (oAt o (↑x : Int).toNat) ∨
                                                                    hasO o x v →
                                                                  updV (fun (_ : Value) => bl true)
                                                                      (Value.int IntKind.i64 (oAt o (↑x : Int).toNat))
                                                                      (AV.pl (Value.bool true)) v =
                                                                    AV.pl (Value.bool true)) ∧
                                                        True) ∧
                                                  inv1 y ∧ (o.length - y).succ.le (o.length - x)))) ∧
                        (decide ((↑x : Int) < (↑o.length : Int)) = false →
                          (∃ (x_1 : Nat),
                              (((104 : Nat) = (104 : Nat) ∧
                                    L.length = L.length ∧ ∀ (i : Nat), i < L.length → pastF L i = pastF L i) ∧
                                  ((1 : Nat) = (1 : Nat) ∧
                                      o.length = o.length ∧ ∀ (i : Nat), i < o.length → ordF o i = ordF o i) ∧
                                    (True ∧ (0 : Nat) = (0 : Nat) ∧ (0 : Nat) = (0 : Nat) ∧ (0 : Nat) = (0 : Nat)) ∧
                                      (True ∧ (0 : Nat) = (0 : Nat) ∧ (0 : Nat) = (0 : Nat) ∧ (0 : Nat) = (0 : Nat)) ∧
                                        True ∧
                                          ((104 : Nat) = (104 : Nat) ∧
                                              L.length = L.length ∧ ∀ (i : Nat), i < L.length → pastF L i = pastF L i) ∧
                                            (↑L.length : Int) = (↑L.length : Int) ∧ (0 : Int) = (↑x_1 : Int) ∧ True) ∧
                                (((3 : Nat) = (3 : Nat) ∧ True ∧ True) ∧
                                    ((32 : Nat) = (32 : Nat) ∧ True ∧ True) ∧
                                      ((3 : Nat) = (3 : Nat) ∧
                                          IsKey (TypeDesc.int IntKind.i64) = IsKey (TypeDesc.int IntKind.i64) ∧
                                            (∀ (v : Value), hasO o x v ↔ hasO o o.length v) ∧
                                              ∀ (v : Value), hasO o x v → bl true = bl true) ∧
                                        True) ∧
                                  inv2 x_1) ∧
                            ∀ (x : Nat),
                              inv2 x →
                                (decide ((↑x : Int) < (↑L.length : Int)) = true →
                                    ((0 : Int) ≤ (↑x : Int) ∧ (↑x : Int) + (1 : Int) ≤ (↑L.length : Int)) ∧
                                      True ∧
                                        True ∧
                                          (gEq (decide ((pAt L (↑x : Int).toNat).told > (0 : Int))) true = true →
                                              (3 : Nat) = (3 : Nat) ∧
                                                some (IsKey (TypeDesc.int IntKind.i64)) =
                                                    some (IsKey (TypeDesc.int IntKind.i64)) ∧
                                                  IsKey (TypeDesc.int IntKind.i64) (Value.int IntKind.i64 (↑x : Int)) ∧
                                                    ∀ (c : Bool),
                                                      (c = true ↔
                                                          hasO o o.length (Value.int IntKind.i64 (↑x : Int)) ∧
                                                            true = true) →
                                                        true = true ∧
                                                          ((bif true then !c else false) = true →
                                                              True ∧
                                                                True ∧
                                                                  (True ∧ True ∧ True) ∧
                                                                    (True ∧ True ∧ True) ∧
                                                                      R
                                                                        (AV.tup
                                                                          [AV.pl (Value.int IntKind.i64 (↑x : Int)),
                                                                            AV.pl (Value.int IntKind.i64 (341 : Int))])
                                                                        []) ∧
                                                            ((bif true then !c else false) = false →
                                                              ∃ (y : Nat),
                                                                (((104 : Nat) = (104 : Nat) ∧
                                                                      L.length = L.length ∧
                                                                        ∀ (i : Nat), i < L.length → pastF L i = pastF L i) ∧
                                                                    ((1 : Nat) = (1 : Nat) ∧
                                                                        o.length = o.length ∧
                                                                          ∀ (i : Nat), i < o.length → ordF o i = ordF o i) ∧
                                                                      (True ∧
                                                                          (0 : Nat) = (0 : Nat) ∧
                                                                            (0 : Nat) = (0 : Nat) ∧ (0 : Nat) = (0 : Nat)) ∧
                                                                        (True ∧
                                                                            (0 : Nat) = (0 : Nat) ∧
                                                                              (0 : Nat) = (0 : Nat) ∧
                                                                                (0 : Nat) = (0 : Nat)) ∧
                                                                          True ∧
                                                                            ((104 : Nat) = (104 : Nat) ∧
                                                                                L.length = L.length ∧
                                                                                  ∀ (i : Nat),
                                                                                    i < L.length → pastF L i = pastF L i) ∧
                                                                              (↑L.length : Int) = (↑L.length : Int) ∧
                                                                                IntKind.i64.wrap ((↑x : Int) + (1 : Int)) =
                                                                                    (↑y : Int) ∧
                                                                                  True) ∧
                                                                  (((3 : Nat) = (3 : Nat) ∧ True ∧ True) ∧
                                                                      ((32 : Nat) = (32 : Nat) ∧ True ∧ True) ∧
                                                                        ((3 : Nat) = (3 : Nat) ∧
                                                                            IsKey (TypeDesc.int IntKind.i64) =
                                                                                IsKey (TypeDesc.int IntKind.i64) ∧
                                                                              (∀ (v : Value),
                                                                                  hasO o o.length v ↔ hasO o o.length v) ∧
                                                                                ∀ (v : Value),
                                                                                  hasO o o.length v → bl true = bl true) ∧
                                                                          True) ∧
                                                                    inv2 y ∧ (L.length - y).succ.le (L.length - x))) ∧
                                            (gEq (decide ((pAt L (↑x : Int).toNat).told > (0 : Int))) true = false →
                                              true = true ∧
                                                (false = true →
                                                    True ∧
                                                      True ∧
                                                        (True ∧ True ∧ True) ∧
                                                          (True ∧ True ∧ True) ∧
                                                            R
                                                              (AV.tup
                                                                [AV.pl (Value.int IntKind.i64 (↑x : Int)),
                                                                  AV.pl (Value.int IntKind.i64 (341 : Int))])
                                                              []) ∧
                                                  (false = false →
                                                    ∃ (y : Nat),
                                                      (((104 : Nat) = (104 : Nat) ∧
                                                            L.length = L.length ∧
                                                              ∀ (i : Nat), i < L.length → pastF L i = pastF L i) ∧
                                                          ((1 : Nat) = (1 : Nat) ∧
                                                              o.length = o.length ∧
                                                                ∀ (i : Nat), i < o.length → ordF o i = ordF o i) ∧
                                                            (True ∧
                                                                (0 : Nat) = (0 : Nat) ∧
                                                                  (0 : Nat) = (0 : Nat) ∧ (0 : Nat) = (0 : Nat)) ∧
                                                              (True ∧
                                                                  (0 : Nat) = (0 : Nat) ∧
                                                                    (0 : Nat) = (0 : Nat) ∧ (0 : Nat) = (0 : Nat)) ∧
                                                                True ∧
                                                                  ((104 : Nat) = (104 : Nat) ∧
                                                                      L.length = L.length ∧
                                                                        ∀ (i : Nat), i < L.length → pastF L i = pastF L i) ∧
                                                                    (↑L.length : Int) = (↑L.length : Int) ∧
                                                                      IntKind.i64.wrap ((↑x : Int) + (1 : Int)) =
                                                                          (↑y : Int) ∧
                                                                        True) ∧
                                                        (((3 : Nat) = (3 : Nat) ∧ True ∧ True) ∧
                                                            ((32 : Nat) = (32 : Nat) ∧ True ∧ True) ∧
                                                              ((3 : Nat) = (3 : Nat) ∧
                                                                  IsKey (TypeDesc.int IntKind.i64) =
                                                                      IsKey (TypeDesc.int IntKind.i64) ∧
                                                                    (∀ (v : Value), hasO o o.length v ↔ hasO o o.length v) ∧
                                                                      ∀ (v : Value),
                                                                        hasO o o.length v → bl true = bl true) ∧
                                                                True) ∧
                                                          inv2 y ∧ (L.length - y).succ.le (L.length - x)))) ∧
                                  (decide ((↑x : Int) < (↑L.length : Int)) = false →
                                    True ∧
                                      True ∧
                                        IsRows o.length (ordF o) L.length (pastF L) ∧
                                          (∃ (x : Nat × Int),
                                              True ∧
                                                (((3 : Nat) = (3 : Nat) ∧ True ∧ True) ∧
                                                    ((32 : Nat) = (32 : Nat) ∧ True ∧ True) ∧
                                                      True ∧ ((3 : Nat) = (3 : Nat) ∧ (0 : Int) = x.snd ∧ True) ∧ True) ∧
                                                  inv3 x ∧ x.fst = (0 : Nat)) ∧
                                            (∀ (x : Nat × Int),
                                                inv3 x →
                                                  x.fst < o.length →
                                                    True ∧
                                                      True ∧
                                                        ((bif decide ((pAt L (numOf (ordF o x.fst))).told > (0 : Int)) then
                                                                decide ((pAt L (numOf (ordF o x.fst))).told < x.snd)
                                                              else false) =
                                                              true →
                                                            True ∧
                                                              True ∧
                                                                (True ∧ True ∧ True) ∧
                                                                  (True ∧ True ∧ True) ∧
                                                                    R
                                                                      (AV.tup
                                                                        [AV.pl (Value.int IntKind.i64 (oAt o x.fst)),
                                                                          AV.pl (Value.int IntKind.i64 (341 : Int))])
                                                                      []) ∧
                                                          ((bif
                                                                  decide
                                                                    ((pAt L (numOf (ordF o x.fst))).told > (0 : Int)) then
                                                                decide ((pAt L (numOf (ordF o x.fst))).told < x.snd)
                                                              else false) =
                                                              false →
                                                            True ∧
                                                              ∃ (y : Nat × Int),
                                                                True ∧
                                                                  (((3 : Nat) = (3 : Nat) ∧ True ∧ True) ∧
                                                                      ((32 : Nat) = (32 : Nat) ∧ True ∧ True) ∧
                                                                        True ∧
                                                                          ((3 : Nat) = (3 : Nat) ∧
                                                                              (if
                                                                                      (pAt L (numOf (ordF o x.fst))).asked >
                                                                                        x.snd then
                                                                                    (pAt L (numOf (ordF o x.fst))).asked
                                                                                  else x.snd) =
                                                                                  y.snd ∧
                                                                                True) ∧
                                                                            True) ∧
                                                                    inv3 y ∧ y.fst = x.fst + (1 : Nat))) ∧
                                              ∀ (x : Nat × Int),
                                                inv3 x →
                                                  x.fst = o.length →
                                                    True ∧
                                                      True ∧
                                                        (True ∧ True ∧ True) ∧
                                                          (True ∧ True ∧ True) ∧
                                                            R
                                                              (AV.tup
                                                                [AV.pl (Value.int IntKind.i64 (0 : Int)),
                                                                  AV.pl (Value.int IntKind.i64 (0 : Int))])
                                                              [])))) := by kernel_rfl
theorem intKey_inj {a b : Int} : Value.int .i64 a = .int .i64 b ↔ a = b := ⟨fun h => by injection h, fun h => by rw [h]⟩
theorem hasO_any (o : List Int) (n : Nat) (k : Int) : hasO o n (.int .i64 k) ↔ ((List.range n).any fun j => oAt o j == k) = true := by
  unfold hasO
  rw [List.any_eq_true]
  constructor
  · rintro ⟨j, hj, h⟩; exact ⟨j, by simpa using hj, by simpa using intKey_inj.1 h⟩
  · rintro ⟨j, hj, h⟩; exact ⟨j, by simpa using hj, intKey_inj.2 (by simpa using h)⟩
theorem hasO_succ (o : List Int) (i : Nat) (v : Value) : (v = .int .i64 (oAt o i) ∨ hasO o i v) ↔ hasO o (i + 1) v := by
  unfold hasO
  constructor
  · rintro (rfl | ⟨j, hj, h⟩)
    · exact ⟨i, by omega, rfl⟩
    · exact ⟨j, by omega, h⟩
  · rintro ⟨j, hj, h⟩
    rcases Nat.lt_or_ge j i with h1 | h1
    · exact .inr ⟨j, h1, h⟩
    · have : j = i := by omega
      subst this
      exact .inl h.symm
theorem allTo {n : Nat} {ok : Nat → Bool} (h : ∀ j, j < n → ok j = true) (h2 : ok n = true) : ∀ j, j < n + 1 → ok j = true := by
  intro j hj
  rcases Nat.lt_or_ge j n with h1 | h1
  · exact h j h1
  · have : j = n := by omega
    rw [this]; exact h2
theorem K3 : KLaw Try.prog 3 (IsKey (.int .i64)) := klaw_plain (by kernel_rfl)
theorem X19 : EntOk Try.prog 19 (.lend T19) := by
  refine ⟨enters_of (fn := Try.f19) rfl rfl (by kernel_rfl), fun args R h => ?_⟩
  unfold T19 at h
  split at h
  case h_2 => exact h.elim
  obtain ⟨L, o, hx, hy, ho, h⟩ := h
  refine Spec.argsR (args' := [pasts L, ords o]) ⟨hx, hy, trivial⟩ (Spec.given fun hg => mkS (v19 L o (fun i => (chk L).2 = 0 ∧ i ≤ o.length ∧ ∀ j, j < i → okO L o j = true)
    (fun i => (chk L).2 = 0 ∧ (∀ j, j < o.length → okO L o j = true) ∧ i ≤ L.length ∧ ∀ j, j < i → okT L o j = true)
    (fun p => (chk L).2 = 0 ∧ (∀ j, j < o.length → okO L o j = true) ∧ (∀ j, j < L.length → okT L o j = true) ∧ p.1 ≤ o.length ∧ p.2 = lastTo L o p.1 ∧ ∀ j, j < p.1 → okL L o j = true) R) (mkTab_ok (ac X17 (ac X33 (ac X41 az))) ⟨K3, trivial⟩) rfl rfl ?_)
  simp only [true_and, and_true, and_self, implies_true, forall_const, gEq_true, gEq_false, natle_iff, decide_eq_true_eq, decide_eq_false_iff_not, Int.toNat_natCast, cond_bt, cond_bf, Bool.cond_true, Bool.cond_false, reduceCtorEq, false_implies, implies_true, Bool.true_eq_false, Bool.false_eq_true, Bool.not_eq_true', Bool.not_eq_false']
  have hL : L.length ≤ 9223372036854775807 := by rw [← maxLen_eq]; exact hg.1
  refine ⟨L, isPasts_self L, fun hc => ?_, fun hc => ⟨⟨0, rfl, fun v => ⟨fun hh => hh.elim, fun ⟨j, hj, _⟩ => by omega⟩, by simpa using hc, Nat.zero_le _, fun j hj => by omega⟩, fun x hx => ⟨fun hlt => ⟨⟨by omega, by omega⟩, fun hr => ⟨rfl, fun c hcb => ⟨fun ht => ?_, fun ht => ⟨rfl, x + 1, by rw [wrap64] <;> omega, ⟨fun v => hasO_succ o x v, fun v _ => updV_true v _⟩, ⟨hx.1, by omega, allTo hx.2.2 ?_⟩, by omega⟩⟩⟩, fun hr => ?_⟩, fun hge => ?_⟩⟩⟩
  · rw [order, hc] at h
    exact h
  · have : okO L o x = false := by
      have := (hasO_any o x (oAt o x)).1 (hcb.1 ht)
      simp [okO, this]
    rw [order, hc, firstNo_some (by omega) hx.2.2 this] at h
    exact h
  · have hno : ((List.range x).any fun j => oAt o j == oAt o x) = false := by
      cases hz : (List.range x).any fun j => oAt o j == oAt o x with
      | false => rfl
      | true => rw [hcb.2 ((hasO_any o x (oAt o x)).2 hz)] at ht; cases ht
    rw [Bool.or_eq_false_iff] at hr
    have h1 := of_decide_eq_false hr.1
    have h2 := of_decide_eq_false hr.2
    rw [okO, hno, decide_eq_true (by omega : 0 ≤ oAt o x), decide_eq_true (by omega : oAt o x < L.length)]
    rfl
  · have : okO L o x = false := by
      rw [Bool.or_eq_true] at hr
      rcases hr with hr | hr
      · have := of_decide_eq_true hr
        rw [okO, decide_eq_false (by omega : ¬ 0 ≤ oAt o x), Bool.false_and, Bool.false_and]
      · have := of_decide_eq_true hr
        rw [okO, decide_eq_false (by omega : ¬ oAt o x < L.length), Bool.and_false, Bool.false_and]
    rw [order, hc, firstNo_some (by omega) hx.2.2 this] at h
    exact h
  · have hxo : x = o.length := by omega
    subst hxo
    have hO := hx.2.2
    rw [order, hc, firstNo_none hO] at h
    clear hx hge
    refine ⟨⟨0, rfl, fun v => Iff.rfl, by simpa using hc, hO, Nat.zero_le _, fun j hj => by omega⟩, fun x hx => ⟨fun hlt => ⟨⟨by omega, by omega⟩, fun ht => ⟨rfl, fun c hcb => ⟨fun hb => ?_, fun hb => ⟨x + 1, by rw [wrap64] <;> omega, ⟨hx.1, hx.2.1, by omega, allTo hx.2.2.2 ?_⟩, by omega⟩⟩⟩, fun ht => ⟨x + 1, by rw [wrap64] <;> omega, ⟨hx.1, hx.2.1, by omega, allTo hx.2.2.2 ?_⟩, by omega⟩⟩, fun hge => ?_⟩⟩
    · have : okT L o x = false := by
        have hno : ((List.range o.length).any fun j => oAt o j == (x : Int)) = false := by
          cases hz : (List.range o.length).any fun j => oAt o j == (x : Int) with
          | false => rfl
          | true => rw [hcb.2 ((hasO_any o o.length x).2 hz)] at hb; cases hb
        rw [okT, hno, decide_eq_true (by omega : 0 < (pAt L x).told)]; rfl
      rw [firstNo_some (by omega) hx.2.2.2 this] at h
      exact h
    · have := (hasO_any o o.length x).1 (hcb.1 hb)
      rw [okT, this]; simp
    · rw [okT, decide_eq_false (by omega : ¬ 0 < (pAt L x).told)]; rfl
    · have hxl : x = L.length := by omega
      subst hxl
      have hT := hx.2.2.2
      rw [firstNo_none hT] at h
      refine ⟨⟨ho, L, o, rfl, rfl, rfl, rfl, fun i hi => ?_⟩, ⟨(0, 0), rfl, ⟨by simpa using hc, hO, hT, Nat.zero_le _, rfl, fun j hj => by simp only at hj; omega⟩, rfl⟩, fun p hp hlt => ⟨fun hb => ?_, fun hb => ⟨(p.1 + 1, lastTo L o (p.1 + 1)), ?_, ⟨hp.1, hO, hT, by simp only; omega, rfl, allTo hp.2.2.2.2.2 ?_⟩, rfl⟩⟩, fun p hp he => ?_⟩
      · have := hO i hi
        rw [okO, Bool.and_eq_true, Bool.and_eq_true, decide_eq_true_eq, decide_eq_true_eq] at this
        exact this.1
      · have : okL L o p.1 = false := by
          have hb' : (decide (0 < (rowAt L o p.1).told) && decide ((rowAt L o p.1).told < p.2)) = true := hb
          rw [okL, ← hp.2.2.2.2.1, hb']; rfl
        rw [firstNo_some hlt hp.2.2.2.2.2 this] at h
        exact h
      · show _ = lastTo L o (p.1 + 1)
        rw [lastTo, ← hp.2.2.2.2.1]
        rfl
      · have hb' : (decide (0 < (rowAt L o p.1).told) && decide ((rowAt L o p.1).told < p.2)) = false := hb
        rw [okL, ← hp.2.2.2.2.1, hb']; rfl
      · rw [← he, firstNo_none hp.2.2.2.2.2] at h
        exact h
end Go.Proofs.R1

namespace Go.Proofs.R1
open Go Go.Am

def stepL (b : List Br) (p : Past) : List Br := bif p.told == 0 then DoesL b p.cmd else FitsL b p.cmd p.ans
def runJ (L : List Past) (o : List Int) : Nat → List Br
  | 0 => []
  | i + 1 => stepL (runJ L o i) (rowAt L o i)
def okJ (L : List Past) (o : List Int) (i : Nat) : Bool := (rowAt L o i).told == 0 || FitsB (runJ L o i) (rowAt L o i).cmd (rowAt L o i).ans
def judge (L : List Past) (o : List Int) : List Br × Int × Int := bif (order L o).2 != 0 then ([], (order L o).1, (order L o).2) else match firstNo o.length (okJ L o) with
  | some i => ([], oAt o i, 342)
  | none => (runJ L o o.length, 0, 0)
def T21 : Trans := fun args K => match args with
  | [x, y] => ∃ (L : List Past) (o : List Int), IsPasts x L ∧ IsOrd y o ∧ o.length ≤ 1000000 ∧ K (.tup [.own 0 0 (judge L o).1.length, nm (judge L o).2.1, nm (judge L o).2.2]) [brsO (judge L o).1]
  | _ => False
end Go.Proofs.R1

namespace Go.Proofs.R1
open Go Go.Am Go.MapKept

theorem v21 (L : List Past) (o : List Int) (inv : Nat × List Br → Prop) (R : AV → List LObj → Prop) :
    (vcA false 0 [] Try.prog (mkTab [(19, .lend T19), (10, .lend T10), (9, .lend T9), (33, .lend T33), (41, .seq F41)]) (Try.f21.body.getD .skip) ([.range 6 (Nat × List Br) inv (fun p => p.1) (fun p => [.box 22 [.any], .box 3 [.any], .box 32 [.any], .box 22 [.own 4 0 p.2.length], brsO p.2]) (fun _ => [])]) (finalK Try.prog Try.f21 (fun y H => ∃ _ : Unit, leSt 0 ⟨[y], H⟩ ⟨[.tup [.own 0 0 (judge L o).1.length, nm (judge L o).2.1, nm (judge L o).2.2]], [brsO (judge L o).1]⟩ (R (.tup [.own 0 0 (judge L o).1.length, nm (judge L o).2.1, nm (judge L o).2.2]) [brsO (judge L o).1]))) (startSt Try.f21 ([pasts L, ords o]))) = (
    True ∧
      True ∧
        True ∧
          ∃ (L_1 : List Past),
            ∃ (o_1 : List Int),
              IsPasts (AV.rows (104 : Nat) L.length (pastF L)) L_1 ∧
                IsOrd (AV.rows (1 : Nat) o.length (ordF o)) o_1 ∧
                  o_1.length.le (1000000 : Nat) ∧
                    (((order L_1 o_1).snd != (0 : Int)) = true →
                        True ∧
                          True ∧
                            True ∧
                              (True ∧ True ∧ True ∧ True) ∧
                                (True ∧ True ∧ True ∧ True) ∧
                                  ∃ (_ : Unit),
                                    (((True ∧ True ∧ (0 : Nat) = (0 : Nat) ∧ (judge L o).fst.length = (0 : Nat)) ∧
                                          (order L_1 o_1).fst = (judge L o).snd.fst ∧
                                            (order L_1 o_1).snd = (judge L o).snd.snd ∧ True) ∧
                                        True) ∧
                                      ((judge L o).fst.length = (0 : Nat) ∧ True) ∧
                                        R
                                          (AV.tup
                                            [AV.own (0 : Nat) (0 : Nat) (judge L o).fst.length,
                                              AV.pl (Value.int IntKind.i64 (judge L o).snd.fst),
                                              AV.pl (Value.int IntKind.i64 (judge L o).snd.snd)])
                                          [LObj.row (33 : Nat) (45 : Nat) (judge L o).fst.length (brsF (judge L o).fst)]) ∧
                      (((order L_1 o_1).snd != (0 : Int)) = false →
                        True ∧
                          IsRows o.length (ordF o) L.length (pastF L) ∧
                            (∃ (x : Nat × List Br),
                                True ∧
                                  (((22 : Nat) = (22 : Nat) ∧ True ∧ True) ∧
                                      ((3 : Nat) = (3 : Nat) ∧ True ∧ True) ∧
                                        ((32 : Nat) = (32 : Nat) ∧ True ∧ True) ∧
                                          ((22 : Nat) = (22 : Nat) ∧
                                              (True ∧ True ∧ (0 : Nat) = (0 : Nat) ∧ x.snd.length = (0 : Nat)) ∧ True) ∧
                                            x.snd.length = (0 : Nat) ∧ True) ∧
                                    inv x ∧ x.fst = (0 : Nat)) ∧
                              (∀ (x : Nat × List Br),
                                  inv x →
                                    x.fst < o.length →
                                      True ∧
                                        True ∧
                                          (((pAt L (numOf (ordF o x.fst))).told == (0 : Int)) = true →
                                              (((0 : Nat) + x.snd.length).le x.snd.length ∧
                                                  (True ∧ True ∧ True ∧ True ∧ True ∧ True ∧ True ∧ True) ∧ True) ∧
                                                ∃ (L_2 : List Br),
                                                  ∃ (c : Cmd),
                                                    IsBrs
                                                        (AV.rows (33 : Nat) x.snd.length fun (i : Nat) =>
                                                          AV.agg
                                                            [AV.pl (Value.string (brAt x.snd ((0 : Nat) + i)).name),
                                                              AV.iarr IntKind.u8 (32 : Nat)
                                                                (brAt x.snd ((0 : Nat) + i)).id])
                                                        L_2 ∧
                                                      IsCmd
                                                          (AV.agg
                                                            [AV.pl
                                                                (Value.int IntKind.i64
                                                                  (pAt L (numOf (ordF o x.fst))).cmd.kind),
                                                              AV.pl
                                                                (Value.int IntKind.i64
                                                                  (pAt L (numOf (ordF o x.fst))).cmd.client),
                                                              AV.pl
                                                                (Value.int IntKind.u32
                                                                  (pAt L (numOf (ordF o x.fst))).cmd.seq),
                                                              AV.pl
                                                                (Value.string (pAt L (numOf (ordF o x.fst))).cmd.branch),
                                                              AV.iarr IntKind.u8 (32 : Nat)
                                                                (pAt L (numOf (ordF o x.fst))).cmd.old,
                                                              AV.iarr IntKind.u8 (32 : Nat)
                                                                (pAt L (numOf (ordF o x.fst))).cmd.new,
                                                              AV.rows (1 : Nat) (pAt L (numOf (ordF o x.fst))).cmd.dn
                                                                (pAt L (numOf (ordF o x.fst))).cmd.df])
                                                          c ∧
                                                        Bd L_2 ∧
                                                          True ∧
                                                            ((∀ (i : Nat),
                                                                  i < (DoesL L_2 c).length →
                                                                    flatB (brsF (DoesL L_2 c) i) = true) ∧
                                                                True) ∧
                                                              True ∧
                                                                ∃ (y : Nat × List Br),
                                                                  True ∧
                                                                    (((22 : Nat) = (22 : Nat) ∧ True ∧ True) ∧
                                                                        ((3 : Nat) = (3 : Nat) ∧ True ∧ True) ∧
                                                                          ((32 : Nat) = (32 : Nat) ∧ True ∧ True) ∧
                                                                            ((22 : Nat) = (22 : Nat) ∧
                                                                                (True ∧
                                                                                    (0 : Nat) = (0 : Nat) ∧
                                                                                      (DoesL L_2 c).length = y.snd.length) ∧
                                                                                  True) ∧
                                                                              ((33 : Nat) = (33 : Nat) ∧
                                                                                  (45 : Nat) = (45 : Nat) ∧
                                                                                    y.snd.length.le (DoesL L_2 c).length ∧
                                                                                      ∀ (i : Nat),
                                                                                        i < y.snd.length →
                                                                                          AV.agg
                                                                                              [AV.pl
                                                                                                  (Value.string
                                                                                                    (brAt (DoesL L_2 c)
                                                                                                        i).name),
                                                                                                AV.iarr IntKind.u8
                                                                                                  (32 : Nat)
                                                                                                  (brAt (DoesL L_2 c)
                                                                                                      i).id] =
                                                                                            AV.agg
                                                                                              [AV.pl
                                                                                                  (Value.string
                                                                                                    (brAt y.snd i).name),
                                                                                                AV.iarr IntKind.u8
                                                                                                  (32 : Nat)
                                                                                                  (brAt y.snd i).id]) ∧
                                                                                True) ∧
                                                                      inv y ∧ y.fst = x.fst + (1 : Nat)) ∧
                                            (((pAt L (numOf (ordF o x.fst))).told == (0 : Int)) = false →
                                              (((0 : Nat) + x.snd.length).le x.snd.length ∧
                                                  (True ∧ True ∧ True ∧ True ∧ True ∧ True ∧ True ∧ True) ∧
                                                    (True ∧ True ∧ True) ∧ True) ∧
                                                ∃ (L_2 : List Br),
                                                  ∃ (c : Cmd),
                                                    ∃ (a : Ans),
                                                      IsBrs
                                                          (AV.rows (33 : Nat) x.snd.length fun (i : Nat) =>
                                                            AV.agg
                                                              [AV.pl (Value.string (brAt x.snd ((0 : Nat) + i)).name),
                                                                AV.iarr IntKind.u8 (32 : Nat)
                                                                  (brAt x.snd ((0 : Nat) + i)).id])
                                                          L_2 ∧
                                                        IsCmd
                                                            (AV.agg
                                                              [AV.pl
                                                                  (Value.int IntKind.i64
                                                                    (pAt L (numOf (ordF o x.fst))).cmd.kind),
                                                                AV.pl
                                                                  (Value.int IntKind.i64
                                                                    (pAt L (numOf (ordF o x.fst))).cmd.client),
                                                                AV.pl
                                                                  (Value.int IntKind.u32
                                                                    (pAt L (numOf (ordF o x.fst))).cmd.seq),
                                                                AV.pl
                                                                  (Value.string (pAt L (numOf (ordF o x.fst))).cmd.branch),
                                                                AV.iarr IntKind.u8 (32 : Nat)
                                                                  (pAt L (numOf (ordF o x.fst))).cmd.old,
                                                                AV.iarr IntKind.u8 (32 : Nat)
                                                                  (pAt L (numOf (ordF o x.fst))).cmd.new,
                                                                AV.rows (1 : Nat) (pAt L (numOf (ordF o x.fst))).cmd.dn
                                                                  (pAt L (numOf (ordF o x.fst))).cmd.df])
                                                            c ∧
                                                          IsAns
                                                              (AV.agg
                                                                [AV.pl
                                                                    (Value.int IntKind.i64
                                                                      (pAt L (numOf (ordF o x.fst))).ans.err),
                                                                  AV.iarr IntKind.u8 (32 : Nat)
                                                                    (pAt L (numOf (ordF o x.fst))).ans.id])
                                                              a ∧
                                                            Bd L_2 ∧
                                                              True ∧
                                                                ((∀ (i : Nat),
                                                                      i < (FitsL L_2 c a).length →
                                                                        flatB (brsF (FitsL L_2 c a) i) = true) ∧
                                                                    True) ∧
                                                                  ((!FitsB L_2 c a) = true →
                                                                      True ∧
                                                                        True ∧
                                                                          True ∧
                                                                            (True ∧ True ∧ True ∧ True) ∧
                                                                              (True ∧ True ∧ True ∧ True) ∧
                                                                                ∃ (_ : Unit),
                                                                                  (((True ∧
                                                                                          True ∧
                                                                                            (0 : Nat) = (0 : Nat) ∧
                                                                                              (judge L o).fst.length =
                                                                                                (0 : Nat)) ∧
                                                                                        oAt o x.fst = (judge L o).snd.fst ∧
                                                                                          (342 : Int) =
                                                                                              (judge L o).snd.snd ∧
                                                                                            True) ∧
                                                                                      True) ∧
                                                                                    ((judge L o).fst.length = (0 : Nat) ∧
                                                                                        True) ∧
                                                                                      R
                                                                                        (AV.tup
                                                                                          [AV.own (0 : Nat) (0 : Nat)
                                                                                              (judge L o).fst.length,
                                                                                            AV.pl
                                                                                              (Value.int IntKind.i64
                                                                                                (judge L o).snd.fst),
                                                                                            AV.pl
                                                                                              (Value.int IntKind.i64
                                                                                                (judge L o).snd.snd)])
                                                                                        [LObj.row (33 : Nat) (45 : Nat)
                                                                                            (judge L o).fst.length
                                                                                            (brsF (judge L o).fst)]) ∧
                                                                    ((!FitsB L_2 c a) = false →
                                                                      True ∧
                                                                        ∃ (y : Nat × List Br),
                                                                          True ∧
                                                                            (((22 : Nat) = (22 : Nat) ∧ True ∧ True) ∧
                                                                                ((3 : Nat) = (3 : Nat) ∧ True ∧ True) ∧
                                                                                  ((32 : Nat) = (32 : Nat) ∧ True ∧ True) ∧
                                                                                    ((22 : Nat) = (22 : Nat) ∧
                                                                                        (True ∧
                                                                                            (0 : Nat) = (0 : Nat) ∧
                                                                                              (FitsL L_2 c a).length =
                                                                                                y.snd.length) ∧
                                                                                          True) ∧
                                                                                      ((33 : Nat) = (33 : Nat) ∧
                                                                                          (45 : Nat) = (45 : Nat) ∧
                                                                                            y.snd.length.le
                                                                                                (FitsL L_2 c a).length ∧
                                                                                              ∀ (i : Nat),
                                                                                                i < y.snd.length →
                                                                                                  AV.agg
                                                                                                      [AV.pl
                                                                                                          (Value.string
                                                                                                            (brAt
                                                                                                                (FitsL L_2 c
                                                                                                                  a)
                                                                                                                i).name),
                                                                                                        AV.iarr IntKind.u8
                                                                                                          (32 : Nat)
                                                                                                          (brAt
                                                                                                              (FitsL L_2 c
                                                                                                                a)
                                                                                                              i).id] =
                                                                                                    AV.agg
                                                                                                      [AV.pl
                                                                                                          (Value.string
                                                                                                            (brAt y.snd
                                                                                                                i).name),
                                                                                                        AV.iarr IntKind.u8
                                                                                                          (32 : Nat)
                                                                                                          (brAt y.snd
                                                                                                              i).id]) ∧
                                                                                        True) ∧
                                                                              inv y ∧ y.fst = x.fst + (1 : Nat)))) ∧
                                ∀ (x : Nat × List Br),
                                  inv x →
                                    x.fst = o.length →
                                      True ∧
                                        True ∧
                                          True ∧
                                            (True ∧ True ∧ True ∧ True) ∧
                                              True ∧
                                                ∃ (_ : Unit),
                                                  (((True ∧ (0 : Nat) = (0 : Nat) ∧ x.snd.length = (judge L o).fst.length) ∧
                                                        (0 : Int) = (judge L o).snd.fst ∧
                                                          (0 : Int) = (judge L o).snd.snd ∧ True) ∧
                                                      True) ∧
                                                    (((33 : Nat) = (33 : Nat) ∧
                                                          (45 : Nat) = (45 : Nat) ∧
                                                            (judge L o).fst.length.le x.snd.length ∧
                                                              ∀ (i : Nat),
                                                                i < (judge L o).fst.length →
                                                                  AV.agg
                                                                      [AV.pl (Value.string (brAt x.snd i).name),
                                                                        AV.iarr IntKind.u8 (32 : Nat) (brAt x.snd i).id] =
                                                                    AV.agg
                                                                      [AV.pl (Value.string (brAt (judge L o).fst i).name),
                                                                        AV.iarr IntKind.u8 (32 : Nat)
                                                                          (brAt (judge L o).fst i).id]) ∧
                                                        True) ∧
                                                      R
                                                        (AV.tup
                                                          [AV.own (0 : Nat) (0 : Nat) (judge L o).fst.length,
                                                            AV.pl (Value.int IntKind.i64 (judge L o).snd.fst),
                                                            AV.pl (Value.int IntKind.i64 (judge L o).snd.snd)])
                                                        [LObj.row (33 : Nat) (45 : Nat) (judge L o).fst.length
                                                            (brsF (judge L o).fst)])) := by kernel_rfl
theorem len_moved (L : List Br) (c : Cmd) : (moved L c).length ≤ L.length + 1 := by
  unfold moved
  cases idEq c.new z0 <;> cases hasB L c.branch <;> simp only [cond_true, cond_false]
  · rw [len_ins _ _ _ (findI_le _ _)]; omega
  · rw [len_put]; omega
  · omega
  · simp [delB]; omega
theorem len_fitsL (L : List Br) (c : Cmd) (a : Ans) : (fitsL L c a).length ≤ L.length + 1 := by
  unfold fitsL
  have := len_moved L c
  cases (c.kind == 1 || c.kind == 4 || (c.kind == 2 && !idEq (headI L c.branch) c.old) || !ansEq a 0 c.new) <;> simp only [cond_true, cond_false] <;> omega
theorem len_FitsL (L : List Br) (c : Cmd) (a : Ans) : (FitsL L c a).length ≤ L.length + 1 := by
  unfold FitsL
  have := len_fitsL L c a
  cases FitsB L c a <;> simp <;> omega
theorem len_DoesL (L : List Br) (c : Cmd) : (DoesL L c).length ≤ L.length + 1 := by
  unfold DoesL
  have := len_fitsL L c ⟨0, c.new⟩
  cases h : (rightB L && checkB c) <;> simp only [Bool.not_true, Bool.not_false, cond_true, cond_false]
  · simp
  · cases h2 : (c.kind == 1 || c.kind == 4) <;> simp only [cond_true, cond_false]
    · cases h3 : fitsB L c ⟨0, c.new⟩ <;> simp only [cond_true, cond_false] <;> omega
    · omega
theorem len_runJ (L : List Past) (o : List Int) : ∀ i, (runJ L o i).length ≤ i := by
  intro i
  induction i with
  | zero => simp [runJ]
  | succ i ih =>
    rw [runJ, stepL]
    have h1 := len_DoesL (runJ L o i) (rowAt L o i).cmd
    have h2 := len_FitsL (runJ L o i) (rowAt L o i).cmd (rowAt L o i).ans
    cases (rowAt L o i).told == 0 <;> simp only [cond_true, cond_false] <;> omega
theorem order_ok {L : List Past} {o : List Int} (h : (order L o).2 = 0) : ∀ i, i < o.length → 0 ≤ oAt o i ∧ oAt o i < L.length := by
  unfold order at h
  cases hc : (chk L).2 != 0 with
  | true =>
    rw [hc] at h
    simp only [cond_true] at h
    rw [h] at hc
    cases hc
  | false =>
    rw [hc] at h
    simp only [cond_false] at h
    unfold firstNo at h
    rcases find_range o.length (fun i => !okO L o i) with ⟨j, h3, _⟩ | ⟨_, h4⟩
    · rw [h3] at h
      simp at h
    · intro i hi
      have := h4 i hi
      simp only [okO, Bool.not_eq_false', Bool.and_eq_true, decide_eq_true_eq] at this
      exact this.1
theorem X21 : EntOk Try.prog 21 (.lend T21) := by
  refine ⟨enters_of (fn := Try.f21) rfl rfl (by kernel_rfl), fun args R h => ?_⟩
  unfold T21 at h
  split at h
  case h_2 => exact h.elim
  obtain ⟨L, o, hx, hy, ho, h⟩ := h
  refine Spec.argsR (args' := [pasts L, ords o]) ⟨hx, hy, trivial⟩ (Spec.weak (Z := Unit) (X := fun _ => .tup [.own 0 0 (judge L o).1.length, nm (judge L o).2.1, nm (judge L o).2.2]) (HH := fun _ => [brsO (judge L o).1]) (mkS (v21 L o (fun p => p.1 ≤ o.length ∧ p.2 = runJ L o p.1 ∧ ∀ j, j < p.1 → okJ L o j = true) R) (tb (ac X19 (ac X10 (ac X9 (ac X33 (ac X41 az)))))) rfl rfl ?_))
  simp only [true_and, and_true, and_self, natle_iff, Bool.not_eq_true', Bool.not_eq_false']
  have fin : ∀ M p q, judge L o = (M, p, q) → (M.length = (judge L o).fst.length ∧ p = (judge L o).snd.fst ∧ q = (judge L o).snd.snd) ∧ ((judge L o).fst.length ≤ M.length ∧ ∀ (i : Nat), i < (judge L o).fst.length → AV.agg [AV.pl (Value.string (brAt M i).name), AV.iarr IntKind.u8 32 (brAt M i).id] = AV.agg [AV.pl (Value.string (brAt (judge L o).fst i).name), AV.iarr IntKind.u8 32 (brAt (judge L o).fst i).id]) ∧
      R (AV.tup [AV.own 0 0 (judge L o).fst.length, AV.pl (Value.int IntKind.i64 (judge L o).snd.fst), AV.pl (Value.int IntKind.i64 (judge L o).snd.snd)]) [LObj.row 33 45 (judge L o).fst.length (brsF (judge L o).fst)] := by
    intro M p q e
    refine ⟨⟨by rw [e], by rw [e], by rw [e]⟩, ⟨by rw [e]; exact Nat.le_refl _, fun i _ => by rw [e]⟩, h⟩
  have no : ∀ p q, judge L o = ([], p, q) → ((judge L o).fst.length = 0 ∧ p = (judge L o).snd.fst ∧ q = (judge L o).snd.snd) ∧ (judge L o).fst.length = 0 ∧
      R (AV.tup [AV.own 0 0 (judge L o).fst.length, AV.pl (Value.int IntKind.i64 (judge L o).snd.fst), AV.pl (Value.int IntKind.i64 (judge L o).snd.snd)]) [LObj.row 33 45 (judge L o).fst.length (brsF (judge L o).fst)] := by
    intro p q e
    exact ⟨⟨by rw [e]; rfl, by rw [e], by rw [e]⟩, by rw [e]; rfl, h⟩
  have bsh : ∀ b : List Br, IsBrs (AV.rows 33 b.length fun i => AV.agg [AV.pl (Value.string (brAt b (0 + i)).name), AV.iarr IntKind.u8 32 (brAt b (0 + i)).id]) b := fun b => ⟨rfl, rfl, fun i _ => by dsimp only; rw [Nat.zero_add]; rfl⟩
  refine ⟨L, o, isPasts_self L, isOrd_self o, ho, fun hc => ⟨(), no _ _ (by rw [judge, hc]; rfl)⟩, fun hc => ⟨⟨ho, L, o, rfl, rfl, rfl, rfl, order_ok (by simpa using hc)⟩, ⟨(0, []), rfl, ⟨Nat.zero_le _, rfl, fun j hj => by simp only at hj; omega⟩, rfl⟩, fun p hp hlt => ?_, fun p hp he => ⟨(), fin _ _ _ ?_⟩⟩⟩
  · obtain ⟨i, b⟩ := p
    obtain ⟨hi, hb, hj⟩ := hp
    simp only at hi hb hj hlt ⊢
    have hlen := len_runJ L o i
    rw [← hb] at hlen
    have hBd : Bd b := by unfold Bd; omega
    refine ⟨fun ht => ⟨by omega, b, (rowAt L o i).cmd, bsh b, isCmd_self _, hBd, fun _ _ => rfl, (i + 1, DoesL b (rowAt L o i).cmd), ⟨rfl, Nat.le_refl _, fun _ _ => rfl⟩, ⟨hlt, ?_, allTo hj ?_⟩, rfl⟩, fun ht => ⟨by omega, b, (rowAt L o i).cmd, (rowAt L o i).ans, bsh b, isCmd_self _, isAns_self _, hBd, fun _ _ => rfl, fun hf => ⟨(), no _ _ ?_⟩, fun hf => ⟨(i + 1, FitsL b (rowAt L o i).cmd (rowAt L o i).ans), ⟨rfl, Nat.le_refl _, fun _ _ => rfl⟩, ⟨hlt, ?_, allTo hj ?_⟩, rfl⟩⟩⟩
    · have ht' : ((rowAt L o i).told == 0) = true := ht
      show _ = runJ L o (i + 1)
      rw [runJ, stepL, ht', ← hb]; rfl
    · have ht' : ((rowAt L o i).told == 0) = true := ht
      rw [okJ, ht']; rfl
    · have ht' : ((rowAt L o i).told == 0) = false := ht
      have : okJ L o i = false := by rw [okJ, ht', ← hb, hf]; rfl
      rw [judge, hc, firstNo_some hlt hj this]; rfl
    · have ht' : ((rowAt L o i).told == 0) = false := ht
      show _ = runJ L o (i + 1)
      rw [runJ, stepL, ht', ← hb]; rfl
    · have ht' : ((rowAt L o i).told == 0) = false := ht
      rw [okJ, ht', ← hb, hf]; rfl
  · rw [judge, hc, hp.2.1, he]
    have hj := hp.2.2
    rw [he] at hj
    rw [firstNo_none hj]; rfl
end Go.Proofs.R1

namespace Go.Proofs.R1
open Go Go.Am

def id1 : Idv := fun i => if i = 0 then 1 else 0
def mS : ByteArray := ByteArray.mk #[109]
def firstL (asked : Int) (a : Ans) : List Past := [⟨⟨2, 1, 1, mS, z0, id1, 0, fun _ => .any⟩, 1, 2, ⟨0, id1⟩⟩, ⟨⟨1, 2, 1, mS, z0, z0, 0, fun _ => .any⟩, asked, 4, a⟩]
/-- As the row of it lies: its Data are nil. -/
def firstF (asked : Int) (a : Ans) (i : Nat) : AV := rowOf [(0, .agg [nm 2, nm 1, .pl (.int .u32 1), st mS, .iarr .u8 32 z0, .iarr .u8 32 id1, .pl (.slice none 0 0), nm 1, nm 2, nm 0, .iarr .u8 32 id1]),
  (1, .agg [nm 1, nm 2, .pl (.int .u32 1), st mS, .iarr .u8 32 z0, .iarr .u8 32 z0, .pl (.slice none 0 0), nm asked, nm 4, nm a.err, .iarr .u8 32 a.id])] i
def T27 : Trans := fun args K => match args with
  | [.pl (.int .i64 k), y] => ∃ a : Ans, IsAns y a ∧ K (.own 0 0 2) [.row 104 64 2 (firstF k a)]
  | _ => False
/-- The laws are awake. -/
def wake : Bool :=
  ((judge (firstL 3 ⟨0, id1⟩) [0, 1]).2.2 == 0 && (judge (firstL 3 ⟨0, id1⟩) [0, 1]).2.1 == 0 && (judge (firstL 3 ⟨0, id1⟩) [0, 1]).1.length == 1 && idEq (brAt (judge (firstL 3 ⟨0, id1⟩) [0, 1]).1 0).id id1) &&
  ((judge (firstL 3 ⟨0, id1⟩) [1, 0]).2.2 == 341 && (judge (firstL 3 ⟨0, id1⟩) [1, 0]).2.1 == 0) &&
  ((judge (firstL 1 ⟨4, z0⟩) [1, 0]).2.2 == 0 && (judge (firstL 1 ⟨4, z0⟩) [1, 0]).2.1 == 0 && (judge (firstL 1 ⟨4, z0⟩) [1, 0]).1.length == 1)
def T6 : Trans := fun args K => match args with
  | [] => K (bl true) []
  | _ => False
end Go.Proofs.R1

namespace Go.Proofs.R1
open Go Go.Am

theorem v27 (k : Int) (a : Ans) (R : AV → List LObj → Prop) :
    (vcA false 0 [] Try.prog (mkTab []) (Try.f27.body.getD .skip) ([]) (finalK Try.prog Try.f27 (fun y H => ∃ _ : Unit, leSt 0 ⟨[y], H⟩ ⟨[.own 0 0 2], [.row 104 64 2 (firstF k a)]⟩ (R (.own 0 0 2) [.row 104 64 2 (firstF k a)]))) (startSt Try.f27 ([nm k, a.av]))) = (
    True ∧
      True ∧
        True ∧
          True ∧
            (True ∧ True) ∧
              True ∧
                ∃ (_ : Unit),
                  ((True ∧ (0 : Nat) = (0 : Nat) ∧ (2 : Nat) = (2 : Nat)) ∧ True) ∧
                    (((104 : Nat) = (104 : Nat) ∧
                          (64 : Nat) = (64 : Nat) ∧
                            Nat.le (2 : Nat) (2 : Nat) ∧
                              ∀ (i : Nat),
                                i < (2 : Nat) →
                                  rowOf
                                      [((0 : Nat),
                                          AV.agg
                                            [AV.pl (Value.int IntKind.i64 (2 : Int)),
                                              AV.pl (Value.int IntKind.i64 (1 : Int)),
                                              AV.pl (Value.int IntKind.u32 (1 : Int)),
                                              AV.pl (Value.string (ByteArray.mk #[(109 : UInt8)])),
                                              AV.iarr IntKind.u8 (32 : Nat) fun (_ : Nat) => (0 : Int),
                                              AV.iarr IntKind.u8 (32 : Nat) fun (j : Nat) =>
                                                if j = (0 : Nat) then (1 : Int) else (0 : Int),
                                              AV.pl (Value.slice none (0 : Nat) (0 : Nat)),
                                              AV.pl (Value.int IntKind.i64 (1 : Int)),
                                              AV.pl (Value.int IntKind.i64 (2 : Int)),
                                              AV.pl (Value.int IntKind.i64 (0 : Int)),
                                              AV.iarr IntKind.u8 (32 : Nat) fun (j : Nat) =>
                                                if j = (0 : Nat) then (1 : Int) else (0 : Int)]),
                                        ((1 : Nat),
                                          AV.agg
                                            [AV.pl (Value.int IntKind.i64 (1 : Int)),
                                              AV.pl (Value.int IntKind.i64 (2 : Int)),
                                              AV.pl (Value.int IntKind.u32 (1 : Int)),
                                              AV.pl (Value.string (ByteArray.mk #[(109 : UInt8)])),
                                              AV.iarr IntKind.u8 (32 : Nat) fun (_ : Nat) => (0 : Int),
                                              AV.iarr IntKind.u8 (32 : Nat) fun (_ : Nat) => (0 : Int),
                                              AV.pl (Value.slice none (0 : Nat) (0 : Nat)), AV.pl (Value.int IntKind.i64 k),
                                              AV.pl (Value.int IntKind.i64 (4 : Int)), AV.pl (Value.int IntKind.i64 a.err),
                                              AV.iarr IntKind.u8 (32 : Nat) a.id])]
                                      i =
                                    firstF k a i) ∧
                        True) ∧
                      R (AV.own (0 : Nat) (0 : Nat) (2 : Nat)) [LObj.row (104 : Nat) (64 : Nat) (2 : Nat) (firstF k a)]) := by kernel_rfl
theorem v6 (R : AV → List LObj → Prop) :
    (vcA false 0 [] Try.prog (mkTab [(27, .lend T27), (21, .lend T21)]) (Try.f6.body.getD .skip) ([]) (finalK Try.prog Try.f6 (R)) (startSt Try.f6 ([]))) = (
    True ∧
      True ∧
        ∃ (a : Ans),
          IsAns
              (AV.agg
                [AV.pl (Value.int IntKind.i64 (0 : Int)),
                  AV.iarr IntKind.u8 (32 : Nat) fun (j : Nat) => if j = (0 : Nat) then (1 : Int) else (0 : Int)])
              a ∧
            True ∧
              (((0 : Nat) + (2 : Nat)).le (2 : Nat) ∧ ((0 : Nat) + (2 : Nat)).le (2 : Nat) ∧ True) ∧
                ∃ (L : List Past),
                  ∃ (o : List Int),
                    IsPasts (AV.rows (104 : Nat) (2 : Nat) fun (i : Nat) => firstF (3 : Int) a ((0 : Nat) + i)) L ∧
                      IsOrd
                          (AV.rows (1 : Nat) (2 : Nat) fun (i : Nat) =>
                            rowOf
                              [((0 : Nat), AV.pl (Value.int IntKind.i64 (0 : Int))),
                                ((1 : Nat), AV.pl (Value.int IntKind.i64 (1 : Int)))]
                              ((0 : Nat) + i))
                          o ∧
                        o.length.le (1000000 : Nat) ∧
                          True ∧
                            ((∀ (i : Nat), i < (judge L o).fst.length → flatB (brsF (judge L o).fst i) = true) ∧ True) ∧
                              ∃ (a : Ans),
                                IsAns
                                    (AV.agg
                                      [AV.pl (Value.int IntKind.i64 (0 : Int)),
                                        AV.iarr IntKind.u8 (32 : Nat) fun (j : Nat) =>
                                          if j = (0 : Nat) then (1 : Int) else (0 : Int)])
                                    a ∧
                                  True ∧
                                    (((0 : Nat) + (2 : Nat)).le (2 : Nat) ∧ ((0 : Nat) + (2 : Nat)).le (2 : Nat) ∧ True) ∧
                                      ∃ (L_1 : List Past),
                                        ∃ (o_1 : List Int),
                                          IsPasts
                                              (AV.rows (104 : Nat) (2 : Nat) fun (i : Nat) =>
                                                firstF (3 : Int) a ((0 : Nat) + i))
                                              L_1 ∧
                                            IsOrd
                                                (AV.rows (1 : Nat) (2 : Nat) fun (i : Nat) =>
                                                  rowOf
                                                    [((0 : Nat), AV.pl (Value.int IntKind.i64 (1 : Int))),
                                                      ((1 : Nat), AV.pl (Value.int IntKind.i64 (0 : Int)))]
                                                    ((0 : Nat) + i))
                                                o_1 ∧
                                              o_1.length.le (1000000 : Nat) ∧
                                                True ∧
                                                  ((∀ (i : Nat),
                                                        i < (judge L_1 o_1).fst.length →
                                                          flatB (brsF (judge L_1 o_1).fst i) = true) ∧
                                                      True) ∧
                                                    ∃ (a : Ans),
                                                      IsAns
                                                          (AV.agg
                                                            [AV.pl (Value.int IntKind.i64 (4 : Int)),
                                                              AV.iarr IntKind.u8 (32 : Nat) fun (_ : Nat) => (0 : Int)])
                                                          a ∧
                                                        True ∧
                                                          (((0 : Nat) + (2 : Nat)).le (2 : Nat) ∧
                                                              ((0 : Nat) + (2 : Nat)).le (2 : Nat) ∧ True) ∧
                                                            ∃ (L_2 : List Past),
                                                              ∃ (o_2 : List Int),
                                                                IsPasts
                                                                    (AV.rows (104 : Nat) (2 : Nat) fun (i : Nat) =>
                                                                      firstF (1 : Int) a ((0 : Nat) + i))
                                                                    L_2 ∧
                                                                  IsOrd
                                                                      (AV.rows (1 : Nat) (2 : Nat) fun (i : Nat) =>
                                                                        rowOf
                                                                          [((0 : Nat),
                                                                              AV.pl (Value.int IntKind.i64 (1 : Int))),
                                                                            ((1 : Nat),
                                                                              AV.pl (Value.int IntKind.i64 (0 : Int)))]
                                                                          ((0 : Nat) + i))
                                                                      o_2 ∧
                                                                    o_2.length.le (1000000 : Nat) ∧
                                                                      True ∧
                                                                        ((∀ (i : Nat),
                                                                              i < (judge L_2 o_2).fst.length →
                                                                                flatB (brsF (judge L_2 o_2).fst i) = true) ∧
                                                                            True) ∧
                                                                          (gEq
                                                                                  (bif
                                                                                      bif
                                                                                          (judge L o).snd.snd ==
                                                                                            (0 : Int) then
                                                                                        (judge L o).snd.fst == (0 : Int)
                                                                                      else false then
                                                                                    (↑(judge L o).fst.length : Int) ==
                                                                                      (1 : Int)
                                                                                  else false)
                                                                                  true =
                                                                                true →
                                                                              ((0 : Int) ≤ (0 : Int) ∧
                                                                                  (0 : Int) + (1 : Int) ≤
                                                                                    (↑(judge L o).fst.length : Int)) ∧
                                                                                True) ∧
                                                                            (gEq
                                                                                    (bif
                                                                                        bif
                                                                                            (judge L o).snd.snd ==
                                                                                              (0 : Int) then
                                                                                          (judge L o).snd.fst == (0 : Int)
                                                                                        else false then
                                                                                      (↑(judge L o).fst.length : Int) ==
                                                                                        (1 : Int)
                                                                                    else false)
                                                                                    true =
                                                                                  true →
                                                                                ((0 : Int) ≤ (0 : Int) ∧
                                                                                    (0 : Int) + (1 : Int) ≤
                                                                                      (↑(judge L o).fst.length : Int)) ∧
                                                                                  True) ∧
                                                                              (gEq
                                                                                      (bif
                                                                                          bif
                                                                                              (judge L o).snd.snd ==
                                                                                                (0 : Int) then
                                                                                            (judge L o).snd.fst == (0 : Int)
                                                                                          else false then
                                                                                        (↑(judge L o).fst.length : Int) ==
                                                                                          (1 : Int)
                                                                                      else false)
                                                                                      true =
                                                                                    true →
                                                                                  (((0 : Nat) + Int.toNat (0 : Int)).succ.le
                                                                                        (judge L o).fst.length ∧
                                                                                      True) ∧
                                                                                    True) ∧
                                                                                (gEq
                                                                                        (bif
                                                                                            bif
                                                                                                (judge L o).snd.snd ==
                                                                                                  (0 : Int) then
                                                                                              (judge L o).snd.fst ==
                                                                                                (0 : Int)
                                                                                            else false then
                                                                                          (↑(judge L o).fst.length : Int) ==
                                                                                            (1 : Int)
                                                                                        else false)
                                                                                        true =
                                                                                      true →
                                                                                    (((0 : Nat) +
                                                                                                Int.toNat (0 : Int)).succ.le
                                                                                          (judge L o).fst.length ∧
                                                                                        True) ∧
                                                                                      True) ∧
                                                                                  (True ∧ True) ∧
                                                                                    True ∧
                                                                                      R
                                                                                        (AV.pl
                                                                                          (Value.bool
                                                                                            (bif
                                                                                                bif
                                                                                                    bif
                                                                                                        bif
                                                                                                            bif
                                                                                                                bif
                                                                                                                    bif
                                                                                                                        bif
                                                                                                                            (judge
                                                                                                                                    L
                                                                                                                                    o).snd.snd ==
                                                                                                                              (0 :
                                                                                                                                Int) then
                                                                                                                          (judge
                                                                                                                                  L
                                                                                                                                  o).snd.fst ==
                                                                                                                            (0 :
                                                                                                                              Int)
                                                                                                                        else
                                                                                                                          false then
                                                                                                                      (↑(judge
                                                                                                                                  L
                                                                                                                                  o).fst.length :
                                                                                                                          Int) ==
                                                                                                                        (1 :
                                                                                                                          Int)
                                                                                                                    else
                                                                                                                      false then
                                                                                                                  (List.range
                                                                                                                        (32 :
                                                                                                                          Nat)).all
                                                                                                                    fun
                                                                                                                      (i :
                                                                                                                        Nat) =>
                                                                                                                    (brAt
                                                                                                                            (judge
                                                                                                                                L
                                                                                                                                o).fst
                                                                                                                            ((0 :
                                                                                                                                Nat) +
                                                                                                                              Int.toNat
                                                                                                                                (0 :
                                                                                                                                  Int))).id
                                                                                                                        i ==
                                                                                                                      if
                                                                                                                          i =
                                                                                                                            (0 :
                                                                                                                              Nat) then
                                                                                                                        (1 :
                                                                                                                          Int)
                                                                                                                      else
                                                                                                                        (0 :
                                                                                                                          Int)
                                                                                                                else
                                                                                                                  false then
                                                                                                              (judge L_1
                                                                                                                      o_1).snd.snd ==
                                                                                                                (341 : Int)
                                                                                                            else false then
                                                                                                          (judge L_1
                                                                                                                  o_1).snd.fst ==
                                                                                                            (0 : Int)
                                                                                                        else false then
                                                                                                      (judge L_2
                                                                                                              o_2).snd.snd ==
                                                                                                        (0 : Int)
                                                                                                    else false then
                                                                                                  (judge L_2 o_2).snd.fst ==
                                                                                                    (0 : Int)
                                                                                                else false then
                                                                                              (↑(judge L_2 o_2).fst.length :
                                                                                                  Int) ==
                                                                                                (1 : Int)
                                                                                            else false)))
                                                                                        []) := by kernel_rfl
theorem X27 : EntOk Try.prog 27 (.lend T27) := by
  refine ⟨enters_of (fn := Try.f27) rfl rfl (by kernel_rfl), fun args R h => ?_⟩
  unfold T27 at h
  split at h
  case h_2 => exact h.elim
  obtain ⟨a, hx, h⟩ := h
  rename_i k y
  refine Spec.args (args' := [nm k, a.av]) ⟨rfl, hx, trivial⟩ (Spec.weak (Z := Unit) (X := fun _ => .own 0 0 2) (HH := fun _ => [.row 104 64 2 (firstF k a)]) (mkS (v27 k a R) (tb az) rfl rfl ?_))
  simp only [true_and, and_true, and_self, natle_iff]
  refine ⟨(), ⟨Nat.le_refl _, fun i hi => ?_⟩, h⟩
  match i, hi with
  | 0, _ => rfl
  | 1, _ => rfl
theorem mS_list : mS.toList = [109] := by simp [mS, ByteArray.toList_eq]
theorem mS_size : mS.size = 1 := rfl
theorem mS_name : nameB mS = true := by simp [nameB, mS_list, mS_size, byteOk]
theorem eq11 : idEq id1 id1 = true := by kernel_rfl
theorem eq10 : idEq id1 z0 = false := by kernel_rfl
theorem eq01 : idEq z0 id1 = false := by kernel_rfl
theorem eq00 : idEq z0 z0 = true := by kernel_rfl
theorem chk1 : chk (firstL 3 ⟨0, id1⟩) = (0, 0) := by
  simp [chk, outNo, firstNo, firstL, okP, pAt, checkB, dupP, mS_name, eq00, eq10, movesB, List.range_succ, sameKey]
theorem chk2 : chk (firstL 1 ⟨4, z0⟩) = (0, 0) := by
  simp [chk, outNo, firstNo, firstL, okP, pAt, checkB, dupP, mS_name, eq00, eq10, movesB, List.range_succ, sameKey]
theorem order1 : order (firstL 3 ⟨0, id1⟩) [0, 1] = (0, 0) := by
  rw [order, chk1]
  simp [firstNo, okO, okT, okL, oAt, rowAt, pAt, firstL, lastTo, List.range_succ]
theorem order2 : order (firstL 3 ⟨0, id1⟩) [1, 0] = (0, 341) := by
  rw [order, chk1]
  simp [firstNo, okO, okT, okL, oAt, rowAt, pAt, firstL, lastTo, List.range_succ]
theorem order3 : order (firstL 1 ⟨4, z0⟩) [1, 0] = (0, 0) := by
  rw [order, chk2]
  simp [firstNo, okO, okT, okL, oAt, rowAt, pAt, firstL, lastTo, List.range_succ]
theorem lt_nil : lt [] [109] = true := by kernel_rfl
theorem lt_self : lt [109] [109] = false := by kernel_rfl
theorem judge1 : judge (firstL 3 ⟨0, id1⟩) [0, 1] = ([⟨mS, id1⟩], 0, 0) := by
  rw [judge, order1]
  simp [lt_nil, lt_self, firstNo, okJ, rowAt, pAt, firstL, oAt, List.range_succ, runJ, stepL, FitsB, FitsL, fitsB, fitsL, moved, rightB, rightFrom, checkB, mS_name, mS_list, eq00, eq10, eq11, movesB, headI, hasB, findI, ansEq, isB, insB, brAt]
theorem judge2 : judge (firstL 3 ⟨0, id1⟩) [1, 0] = ([], 0, 341) := by
  simp [judge, order2]
theorem judge3 : judge (firstL 1 ⟨4, z0⟩) [1, 0] = ([⟨mS, id1⟩], 0, 0) := by
  rw [judge, order3]
  simp [firstNo, okJ, rowAt, pAt, firstL, oAt, List.range_succ, runJ, stepL, FitsB, FitsL, fitsB, fitsL, moved, rightB, rightFrom, checkB, mS_name, mS_list, eq00, eq10, eq11, movesB, headI, hasB, findI, ansEq, isB, insB, brAt]
theorem X6 : EntOk Try.prog 6 (.lend T6) := by
  refine ⟨enters_of (fn := Try.f6) rfl rfl (by kernel_rfl), fun args R h => ?_⟩
  unfold T6 at h
  split at h
  case h_2 => exact h.elim
  refine mkS (v6 R) (tb (ac X27 (ac X21 az))) rfl rfl ?_
  simp only [true_and, and_true, and_self, gEq_true, natle_iff, cond_bf]
  have hp : ∀ k a, IsPasts (AV.rows 104 2 fun i => firstF k a (0 + i)) (firstL k a) := fun k a => ⟨rfl, rfl, fun i hi => by
    match i, hi with
    | 0, _ => exact ⟨rfl, rfl, rfl, rfl, ⟨rfl, rfl, fun _ _ => rfl⟩, ⟨rfl, rfl, fun _ _ => rfl⟩, ⟨trivial, rfl⟩, rfl, rfl, rfl, ⟨rfl, rfl, fun _ _ => rfl⟩, trivial⟩
    | 1, _ => exact ⟨rfl, rfl, rfl, rfl, ⟨rfl, rfl, fun _ _ => rfl⟩, ⟨rfl, rfl, fun _ _ => rfl⟩, ⟨trivial, rfl⟩, rfl, rfl, rfl, ⟨rfl, rfl, fun _ _ => rfl⟩, trivial⟩⟩
  have ho : ∀ a b, IsOrd (AV.rows 1 2 fun i => rowOf [(0, AV.pl (Value.int IntKind.i64 a)), (1, AV.pl (Value.int IntKind.i64 b))] (0 + i)) [a, b] := fun a b => ⟨rfl, rfl, fun i hi => by
    match i, hi with
    | 0, _ => exact rfl
    | 1, _ => exact rfl⟩
  refine ⟨⟨0, id1⟩, isAns_self ⟨0, id1⟩, Nat.le_refl _, firstL 3 ⟨0, id1⟩, [0, 1], hp _ _, ho _ _, by decide, ?_⟩
  rw [judge1]
  refine ⟨fun _ _ => rfl, ⟨0, id1⟩, isAns_self ⟨0, id1⟩, Nat.le_refl _, firstL 3 ⟨0, id1⟩, [1, 0], hp _ _, ho _ _, by decide, ?_⟩
  rw [judge2]
  refine ⟨fun _ _ => rfl, ⟨4, z0⟩, isAns_self ⟨4, z0⟩, Nat.le_refl _, firstL 1 ⟨4, z0⟩, [1, 0], hp _ _, ho _ _, by decide, ?_⟩
  rw [judge3]
  exact ⟨fun _ _ => rfl, fun _ => ⟨by decide, by decide⟩, fun _ => ⟨by decide, by decide⟩, fun _ => by decide, fun _ => by decide, h⟩
end Go.Proofs.R1
