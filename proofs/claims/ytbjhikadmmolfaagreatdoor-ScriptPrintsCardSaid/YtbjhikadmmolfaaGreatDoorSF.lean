/- A seat of the scripts: conditions of further functions of readers and writers. -/
import Derived.Test.YtbjhikadmmolfaaGreatDoorSE
set_option linter.unusedSectionVars false
set_option linter.unusedVariables false
set_option linter.unusedSimpArgs false
set_option maxRecDepth 100000
set_option maxHeartbeats 4000000
namespace Go.Proofs.Sz
open Go Go.Am Go.SP
theorem vNums0 (l : Bs) (b : Bool) (R : AV -> List LObj -> Prop) : (vcA false false (List.length ([.box tyRd [sl l, bl b]] : List LObj)) [] Tryz.prog (mkTab []) (optC (Tryz.f66.body.getD .skip)) ([.unroll 1 1 true (λ _
 => [])]) (finalKH Tryz.prog Tryz.f66 (R)) (startStH Tryz.f66 ([.box tyRd [sl l, bl b]]) ([.ptr 0 0 0 0, .pl (.slice none 0 0)]))) = (True /\ R (AV.tup []) [LObj.box 125 [sl l, bl b]]) := by kernel_rfl
theorem vNums1 (l : Bs) (b : Bool) (e : Ev) (R : AV -> List LObj -> Prop) : (vcA false false (List.length ([.box tyRd [sl l, bl b], .box tyEv (cellsZ e), .prow tyPI [.ptr 1 0 1 0, .ptr 1 0 3 0]] : List LObj)) []
 Tryz.prog (mkTab [(78, .hand tkR TNumber)]) (optC (Tryz.f66.body.getD .skip)) ([.unroll 1 3 true (λ _ => [])]) (finalKH Tryz.prog Tryz.f66 (R)) (startStH Tryz.f66 ([.box tyRd [sl l, bl b], .box tyEv (cellsZ e), .prow
 tyPI [.ptr 1 0 1 0, .ptr 1 0 3 0]]) ([.ptr 0 0 0 0, .own 2 0 2]))) = (let Q0 := (numberR (numberR (Rd.mk l b)).2); ((0 : Int) <= 0 /\ (0 : Int) + 1 <= (↑ (2 : Nat) : Int)) /\ True /\ (True /\ True) /\ (125 = 125 /\
 l.length.le rlim) /\ True /\ ((0 : Int) ≤ k64Q.wrap ((0 : Int) + 1) /\ k64Q.wrap ((0 : Int) + 1) + 1 <= (↑ (2 : Nat) : Int)) /\ True /\ (True /\ True) /\ (125 = 125 /\ (List.length (numberR (Rd.mk l b)).2.rest).le rlim)
 /\ True /\ True /\ R (AV.tup []) [LObj.box 125 [sl Q0.2.rest, bl Q0.2.bad], LObj.box 62 [nm e.kind, nm (numberR (Rd.mk l b)).1, nm e.to, nm Q0.1, nilS, nilS, sl e.branch, nilS, nilS, nuQ e.author, sl e.note, nm e.ck, nm
 e.client, nuQ e.seq, sl e.cbranch, iaQ e.old, iaQ e.new, nilS], LObj.prow 107 [AV.ptr 1 0 1 0, AV.ptr 1 0 3 0]]) := by kernel_rfl
theorem vNums2 (l : Bs) (b : Bool) (e : Ev) (R : AV -> List LObj -> Prop) : (vcA false false (List.length ([.box tyRd [sl l, bl b], .box tyEv (cellsZ e), .prow tyPI [.ptr 1 0 3 0]] : List LObj)) [] Tryz.prog (mkTab [(78,
 .hand tkR TNumber)]) (optC (Tryz.f66.body.getD .skip)) ([.unroll 1 3 true (λ _ => [])]) (finalKH Tryz.prog Tryz.f66 (R)) (startStH Tryz.f66 ([.box tyRd [sl l, bl b], .box tyEv (cellsZ e), .prow tyPI [.ptr 1 0 3 0]])
 ([.ptr 0 0 0 0, .own 2 0 1]))) = (((0 : Int) <= 0 /\ (0 : Int) + 1 <= (↑ (1 : Nat) : Int)) /\ True /\ (True /\ True) /\ (125 = 125 /\ l.length.le rlim) /\ True /\ True /\ R (AV.tup []) [LObj.box 125 [sl (numberR (Rd.mk l
 b)).2.rest, bl (numberR (Rd.mk l b)).2.bad], LObj.box 62 [nm e.kind, nm e.node, nm e.to, nm (numberR (Rd.mk l b)).1, nilS, nilS, sl e.branch, nilS, nilS, nuQ e.author, sl e.note, nm e.ck, nm e.client, nuQ e.seq, sl
 e.cbranch, iaQ e.old, iaQ e.new, nilS], LObj.prow 107 [AV.ptr 1 0 3 0]]) := by kernel_rfl
theorem vNums3 (l : Bs) (b : Bool) (e : Ev) (R : AV -> List LObj -> Prop) : (vcA false false (List.length ([.box tyRd [sl l, bl b], .box tyEv (cellsZ e), .prow tyPI [.ptr 1 0 1 0, .ptr 1 0 2 0]] : List LObj)) []
 Tryz.prog (mkTab [(78, .hand tkR TNumber)]) (optC (Tryz.f66.body.getD .skip)) ([.unroll 1 3 true (λ _ => [])]) (finalKH Tryz.prog Tryz.f66 (R)) (startStH Tryz.f66 ([.box tyRd [sl l, bl b], .box tyEv (cellsZ e), .prow
 tyPI [.ptr 1 0 1 0, .ptr 1 0 2 0]]) ([.ptr 0 0 0 0, .own 2 0 2]))) = (let Q0 := (numberR (numberR (Rd.mk l b)).2); ((0 : Int) <= 0 /\ (0 : Int) + 1 <= (↑ (2 : Nat) : Int)) /\ True /\ (True /\ True) /\ (125 = 125 /\
 l.length.le rlim) /\ True /\ ((0 : Int) ≤ k64Q.wrap ((0 : Int) + 1) /\ k64Q.wrap ((0 : Int) + 1) + 1 <= (↑ (2 : Nat) : Int)) /\ True /\ (True /\ True) /\ (125 = 125 /\ (List.length (numberR (Rd.mk l b)).2.rest).le rlim)
 /\ True /\ True /\ R (AV.tup []) [LObj.box 125 [sl Q0.2.rest, bl Q0.2.bad], LObj.box 62 [nm e.kind, nm (numberR (Rd.mk l b)).1, nm Q0.1, nm e.n, nilS, nilS, sl e.branch, nilS, nilS, nuQ e.author, sl e.note, nm e.ck, nm
 e.client, nuQ e.seq, sl e.cbranch, iaQ e.old, iaQ e.new, nilS], LObj.prow 107 [AV.ptr 1 0 1 0, AV.ptr 1 0 2 0]]) := by kernel_rfl
theorem vNums4 (l : Bs) (b : Bool) (e : Ev) (R : AV -> List LObj -> Prop) : (vcA false false (List.length ([.box tyRd [sl l, bl b], .box tyEv (cellsZ e), .prow tyPI [.ptr 1 0 1 0]] : List LObj)) [] Tryz.prog (mkTab [(78,
 .hand tkR TNumber)]) (optC (Tryz.f66.body.getD .skip)) ([.unroll 1 3 true (λ _ => [])]) (finalKH Tryz.prog Tryz.f66 (R)) (startStH Tryz.f66 ([.box tyRd [sl l, bl b], .box tyEv (cellsZ e), .prow tyPI [.ptr 1 0 1 0]])
 ([.ptr 0 0 0 0, .own 2 0 1]))) = (((0 : Int) <= 0 /\ (0 : Int) + 1 <= (↑ (1 : Nat) : Int)) /\ True /\ (True /\ True) /\ (125 = 125 /\ l.length.le rlim) /\ True /\ True /\ R (AV.tup []) [LObj.box 125 [sl (numberR (Rd.mk l
 b)).2.rest, bl (numberR (Rd.mk l b)).2.bad], LObj.box 62 [nm e.kind, nm (numberR (Rd.mk l b)).1, nm e.to, nm e.n, nilS, nilS, sl e.branch, nilS, nilS, nuQ e.author, sl e.note, nm e.ck, nm e.client, nuQ e.seq, sl
 e.cbranch, iaQ e.old, iaQ e.new, nilS], LObj.prow 107 [AV.ptr 1 0 1 0]]) := by kernel_rfl
theorem vNums5 (l : Bs) (b : Bool) (e : Ev) (R : AV -> List LObj -> Prop) : (vcA false false (List.length ([.box tyRd [sl l, bl b], .box tyEv (cellsZ e), .prow tyPI [.ptr 1 0 1 0, .ptr 1 0 11 0]] : List LObj)) []
 Tryz.prog (mkTab [(78, .hand tkR TNumber)]) (optC (Tryz.f66.body.getD .skip)) ([.unroll 1 3 true (λ _ => [])]) (finalKH Tryz.prog Tryz.f66 (R)) (startStH Tryz.f66 ([.box tyRd [sl l, bl b], .box tyEv (cellsZ e), .prow
 tyPI [.ptr 1 0 1 0, .ptr 1 0 11 0]]) ([.ptr 0 0 0 0, .own 2 0 2]))) = (let Q0 := (numberR (numberR (Rd.mk l b)).2); ((0 : Int) <= 0 /\ (0 : Int) + 1 <= (↑ (2 : Nat) : Int)) /\ True /\ (True /\ True) /\ (125 = 125 /\
 l.length.le rlim) /\ True /\ ((0 : Int) ≤ k64Q.wrap ((0 : Int) + 1) /\ k64Q.wrap ((0 : Int) + 1) + 1 <= (↑ (2 : Nat) : Int)) /\ True /\ (True /\ True) /\ (125 = 125 /\ (List.length (numberR (Rd.mk l b)).2.rest).le rlim)
 /\ True /\ True /\ R (AV.tup []) [LObj.box 125 [sl Q0.2.rest, bl Q0.2.bad], LObj.box 62 [nm e.kind, nm (numberR (Rd.mk l b)).1, nm e.to, nm e.n, nilS, nilS, sl e.branch, nilS, nilS, nuQ e.author, sl e.note, nm Q0.1, nm
 e.client, nuQ e.seq, sl e.cbranch, iaQ e.old, iaQ e.new, nilS], LObj.prow 107 [AV.ptr 1 0 1 0, AV.ptr 1 0 11 0]]) := by kernel_rfl
theorem vNumsS (l : Bs) (b : Bool) (x y z : Int) (m k t m2 : Nat) (f : Nat -> AV) (R : AV -> List LObj -> Prop) : (vcA false false (List.length ([.box tyRd [sl l, bl b], .box tySc [nm x, nm y, nm z, .own 3 0 m], .prow
 tyPI [.ptr 1 0 0 0, .ptr 1 0 1 0, .ptr 1 0 2 0], .row k t m2 f] : List LObj)) [] Tryz.prog (mkTab [(78, .hand tkR TNumber)]) (optC (Tryz.f66.body.getD .skip)) ([.unroll 1 4 true (λ _ => [])]) (finalKH Tryz.prog
 Tryz.f66 (R)) (startStH Tryz.f66 ([.box tyRd [sl l, bl b], .box tySc [nm x, nm y, nm z, .own 3 0 m], .prow tyPI [.ptr 1 0 0 0, .ptr 1 0 1 0, .ptr 1 0 2 0], .row k t m2 f]) ([.ptr 0 0 0 0, .own 2 0 3]))) = (let Q0 :=
 (numberR (numberR (Rd.mk l b)).2); ((0 : Int) <= 0 /\ (0 : Int) + 1 <= (↑ (3 : Nat) : Int)) /\ True /\ (True /\ True) /\ (125 = 125 /\ l.length.le rlim) /\ True /\ ((0 : Int) ≤ k64Q.wrap ((0 : Int) + 1) /\ k64Q.wrap ((0
 : Int) + 1) + 1 <= (↑ (3 : Nat) : Int)) /\ True /\ (True /\ True) /\ (125 = 125 /\ (List.length (numberR (Rd.mk l b)).2.rest).le rlim) /\ True /\ ((0 : Int) <= k64Q.wrap (k64Q.wrap ((0 : Int) + 1) + 1) /\ k64Q.wrap
 (k64Q.wrap ((0 : Int) + 1) + 1) + 1 <= (↑ (3 : Nat) : Int)) /\ True /\ (True /\ True) /\ (125 = 125 /\ (List.length Q0.2.rest).le rlim) /\ True /\ True /\ R (AV.tup []) [LObj.box 125 [sl (numberR Q0.2).2.rest, bl
 (numberR Q0.2).2.bad], LObj.box 28 [nm (numberR (Rd.mk l b)).1, nm Q0.1, nm (numberR Q0.2).1, AV.own 3 0 m], LObj.prow 107 [AV.ptr 1 0 0 0, AV.ptr 1 0 1 0, AV.ptr 1 0 2 0], LObj.row k t m2 f]) := by kernel_rfl
theorem vChange (l : Bs) (b : Bool) (R : AV -> List LObj -> Prop) : (vcA false false (List.length ([.box tyRd [sl l, bl b]] : List LObj)) [] Tryz.prog (mkTab [(80, .hand tkR TText), (81, .lend TCutPre), (65, .hand tkR
 TBlank)]) (optC (Tryz.f83.body.getD .skip)) ([]) (finalKH Tryz.prog Tryz.f83 (λ y H => ∃ _ : Unit, leSt 1 ⟨[y], H⟩ ⟨[.agg [sl (changeR ⟨l, b⟩).1.1, bl (changeR ⟨l, b⟩).1.2.1, sl (changeR ⟨l, b⟩).1.2.2]], [rdO (changeR
 ⟨l, b⟩).2]⟩ (R (.agg [sl (changeR ⟨l, b⟩).1.1, bl (changeR ⟨l, b⟩).1.2.1, sl (changeR ⟨l, b⟩).1.2.2]) [rdO (changeR ⟨l, b⟩).2]))) (startStH Tryz.f83 ([.box tyRd [sl l, bl b]]) ([.ptr 0 0 0 0]))) = (let Q3 := (125 = 125
 /\ (List.length (textR (Rd.mk l b)).2.rest).le rlim); let Q2 := (AV.agg [sl (changeR (Rd.mk l b)).1.1, bl (changeR (Rd.mk l b)).1.2.1, sl (changeR (Rd.mk l b)).1.2.2]); let Q1 := (cutPre ([45] : Bs) (textR (Rd.mk l
 b)).2.rest); let Q0 := (bif ([45] : Bs).isPrefixOf (textR (Rd.mk l b)).2.rest then bif (bs Q1).toList == (ByteArray.mk #[]).toList then true else (↑ (Q1.getD (Int.toNat 0) (0 : UInt8)).toNat : Int) == 32 else false);
 True /\ (True /\ True) /\ (125 = 125 /\ l.length.le rlim) /\ True /\ True /\ ((gEq (([45] : Bs).isPrefixOf (textR (Rd.mk l b)).2.rest) true && gEq ((bs Q1).toList == (ByteArray.mk #[]).toList) false) = true -> ((0 : Int)
 <= 0 /\ (0 : Int) + 1 <= (List.length Q1 : Int)) /\ True) /\ (Q0 = true -> (True /\ True) /\ Q3 /\ True /\ True /\ (True /\ True) /\ ∃ (x : Unit), ((bs (textR (Rd.mk l b)).1 = bs (changeR (Rd.mk l b)).1.1 /\ false =
 (changeR (Rd.mk l b)).1.2.1 /\ ByteArray.mk #[] = bs (changeR (Rd.mk l b)).1.2.2 /\ True) /\ True) /\ ((125 = 125 /\ bs (blankR (textR (Rd.mk l b)).2).2.rest = bs (changeR (Rd.mk l b)).2.rest /\ (blankR (textR (Rd.mk l
 b)).2).2.bad = (changeR (Rd.mk l b)).2.bad /\ True) /\ True) /\ R Q2 [LObj.box 125 [sl (changeR (Rd.mk l b)).2.rest, bl (changeR (Rd.mk l b)).2.bad]]) /\ (Q0 = false -> (True /\ True) /\ Q3 /\ True /\ True /\ (True /\
 True) /\ ∃ (x : Unit), ((bs (textR (Rd.mk l b)).1 = bs (changeR (Rd.mk l b)).1.1 /\ true = (changeR (Rd.mk l b)).1.2.1 /\ bs (textR (textR (Rd.mk l b)).2).1 = bs (changeR (Rd.mk l b)).1.2.2 /\ True) /\ True) /\ ((125 =
 125 /\ bs (textR (textR (Rd.mk l b)).2).2.rest = bs (changeR (Rd.mk l b)).2.rest /\ (textR (textR (Rd.mk l b)).2).2.bad = (changeR (Rd.mk l b)).2.bad /\ True) /\ True) /\ R Q2 [LObj.box 125 [sl (changeR (Rd.mk l
 b)).2.rest, bl (changeR (Rd.mk l b)).2.bad]])) := by kernel_rfl
theorem vIdP (l : Bs) (inv inv3 : Nat × Bool -> Prop) (inv2 : Nat × Bool -> Nat -> Prop) (R : AV -> List LObj -> Prop) : (vcA false false 0 [] Tryz.prog (mkTab []) (optC (Tryz.f84.body.getD .skip)) ([.cut 12 (Nat × Bool)
 inv3 (λ x => ⟨slotsOf 51 0 [(0, sl l), (2, .ptr 0 0 0 0), (3, nm 0), (4, .ptr 1 0 0 0), (5, bl x.2)], [.box 57 [.iarr .u8 32 z0], .box 57 [.iarr .u8 32 (idUp l x.1)]]⟩) (λ _ => []), .loop 4 (Nat × Bool) inv (λ x =>
 ⟨slotsOf 51 0 [(0, sl l), (2, .ptr 0 0 0 0), (3, nm 0), (4, .ptr 1 0 0 0), (5, bl x.2), (13, .ptr 2 0 0 0)], [.box 57 [.iarr .u8 32 z0], .box 57 [.iarr .u8 32 (idUp l x.1)], .raw (.stringIter (bs l) x.1)]⟩) (λ x =>
 l.length - x.1) (λ x => [.loop 7 Nat (inv2 x) (λ j => ⟨slotsOf 51 0 [(0, sl l), (2, .ptr 0 0 0 0), (3, nm 0), (4, .ptr 1 0 0 0), (5, bl x.2), (6, nm x.1), (7, .pl (.int .i32 (Utf8.decode (bs l) x.1).1)), (8, nm j),
 (13, .ptr 2 0 0 0)], [.box 57 [.iarr .u8 32 z0], .box 57 [.iarr .u8 32 (idUp l x.1)], .raw (.stringIter (bs l) (x.1 + (Utf8.decode (bs l) x.1).2))]⟩) (λ j => 16 - j) (λ _ => [])])]) (finalK Tryz.prog Tryz.f84 (λ y
 H => ∃ _ : Unit, leSt 0 ⟨[y], H⟩ ⟨[.tup [.agg [.iarr .u8 32 (idR l).1], nm (idE l)]], []⟩ (R (.tup [.agg [.iarr .u8 32 (idR l).1], nm (idE l)]) []))) (startSt Tryz.f84 ([sl l]))) = (let Q3 := ([48, 49, 50, 51, 52, 53,
 54, 55, 56, 57, 97, 98, 99, 100, 101, 102] : Bs); let Q2 := (Int.ofNat (nat_lit 1 + 1)); let Q1 := (57 = 57 /\ (k8Q = k8Q /\ 32 = 32 /\ ∀ i < 32, z0 i = z0 i) /\ True); let Q0 := (True /\ 0 = 0 /\ 0 = 0 /\ 0 = 0); True
 /\ True /\ ((∃ (x : Nat × Bool), (bs l = bs l /\ Q0 /\ (0 : Int) = 0 /\ Q0 /\ ((↑ l.length : Int) == 64) = x.2 /\ Q0 /\ True) /\ ((57 = 57 /\ (k8Q = k8Q /\ 32 = 32 /\ ∀ i < 32, (0 : Int) = z0 i) /\ True) /\ (57 = 57 /\
 (k8Q = k8Q /\ 32 = 32 /\ ∀ i < 32, (0 : Int) = idUp l x.1 i) /\ True) /\ Obj.stringIter (bs l) (0 : Nat) = Obj.stringIter (bs l) x.1 /\ True) /\ inv x) /\ ∀ (x : Nat × Bool), let Q6 := ((↑x.1 : Int).tdiv Q2); let Q7 :=
 ((0 : Int) <= k64Q.wrap Q6 /\ k64Q.wrap Q6 + 1 <= (↑ (32 : Nat) : Int)); let Q5 := (Utf8.decode (bs l) x.1); let Q4 := (Q1 /\ (57 = 57 /\ (k8Q = k8Q /\ 32 = 32 /\ ∀ i < 32, idUp l x.1 i = idUp l x.1 i) /\ True) /\
 Obj.stringIter (bs l) (x.1 + Q5.2) = Obj.stringIter (bs l) (x.1 + Q5.2) /\ True); inv x -> (x.1 < l.length -> (true = true -> (∃ (x_1 : Nat), (bs l = bs l /\ Q0 /\ (0 : Int) = 0 /\ Q0 /\ x.2 = x.2 /\ (↑x.1 : Int) = (↑x.1
 : Int) /\ (↑ Q5.1 : Int) = (↑ Q5.1 : Int) /\ (0 : Int) = (x_1 : Int) /\ Q0 /\ True) /\ Q4 /\ inv2 x x_1) /\ ∀ (x_1 : Nat), let Q8 := (bif decide ((x_1 : Int) < 16) then IntKind.i32.wrap (↑ (Q3.getD (x_1 : Int).toNat
 (0 : UInt8)).toNat : Int) != (↑ Q5.1 : Int) else false); inv2 x x_1 -> (gEq (decide ((x_1 : Int) < 16)) true = true -> ((0 : Int) <= (x_1 : Int) /\ (x_1 : Int) + 1 <= (↑ (ByteArray.mk #[(48 : UInt8), (49 : UInt8), (50
 : UInt8), (51 : UInt8), (52 : UInt8), (53 : UInt8), (54 : UInt8), (55 : UInt8), (56 : UInt8), (57 : UInt8), (97 : UInt8), (98 : UInt8), (99 : UInt8), (100 : UInt8), (101 : UInt8), (102 : UInt8)]).size : Int)) /\ True) /\
 (Q8 = true -> ∃ (y : Nat), (bs l = bs l /\ Q0 /\ (0 : Int) = 0 /\ Q0 /\ x.2 = x.2 /\ (↑x.1 : Int) = (↑x.1 : Int) /\ (↑ Q5.1 : Int) = (↑ Q5.1 : Int) /\ k64Q.wrap ((x_1 : Int) + 1) = (y : Int) /\ Q0 /\ True) /\ Q4 /\
 inv2 x y /\ ((16 : Nat) - y).succ.le ((16 : Nat) - x_1)) /\ (Q8 = false -> ((!bif x.2 then decide ((x_1 : Int) < 16) else false) = true -> ∃ (x_2 : Nat × Bool), (bs l = bs l /\ Q0 /\ (0 : Int) = 0 /\ Q0 /\ (bif x.2 then
 decide ((x_1 : Int) < 16) else false) = x_2.2 /\ True) /\ (Q1 /\ (57 = 57 /\ (k8Q = k8Q /\ 32 = 32 /\ ∀ i < 32, idUp l x.1 i = idUp l x_2.1 i) /\ True) /\ True) /\ inv3 x_2) /\ ((!bif x.2 then decide ((x_1 : Int) < 16)
 else false) = false -> Q7 /\ (k64Q.wrap Q6).toNat.succ.le (32 : Nat) /\ Q7 /\ (k64Q.wrap Q6).toNat.succ.le (32 : Nat) /\ ∃ (y : Nat × Bool), (bs l = bs l /\ Q0 /\ (0 : Int) = 0 /\ Q0 /\ (bif x.2 then decide ((x_1 : Int)
 < 16) else false) = y.2 /\ Q0 /\ True) /\ (Q1 /\ (57 = 57 /\ (k8Q = k8Q /\ 32 = 32 /\ ∀ i < 32, (if i = (k64Q.wrap Q6).toNat then k8Q.wrap (k8Q.wrap (idUp l x.1 (k64Q.wrap Q6).toNat * 2 ^ min (nat_lit 4) k8Q.bits) +
 k8Q.wrap (x_1 : Int)) else idUp l x.1 i) = idUp l y.1 i) /\ True) /\ Obj.stringIter (bs l) (x.1 + Q5.2) = Obj.stringIter (bs l) y.1 /\ True) /\ inv y /\ (l.length - y.1).succ.le (l.length - x.1)))) /\ (true = false -> ∃
 (x_1 : Nat × Bool), (bs l = bs l /\ Q0 /\ (0 : Int) = 0 /\ Q0 /\ x.2 = x_1.2 /\ True) /\ (Q1 /\ (57 = 57 /\ (k8Q = k8Q /\ 32 = 32 /\ ∀ i < 32, idUp l x.1 i = idUp l x_1.1 i) /\ True) /\ True) /\ inv3 x_1)) /\ (¬x.1 <
 l.length -> (false = true -> False) /\ (false = false -> ∃ (x_1 : Nat × Bool), (bs l = bs l /\ Q0 /\ (0 : Int) = 0 /\ Q0 /\ x.2 = x_1.2 /\ True) /\ (Q1 /\ (57 = 57 /\ (k8Q = k8Q /\ 32 = 32 /\ ∀ i < 32, idUp l x.1 i =
 idUp l x_1.1 i) /\ True) /\ True) /\ inv3 x_1))) /\ ∀ (x : Nat × Bool), inv3 x -> ((!x.2) = true -> True /\ (True /\ True /\ True) /\ ((True /\ True) /\ True /\ True) /\ ∃ (x : Unit), ((((k8Q = k8Q /\ 32 = 32 /\ ∀ i <
 32, (0 : Int) = (idR l).1 i) /\ True) /\ (130 : Int) = idE l /\ True) /\ True) /\ True /\ R (AV.tup [AV.agg [iaQ (idR l).1], nm (idE l)]) []) /\ ((!x.2) = false -> True /\ (True /\ True /\ True) /\ ((True /\ True) /\
 True /\ True) /\ ∃ (x_1 : Unit), ((((k8Q = k8Q /\ 32 = 32 /\ ∀ i < 32, idUp l x.1 i = (idR l).1 i) /\ True) /\ (0 : Int) = idE l /\ True) /\ True) /\ True /\ R (AV.tup [AV.agg [iaQ (idR l).1], nm (idE l)]) [])) := by
 kernel_rfl
theorem vIdT (f : Nat -> Int) (R : AV -> List LObj -> Prop) (inv : Nat -> Prop) : (vcA false false 0 [] Tryz.prog (mkTab []) (optC (Tryz.f46.body.getD .skip)) ([.loop 3 Nat inv (λ i => ⟨slotsOf 23 0 [(3, .own 0 0 (2 *
 i)), (7, .agg [.iarr .u8 32 f]), (8, nm i)], [.row 1 tyU8 (2 * i) (byteF (bs (idTk f i)))]⟩) (λ i => 32 - i) (λ _ => [])]) (finalK Tryz.prog Tryz.f46 (R)) (startSt Tryz.f46 ([.agg [.iarr .u8 32 f]]))) = (let Q2 :=
 ([48, 49, 50, 51, 52, 53, 54, 55, 56, 57, 97, 98, 99, 100, 101, 102] : Bs); let Q1 := (Int.ofNat (nat_lit 15 + 1)); let Q0 := (↑ (ByteArray.mk #[48, 49, 50, 51, 52, 53, 54, 55, 56, 57, 97, 98, 99, 100, 101, 102]).size : Int); True /\ (0 : Int) <= 0 /\ (0 : Int) <= 64 /\ (↑ (1 :
 Nat) : Int) * 64 <= 281474976710656 /\ (64 : Int) <= 9223372036854775807 /\ (∃ (x : Nat), ((True /\ 0 = 0 /\ (0 : Nat) = 2 * x) /\ ((k8Q = k8Q /\ 32 = 32 /\ ∀ i < 32, f i = f i) /\ True) /\ (0 : Int) = (x : Int) /\
 True) /\ ((1 = 1 /\ 5 = 5 /\ ((2 : Nat) * x).le (Int.toNat 0) /\ ∀ (i : Nat), i < 2 * x -> AV.pl (Value.int k8Q (0 : Int)) = AV.pl (Value.int k8Q (↑ ((idTk f x).getD i (0 : UInt8)).toNat : Int))) /\ True) /\ inv x) /\ ∀
 (x : Nat), let Q4 := ((0 : Int) <= (f (x : Int).toNat).tmod Q1 /\ (f (x : Int).toNat).tmod Q1 + 1 <= Q0); let Q3 := ((f (x : Int).toNat).tdiv Q1); inv x -> (decide ((x : Int) < 32) = true -> ((0 : Int) <= (x : Int)
 /\ (x : Int) + 1 <= (↑ (32 : Nat) : Int)) /\ ((0 : Int) <= k8Q.wrap Q3 /\ k8Q.wrap Q3 + 1 <= Q0) /\ ((0 : Int) <= k8Q.wrap Q3 /\ k8Q.wrap Q3 + 1 <= Q0) /\ Q4 /\ Q4 /\ True /\ (((0 : Nat) + 2).le (2 : Nat) /\ (2 : Nat) *
 x = 2 * x /\ ((2 : Nat) * x + 2).le maxLen /\ (((2 : Nat) * x + 2) * 1).le (140737488355328 : Nat)) /\ ∃ (y : Nat), ((True /\ 0 = 0 /\ (2 : Nat) * x + 2 = 2 * y) /\ ((k8Q = k8Q /\ 32 = 32 /\ ∀ i < 32, f i = f i) /\ True)
 /\ k64Q.wrap ((x : Int) + 1) = (y : Int) /\ True) /\ ((1 = 1 /\ 5 = 5 /\ ((2 : Nat) * y).le ((2 : Nat) * x + 2) /\ ∀ (i : Nat), i < 2 * y -> (if i < 2 * x then AV.pl (Value.int k8Q (↑ ((idTk f x).getD i (0 :
 UInt8)).toNat : Int)) else rowOf [((0 : Nat), AV.pl (Value.int k8Q (↑ (Q2.getD (k8Q.wrap Q3).toNat (0 : UInt8)).toNat : Int))), ((1 : Nat), AV.pl (Value.int k8Q (↑ (Q2.getD ((f (x : Int).toNat).tmod Q1).toNat (0 :
 UInt8)).toNat : Int)))] ((0 : Nat) + (i - 2 * x))) = AV.pl (Value.int k8Q (↑ ((idTk f y).getD i (0 : UInt8)).toNat : Int))) /\ True) /\ inv y /\ ((32 : Nat) - y).succ.le ((32 : Nat) - x)) /\ (decide ((x : Int) < 32) =
 false -> ((0 : Nat) + 2 * x).le ((2 : Nat) * x) /\ ∃ (bs : ByteArray), bs.size = 2 * x /\ (∀ (i : Nat), i < 2 * x -> AV.pl (Value.int k8Q (↑ ((SP.bs (idTk f x)).data.toList.getD ((0 : Nat) + i) (0 : UInt8)).toNat : Int))
 = AV.pl (Value.int k8Q (↑ (bs.data.toList.getD i (0 : UInt8)).toNat : Int))) /\ (True /\ True) /\ True /\ R (AV.pl (Value.string bs)) [])) := by kernel_rfl
end Go.Proofs.Sz

namespace Go.Proofs.Sz
open Go Go.Am Go.SP
theorem number_le (r : Rd) : (numberR r).2.rest.length <= r.rest.length := by
 have := blank_le r
 simp only [numberR]
 omega
theorem cutPre_le (p l : Bs) : (cutPre p l).length <= l.length := by
 unfold cutPre
 cases p.isPrefixOf l <;> simp
theorem text_le (r : Rd) : (textR r).2.rest.length <= r.rest.length := by
 unfold textR
 split
 ·rename_i b e hb
  have h1 := cutPre_le [34] r.rest
  have h2 := cutPre_le [32] ((cutPre [34] r.rest).drop (e + 1))
  simp only [textEnd]
  simp at h2
  omega
 ·simp
theorem w01 : IntKind.i64.wrap (0 + 1) = 1 := by decide
theorem w12 : IntKind.i64.wrap (1 + 1) = 2 := by decide
theorem cls_1 {k : Int} (h : clsK k = 1) : kNN k = true := by
 unfold clsK at h
 revert h
 cases kNN k <;> cases kN k <;> cases kNT k <;> cases k1 k <;> cases k == 14 <;> simp
theorem cls_2 {k : Int} (h : clsK k = 2) : kNN k = false /\ kN k = true := by
 unfold clsK at h
 revert h
 cases kNN k <;> cases kN k <;> cases kNT k <;> cases k1 k <;> cases k == 14 <;> simp
theorem cls_3 {k : Int} (h : clsK k = 3) : kNN k = false /\ kN k = false /\ kNT k = true := by
 unfold clsK at h
 revert h
 cases kNN k <;> cases kN k <;> cases kNT k <;> cases k1 k <;> cases k == 14 <;> simp
theorem cls_4 {k : Int} (h : clsK k = 4) : kNN k = false /\ kN k = false /\ kNT k = false /\ k1 k = true := by
 unfold clsK at h
 revert h
 cases kNN k <;> cases kN k <;> cases kNT k <;> cases k1 k <;> cases k == 14 <;> simp
theorem cls_5 {k : Int} (h : clsK k = 5) : kNN k = false /\ kN k = false /\ kNT k = false /\ k1 k = false /\ (k == 14) = true := by
 unfold clsK at h
 revert h
 cases kNN k <;> cases kN k <;> cases kNT k <;> cases k1 k <;> cases k == 14 <;> simp
theorem cls_0 {k : Int} (h : clsK k = 0) : kNN k = false /\ kN k = false /\ kNT k = false /\ k1 k = false /\ (k == 14) = false := by
 unfold clsK at h
 revert h
 cases kNN k <;> cases kN k <;> cases kNT k <;> cases k1 k <;> cases k == 14 <;> simp
theorem XNumbers : EntOk Tryz.prog 66 (.hand tkN TNumbers) := by
 refine ⟨Am.enters_of Tryz.func66 (by kernel_rfl) (by kernel_rfl), λ H0 args R h => ?_⟩
 unfold TNumbers at h
 split at h
 ·rename_i t s b
  obtain ⟨l, rfl⟩ : ∃ l, s = bs l := ⟨_, bs_of s⟩
  obtain ⟨rfl, h⟩ := h
  refine mkHo (vNums0 l b R) (tb az) Tryz.func66 (by kernel_rfl) ?_
  simp only [true_and, and_true, and_self, implies_true, forall_const, gEq_true, gEq_false, nonneg_iff, natle_iff, decide_eq_true_eq, decide_eq_false_iff_not, Int.toNat_natCast, cond_bt, cond_bf, Bool.cond_true, Bool.cond_false, Bool.not_true, Bool.not_false, reduceCtorEq, false_implies, implies_true, Bool.true_eq_false, Bool.false_eq_true, Bool.not_eq_true', Bool.not_eq_false']
  exact h
 ·rename_i t s b t2 cs t3 ps n
  obtain ⟨l, rfl⟩ : ∃ l, s = bs l := ⟨_, bs_of s⟩
  obtain ⟨e, ⟨rfl, h1, rfl, rfl, rfl, hp⟩, h⟩ := h
  have hle := number_le ⟨l, b⟩
  simp only [bs_size, bs_data] at h h1
  dsimp only at hle
  rcases hp with ⟨hk, rfl, rfl⟩ | ⟨hk, rfl, rfl⟩ | ⟨hk, rfl, rfl⟩ | ⟨hk, rfl, rfl⟩ | ⟨hk, rfl, rfl⟩
  ·refine mkHo (vNums1 l b e R) (tb (ac XNumber az)) Tryz.func66 (by kernel_rfl) ?_
   have k := cls_1 hk
   simp only [fieldsN, Ev.setF, k, cond_true, numbersR, rdO, cellsZ] at h
   simp only [true_and, and_true, and_self, implies_true, forall_const, gEq_true, gEq_false, nonneg_iff, natle_iff, decide_eq_true_eq, decide_eq_false_iff_not, Int.toNat_natCast, cond_bt, cond_bf, Bool.cond_true, Bool.cond_false, Bool.not_true, Bool.not_false, reduceCtorEq, false_implies, implies_true, Bool.true_eq_false, Bool.false_eq_true, Bool.not_eq_true', Bool.not_eq_false', bs_size, bs_data, bs_toList, bs_extract, bs_append, bs_mk, byteF, w01, w12]
   (repeat' apply And.intro) <;> first | exact h | omega
  ·refine mkHo (vNums2 l b e R) (tb (ac XNumber az)) Tryz.func66 (by kernel_rfl) ?_
   have k := cls_2 hk
   simp only [fieldsN, Ev.setF, k.1, k.2, cond_true, cond_false, numbersR, rdO, cellsZ] at h
   simp only [true_and, and_true, and_self, implies_true, forall_const, gEq_true, gEq_false, nonneg_iff, natle_iff, decide_eq_true_eq, decide_eq_false_iff_not, Int.toNat_natCast, cond_bt, cond_bf, Bool.cond_true, Bool.cond_false, Bool.not_true, Bool.not_false, reduceCtorEq, false_implies, implies_true, Bool.true_eq_false, Bool.false_eq_true, Bool.not_eq_true', Bool.not_eq_false', bs_size, bs_data, bs_toList, bs_extract, bs_append, bs_mk, byteF, w01, w12]
   (repeat' apply And.intro) <;> first | exact h | omega
  ·refine mkHo (vNums3 l b e R) (tb (ac XNumber az)) Tryz.func66 (by kernel_rfl) ?_
   have k := cls_3 hk
   simp only [fieldsN, Ev.setF, k.1, k.2.1, k.2.2, cond_true, cond_false, numbersR, rdO, cellsZ] at h
   simp only [true_and, and_true, and_self, implies_true, forall_const, gEq_true, gEq_false, nonneg_iff, natle_iff, decide_eq_true_eq, decide_eq_false_iff_not, Int.toNat_natCast, cond_bt, cond_bf, Bool.cond_true, Bool.cond_false, Bool.not_true, Bool.not_false, reduceCtorEq, false_implies, implies_true, Bool.true_eq_false, Bool.false_eq_true, Bool.not_eq_true', Bool.not_eq_false', bs_size, bs_data, bs_toList, bs_extract, bs_append, bs_mk, byteF, w01, w12]
   (repeat' apply And.intro) <;> first | exact h | omega
  ·refine mkHo (vNums4 l b e R) (tb (ac XNumber az)) Tryz.func66 (by kernel_rfl) ?_
   have k := cls_4 hk
   simp only [fieldsN, Ev.setF, k.1, k.2.1, k.2.2.1, k.2.2.2, cond_true, cond_false, numbersR, rdO, cellsZ] at h
   simp only [true_and, and_true, and_self, implies_true, forall_const, gEq_true, gEq_false, nonneg_iff, natle_iff, decide_eq_true_eq, decide_eq_false_iff_not, Int.toNat_natCast, cond_bt, cond_bf, Bool.cond_true, Bool.cond_false, Bool.not_true, Bool.not_false, reduceCtorEq, false_implies, implies_true, Bool.true_eq_false, Bool.false_eq_true, Bool.not_eq_true', Bool.not_eq_false', bs_size, bs_data, bs_toList, bs_extract, bs_append, bs_mk, byteF, w01, w12]
   (repeat' apply And.intro) <;> first | exact h | omega
  ·refine mkHo (vNums5 l b e R) (tb (ac XNumber az)) Tryz.func66 (by kernel_rfl) ?_
   have k := cls_5 hk
   simp only [fieldsN, Ev.setF, k.1, k.2.1, k.2.2.1, k.2.2.2.1, k.2.2.2.2, cond_true, cond_false, numbersR, rdO, cellsZ] at h
   simp only [true_and, and_true, and_self, implies_true, forall_const, gEq_true, gEq_false, nonneg_iff, natle_iff, decide_eq_true_eq, decide_eq_false_iff_not, Int.toNat_natCast, cond_bt, cond_bf, Bool.cond_true, Bool.cond_false, Bool.not_true, Bool.not_false, reduceCtorEq, false_implies, implies_true, Bool.true_eq_false, Bool.false_eq_true, Bool.not_eq_true', Bool.not_eq_false', bs_size, bs_data, bs_toList, bs_extract, bs_append, bs_mk, byteF, w01, w12]
   (repeat' apply And.intro) <;> first | exact h | omega
 ·rename_i t s b t2 x y z m t3 k e m2 f
  obtain ⟨l, rfl⟩ : ∃ l, s = bs l := ⟨_, bs_of s⟩
  obtain ⟨⟨rfl, h1, rfl, rfl⟩, h⟩ := h
  have hle := number_le ⟨l, b⟩
  have hle2 := number_le (numberR ⟨l, b⟩).2
  simp only [bs_size, bs_data] at h h1
  dsimp only at hle
  refine mkHo (vNumsS l b x y z m k e m2 f R) (tb (ac XNumber az)) Tryz.func66 (by kernel_rfl) ?_
  simp only [numbersR, rdO] at h
  simp only [true_and, and_true, and_self, implies_true, forall_const, gEq_true, gEq_false, nonneg_iff, natle_iff, decide_eq_true_eq, decide_eq_false_iff_not, Int.toNat_natCast, cond_bt, cond_bf, Bool.cond_true, Bool.cond_false, Bool.not_true, Bool.not_false, reduceCtorEq, false_implies, implies_true, Bool.true_eq_false, Bool.false_eq_true, Bool.not_eq_true', Bool.not_eq_false', bs_size, bs_data, bs_toList, bs_extract, bs_append, bs_mk, byteF, w01, w12]
  (repeat' apply And.intro) <;> first | exact h | omega
 ·exact h.elim
theorem XChange : EntOk Tryz.prog 83 (.hand tkR TChange) := by
 refine ⟨Am.enters_of Tryz.func83 (by kernel_rfl) (by kernel_rfl), λ H0 args R h => ?_⟩
 unfold TChange at h
 split at h
 ·rename_i t s b
  obtain ⟨l, rfl⟩ : ∃ l, s = bs l := ⟨_, bs_of s⟩
  obtain ⟨⟨rfl, h1⟩, h⟩ := h
  have hle := text_le ⟨l, b⟩
  simp only [bs_size, bs_data] at h h1
  dsimp only at hle
  refine SpecH.weak (Z := Unit) (X := λ _ => .agg [sl (changeR ⟨l, b⟩).1.1, bl (changeR ⟨l, b⟩).1.2.1, sl (changeR ⟨l, b⟩).1.2.2]) (HH := λ _ => [rdO (changeR ⟨l, b⟩).2]) (mkHo (vChange l b R) (tb (ac XText (ac XCutPre (ac XBlank az)))) Tryz.func83 (by kernel_rfl) ?_)
  have e1 : Int.toNat 0 = 0 := rfl
  have e2 : ∀ c : UInt8, (((c.toNat : Nat) : Int) == 32) = (c == 32) := λ c => by
   rw [Bool.eq_iff_iff, beq_iff_eq, beq_iff_eq]
   exact ⟨λ h => UInt8.toNat.inj (by show c.toNat = 32; omega), λ h => by rw [h]; rfl⟩
  have e3 : ∀ l : Bs, ((bs l).toList == (ByteArray.mk #[]).toList) = (l == []) := λ l => by simp [ByteArray.toList_eq]
  simp only [true_and, and_true, and_self, implies_true, forall_const, gEq_true, gEq_false, nonneg_iff, natle_iff, decide_eq_true_eq, decide_eq_false_iff_not, Int.toNat_natCast, cond_bt, cond_bf, Bool.cond_true, Bool.cond_false, Bool.not_true, Bool.not_false, reduceCtorEq, false_implies, implies_true, Bool.true_eq_false, Bool.false_eq_true, Bool.not_eq_true', Bool.not_eq_false', bs_size, bs_data, bs_toList, bs_extract, bs_append, bs_mk, byteF, e1, e2, e3]
  unfold changeR at h ⊢
  generalize textR ⟨l, b⟩ = r at *
  refine ⟨h1, λ q => ⟨by omega, ?_⟩, λ q => ?_, λ q => ?_⟩
  ·rw [Bool.and_eq_true] at q
   have hne : cutPre [45] r.snd.rest ≠ [] := by simpa using q.2
   have := List.length_pos_iff.2 hne
   omega
  ·simp only [q, cond_true] at h ⊢
   exact ⟨by omega, (), by simp, by simp, h⟩
  ·simp only [q, cond_false] at h ⊢
   exact ⟨by omega, (), by simp, by simp, h⟩
 ·exact h.elim
theorem dec_at (l : Bs) (i : Nat) (hi : i < l.length) : ((l.getD i 0).toNat < 128 -> Utf8.decode (bs l) i = ((l.getD i 0).toNat, 1)) /\ (128 <= (l.getD i 0).toNat -> 128 <= (Utf8.decode (bs l) i).1) := by
 have hg : ((bs l).get! (i + 0)).toNat = (l.getD i 0).toNat := by
  simp [bs, ByteArray.get!, List.getD_eq_getElem?_getD, hi]
 constructor
 ·intro h
  unfold Utf8.decode
  simp only [hg]
  rw [if_pos h]
 ·intro h
  unfold Utf8.decode
  simp only [hg]
  rw [if_neg (by omega)]
  (repeat' split) <;> first | (simp only [Utf8.runeError]; omega) | (rename_i q; simp at q ⊢; omega)
theorem dig_hex : ∀ (c : Fin 256) (j : Fin 16), (hexD j.val).toNat = c.val ↔ digV (UInt8.ofNat c.val) = j.val := by decide +kernel
theorem hex_lt : ∀ j : Fin 16, (hexD j.val).toNat < 128 := by decide +kernel
theorem dig_16 : ∀ c : Fin 256, digV (UInt8.ofNat c.val) < 16 ∨ digV (UInt8.ofNat c.val) = 16 := by decide +kernel
theorem dig_hi : ∀ c : Fin 256, 128 <= c.val -> digV (UInt8.ofNat c.val) = 16 := by decide +kernel
theorem wrap_i32 : ∀ c : Fin 256, IntKind.i32.wrap ((c.val : Nat) : Int) = (c.val : Nat) := by decide +kernel
theorem dig_at (l : Bs) (i : Nat) (hi : i < l.length) (j : Nat) (hj : j < 16) : (IntKind.i32.wrap (((([48, 49, 50, 51, 52, 53, 54, 55, 56, 57, 97, 98, 99, 100, 101, 102] : Bs).getD j 0).toNat : Nat) : Int) != (((Utf8.decode (bs l) i).1 : Nat) : Int)) = !(digV (l.getD i 0) == j) := by
 have h1 := digs ⟨j, hj⟩
 have h2 := hex_lt ⟨j, hj⟩
 dsimp only at h1 h2
 rw [h1]
 have h3 := wrap_i32 ⟨(hexD j).toNat, by omega⟩
 dsimp only at h3
 rw [h3]
 obtain ⟨h4, h5⟩ := dec_at l i hi
 have hc := (l.getD i 0).toNat_lt
 have h6 := dig_hex ⟨(l.getD i 0).toNat, hc⟩ ⟨j, hj⟩
 have h7 := dig_hi ⟨(l.getD i 0).toNat, hc⟩
 simp only [UInt8.ofNat_toNat] at h6 h7
 rw [Bool.eq_iff_iff]
 simp only [bne_iff_ne, ne_eq, Bool.not_eq_true', beq_eq_false_iff_ne]
 rcases Nat.lt_or_ge (l.getD i 0).toNat 128 with hlt | hge
 ·rw [h4 hlt, <- h6]
  exact ⟨λ h e => h (by rw [e]), λ h e => h (Int.ofNat.inj e)⟩
 ·have := h5 hge
  rw [h7 hge]
  exact ⟨λ _ => by omega, λ _ e => by omega⟩
theorem dig_dec (l : Bs) (i : Nat) (hi : i < l.length) (h : digV (l.getD i 0) < 16) : (Utf8.decode (bs l) i).2 = 1 := by
 obtain ⟨h4, _⟩ := dec_at l i hi
 have hc := (l.getD i 0).toNat_lt
 have h7 := dig_hi ⟨(l.getD i 0).toNat, hc⟩
 simp only [UInt8.ofNat_toNat] at h7
 rw [h4 (by rcases Nat.lt_or_ge (l.getD i 0).toNat 128 with hlt | hge; exact hlt; have := h7 hge; omega)]
theorem half : ∀ i : Fin 64, IntKind.i64.wrap (((i.val : Nat) : Int).tdiv 2) = ((i.val / 2 : Nat) : Int) := by decide +kernel
theorem dig_put : ∀ (a : Fin 16) (j : Fin 16), IntKind.u8.wrap (IntKind.u8.wrap (((a.val : Nat) : Int) * 2 ^ min 4 IntKind.u8.bits) + IntKind.u8.wrap ((j.val : Nat) : Int)) = ((a.val * 16 + j.val : Nat) : Int) := by decide +kernel
theorem idUp_step (l : Bs) (i : Nat) (hi : i < l.length) (h64 : l.length = 64) (hd : ∀ j, j < i -> digV (l.getD j 0) < 16) (j : Nat) (hj : j < 16) (hdj : digV (l.getD i 0) = j) (k : Nat) :
  (if k = i / 2 then IntKind.u8.wrap (IntKind.u8.wrap (idUp l i (i / 2) * 2 ^ min 4 IntKind.u8.bits) + IntKind.u8.wrap ((j : Nat) : Int)) else idUp l i k) = idUp l (i + 1) k := by
 split
 ·rename_i hk
  subst hk
  rcases Nat.mod_two_eq_zero_or_one i with h2 | h2
  ·have e1 : idUp l i (i / 2) = ((0 : Nat) : Int) := by
    unfold idUp
    rw [if_neg (by omega), if_neg (by omega)]
    rfl
   have e2 : idUp l (i + 1) (i / 2) = ((digV (l.getD i 0) : Nat) : Int) := by
    unfold idUp
    rw [if_neg (by omega), if_pos (by omega), show 2 * (i / 2) = i by omega]
   rw [e1, e2, hdj]
   have := dig_put ⟨0, by omega⟩ ⟨j, hj⟩
   dsimp only at this
   rw [this]
   simp
  ·have hp := hd (i - 1) (by omega)
   have e1 : idUp l i (i / 2) = ((digV (l.getD (i - 1) 0) : Nat) : Int) := by
    unfold idUp
    rw [if_neg (by omega), if_pos (by omega), show 2 * (i / 2) = i - 1 by omega]
   have e2 : idUp l (i + 1) (i / 2) = ((digV (l.getD (i - 1) 0) * 16 + digV (l.getD i 0) : Nat) : Int) := by
    unfold idUp
    rw [if_pos (by omega), show 2 * (i / 2) = i - 1 by omega, show i - 1 + 1 = i by omega]
   rw [e1, e2, hdj]
   exact dig_put ⟨_, hp⟩ ⟨j, hj⟩
 ·unfold idUp
  by_cases h1 : 2 * k + 1 < i
  ·rw [if_pos h1, if_pos (by omega)]
  ·by_cases h2 : 2 * k < i
   ·omega
   ·rw [if_neg h1, if_neg h2, if_neg (by omega), if_neg (by omega)]
theorem XIdP : EntOk Tryz.prog 84 (.lend TIdP) := by
 refine ⟨Am.enters_of Tryz.func84 (by kernel_rfl) (by kernel_rfl), λ args R h => ?_⟩
 unfold TIdP at h
 split at h
 ·rename_i s
  obtain ⟨l, rfl⟩ : ∃ l, s = bs l := ⟨_, bs_of s⟩
  obtain ⟨h1, h⟩ := h
  rw [bs_size] at h1
  rw [bs_data] at h
  unfold rlim at h1
  refine Spec.weak (Z := Unit) (X := λ _ => .tup [.agg [.iarr .u8 32 (idR l).1], nm (idE l)]) (HH := λ _ => []) (mkSo (vIdP l (λ x => x.1 <= l.length /\ (∀ j, j < x.1 -> digV (l.getD j 0) < 16) /\ x.2 = (l.length == 64) /\ (0 < x.1 -> l.length = 64)) (λ x => x.2 = idOk l /\ (x.2 = true -> x.1 = l.length)) (λ x j => j <= 16 /\ ∀ k, k < j -> digV (l.getD x.1 0) ≠ k) R) (tb az) Tryz.func84 (by kernel_rfl) ?_)
  have t2 : Int.ofNat (nat_lit 1 + 1) = 2 := rfl
  simp only [true_and, and_true, and_self, implies_true, forall_const, gEq_true, gEq_false, nonneg_iff, natle_iff, decide_eq_true_eq, decide_eq_false_iff_not, Int.toNat_natCast, cond_bt, cond_bf, Bool.cond_true, Bool.cond_false, Bool.not_true, Bool.not_false, reduceCtorEq, false_implies, implies_true, Bool.true_eq_false, Bool.false_eq_true, Bool.not_eq_true', Bool.not_eq_false', bs_size, bs_data, bs_toList, bs_extract, bs_append, bs_mk, byteF, t2]
  have h16 : ∀ i, digV (l.getD i 0) < 16 ∨ digV (l.getD i 0) = 16 := λ i => by
   have := dig_16 ⟨(l.getD i 0).toNat, (l.getD i 0).toNat_lt⟩
   simpa using this
  have hno : ∀ i, i < l.length -> digV (l.getD i 0) = 16 -> idOk l = false := λ i hi hd => by
   rw [idOk, Bool.and_eq_false_iff]
   right
   rw [List.all_eq_false]
   refine ⟨l.getD i 0, by rw [List.getD_eq_getElem?_getD, List.getElem?_eq_getElem hi]; exact List.getElem_mem hi, by rw [hd]; decide⟩
  refine ⟨⟨⟨(0, l.length == 64), ?_, ⟨λ _ _ => rfl, λ i _ => ?_, rfl⟩, Nat.zero_le _, λ j hj => absurd hj (Nat.not_lt_zero j), rfl, λ hj => absurd hj (Nat.lt_irrefl 0)⟩, λ x hx => ⟨λ hlt => ⟨⟨0, rfl, Nat.zero_le _, λ k hk => absurd hk (Nat.not_lt_zero k)⟩, λ j hj => ⟨λ q => ⟨by omega, by simp; omega⟩, λ q => ?_, λ q => ⟨λ q2 => ⟨(x.1, false), q2, λ _ _ => rfl, ?_, λ hf => by cases hf⟩, λ q2 => ?_⟩⟩⟩, λ hge => ⟨x, rfl, λ _ _ => rfl, ?_, λ _ => by omega⟩⟩⟩, λ x hx => ⟨λ q => ?_, λ q => ?_⟩⟩
  ·rw [Bool.eq_iff_iff]; simp; omega
  ·unfold idUp; rw [if_neg (by omega), if_neg (by omega)]
  ·rw [Bool.and_eq_true, decide_eq_true_eq] at q
   have hd := dig_at l x.1 hlt j (by omega)
   rw [hd] at q
   have hne : digV (l.getD x.1 0) ≠ j := by simpa using q.2
   refine ⟨j + 1, by rw [wrap64] <;> omega, ⟨by omega, λ k hk => ?_⟩, by omega⟩
   rcases Nat.lt_or_ge k j with h2 | h2
   ·exact hj.2 k h2
   ·rw [show k = j by omega]; exact hne
  ·rw [Bool.and_eq_false_iff, decide_eq_false_iff_not] at q2
   rcases q2 with q2 | q2
   ·rw [hx.2.2.1] at q2
    rw [idOk, q2]
    rfl
   ·refine (hno x.1 hlt ?_).symm
    rcases h16 x.1 with h2 | h2
    ·exact absurd rfl (hj.2 _ (by omega))
    ·exact h2
  ·rw [Bool.and_eq_true, decide_eq_true_eq] at q2
   have hj16 : j < 16 := by omega
   have hd := dig_at l x.1 hlt j hj16
   rw [decide_eq_true q2.2, Bool.true_and, hd] at q
   have hdj : digV (l.getD x.1 0) = j := by simpa using q
   have h64 : l.length = 64 := by have := hx.2.2.1; rw [q2.1] at this; simpa using this.symm
   have hdec := dig_dec l x.1 hlt (by omega)
   have hh := half ⟨x.1, by omega⟩
   dsimp only at hh
   rw [hh, Int.toNat_natCast]
   refine ⟨⟨by omega, by omega⟩, by omega, ⟨by omega, by omega⟩, by omega, (x.1 + 1, true), by rw [q2.1, decide_eq_true q2.2]; rfl, ⟨λ k _ => ?_, by rw [hdec]⟩, ⟨by dsimp only; omega, λ k hk => ?_, by rw [<- hx.2.2.1, q2.1], λ _ => h64⟩, by dsimp only; omega⟩
   ·exact idUp_step l x.1 hlt h64 hx.2.1 j hj16 hdj k
   ·dsimp only at hk
    rcases Nat.lt_or_ge k x.1 with h2 | h2
    ·exact hx.2.1 k h2
    ·rw [show k = x.1 by omega]; omega
  ·rw [hx.2.2.1, idOk]
   have : l.all (λ c => decide (digV c < 16)) = true := by
    rw [List.all_eq_true]
    intro c hc
    obtain ⟨i, hi, rfl⟩ := List.mem_iff_getElem.1 hc
    have := hx.2.1 i (by omega)
    rw [List.getD_eq_getElem?_getD, List.getElem?_eq_getElem hi] at this
    simpa using this
   rw [this, Bool.and_true]
  ·have e1 : idOk l = false := by rw [<- hx.1]; exact q
   rw [idE, idR, e1] at h
   rw [idE, idR, e1]
   exact ⟨(), ⟨λ _ _ => rfl, rfl⟩, h⟩
  ·have e1 : idOk l = true := by rw [<- hx.1]; exact q
   have h64 : l.length = 64 := by
    rw [idOk, Bool.and_eq_true] at e1
    simpa using e1.1
   rw [idE, idR, e1] at h
   rw [idE, idR, e1]
   refine ⟨(), ⟨λ i hi => ?_, rfl⟩, h⟩
   rw [hx.2 q, idUp, if_pos (by omega)]
   rfl
 ·exact h.elim
theorem idTk_succ (f : Idv) (n : Nat) : idTk f (n + 1) = idTk f n ++ [hexD ((f n).toNat / 16), hexD ((f n).toNat % 16)] := by
 simp [idTk, List.range_succ]
theorem idTk_len (f : Idv) (n : Nat) : (idTk f n).length = 2 * n := by
 induction n with
 | zero => rfl
 | succ n ih => rw [idTk_succ]; simp [ih]; omega
theorem hx1 : ∀ q : Fin 256, IntKind.u8.wrap (((q.val : Nat) : Int).tdiv 16) = ((q.val / 16 : Nat) : Int) /\ ((q.val : Nat) : Int).tmod 16 = ((q.val % 16 : Nat) : Int) := by decide +kernel
theorem XIdT : EntOk Tryz.prog 46 (.lend TIdT) := by
 refine ⟨Am.enters_of Tryz.func46 (by kernel_rfl) (by kernel_rfl), λ args R h => ?_⟩
 unfold TIdT at h
 split at h
 ·rename_i f
  obtain ⟨hf, h⟩ := h
  refine mkSo (vIdT f R (λ i => i <= 32)) (tb az) Tryz.func46 (by kernel_rfl) ?_
  have t2 : Int.ofNat (nat_lit 15 + 1) = 16 := rfl
  simp only [true_and, and_true, and_self, implies_true, forall_const, gEq_true, gEq_false, nonneg_iff, natle_iff, decide_eq_true_eq, decide_eq_false_iff_not, Int.toNat_natCast, cond_bt, cond_bf, Bool.cond_true, Bool.cond_false, Bool.not_true, Bool.not_false, reduceCtorEq, false_implies, implies_true, Bool.true_eq_false, Bool.false_eq_true, Bool.not_eq_true', Bool.not_eq_false', bs_size, bs_data, bs_toList, bs_extract, bs_append, bs_mk, byteF, t2]
  have hmx := maxLen_eq
  have k6 : ([48, 49, 50, 51, 52, 53, 54, 55, 56, 57, 97, 98, 99, 100, 101, 102] : Bs).length = 16 := rfl
  refine ⟨by omega, by omega, by omega, by omega, ⟨0, ⟨rfl, rfl⟩, ⟨Nat.le_refl _, λ i hi => absurd hi (Nat.not_lt_zero i)⟩, Nat.zero_le _⟩, λ x hx => ⟨λ hlt => ?_, λ hge => ?_⟩⟩
  ·obtain ⟨g0, g1⟩ := hf x (by omega)
   obtain ⟨q, hq⟩ := Int.eq_ofNat_of_zero_le g0
   have hx1 := hx1 ⟨q, by omega⟩
   dsimp only at hx1
   have d1 := digs ⟨q / 16, by omega⟩
   have d2 := digs ⟨q % 16, by omega⟩
   dsimp only at d1 d2
   rw [hq, hx1.1, hx1.2, k6, Int.toNat_natCast, Int.toNat_natCast, d1, d2]
   refine ⟨⟨by omega, by omega⟩, ⟨by omega, by omega⟩, ⟨by omega, by omega⟩, ⟨by omega, by omega⟩, ⟨by omega, by omega⟩, ⟨by omega, by omega, by omega⟩, x + 1, ⟨by omega, by rw [wrap64] <;> omega⟩, ⟨by omega, λ i hi => ?_⟩, by omega, by omega⟩
   rw [idTk_succ, getD_app, idTk_len, hq, Int.toNat_natCast]
   split
   ·rfl
   ·have : i - 2 * x = 0 ∨ i - 2 * x = 1 := by omega
    rcases this with e | e <;> (rw [e]; rfl)
  ·have : x = 32 := by omega
   subst this
   exact ⟨by omega, bs (idL f), by rw [bs_size]; exact idTk_len f 32, λ i _ => by rw [Nat.zero_add, bs_data]; rfl, h⟩
 ·exact h.elim
end Go.Proofs.Sz

namespace Go.Proofs.Sz
open Go Go.Am Go.SP
theorem vSame (a b : Ev) (R : AV -> List LObj -> Prop) : (vcA false false 0 [] Tryz.prog (mkTab [(60, .lend TEqBytes), (16, .lend TEqBool), (61, .lend TEqInt), (62, .lend TSameMap), (63, .lend TSameEdit)]) (optC
 (Tryz.f31.body.getD .skip)) ([]) (finalK Tryz.prog Tryz.f31 (R)) (startSt Tryz.f31 ([a.av, b.av]))) = (let Q14 := ((bs a.note).toList == (bs b.note).toList && true); let Q13 := (AV.rows 1 b.conf.length (intF b.conf));
 let Q12 := (AV.rows 1 a.conf.length (intF a.conf)); let Q11 := (AV.rows 2 b.map.length (rowF b.map)); let Q10 := (AV.rows 2 a.map.length (rowF a.map)); let Q9 := (bif false then bif bif bif bif bif a.kind == b.kind then
 a.node == b.node else false then a.to == b.to else false then a.n == b.n else false then (bs a.branch).toList == (bs b.branch).toList else false then a.author == b.author && Q14 else false else false); let Q8 := (bif bif
 bif bif bif a.ck == b.ck then a.client == b.client else false then a.seq == b.seq else false then (bs a.cbranch).toList == (bs b.cbranch).toList else false then (List.range (32 : Nat)).all λ (i : Nat) => a.old i ==
 b.old i else false then (List.range (32 : Nat)).all λ (i : Nat) => a.new i == b.new i else false); let Q7 := (AV.rows 3 b.edit.length (chgF b.edit)); let Q6 := (AV.rows 3 a.edit.length (chgF a.edit)); let Q5 := (gEq
 false true = false -> true = true /\ (True /\ True) /\ True /\ R (bl false) []); let Q4 := (gEq false true = true -> ∃ (a_7 : List (Bs × Bool × Bs)), ∃ (b_2 : List (Bs × Bool × Bs)), (IsEdit Q6 a_7 /\ IsEdit Q7 b_2) /\
 true = true /\ (True /\ True) /\ True /\ R (bl (bif true then a_7 == b_2 else false)) []); let Q3 := (gEq false true = true -> ∃ (a_8 : List (Bs × Bool × Bs)), ∃ (b_3 : List (Bs × Bool × Bs)), (IsEdit Q6 a_8 /\ IsEdit Q7
 b_3) /\ true = true /\ (True /\ True) /\ True /\ R (bl (bif true then a_8 == b_3 else false)) []); let Q2 := (gEq false true = true -> ∃ (a_6 : List (Bs × Bs)), ∃ (b_2 : List (Bs × Bs)), (IsMap Q10 a_6 /\ IsMap Q11 b_2)
 /\ true = true /\ (gEq (bif true then a_6 == b_2 else false) true = true -> ∃ (a_8 : List (Bs × Bool × Bs)), ∃ (b_3 : List (Bs × Bool × Bs)), (IsEdit Q6 a_8 /\ IsEdit Q7 b_3) /\ true = true /\ (True /\ True) /\ True /\ R
 (bl (bif true then a_8 == b_3 else false)) []) /\ (gEq (bif true then a_6 == b_2 else false) true = false -> true = true /\ (True /\ True) /\ True /\ R (bl false) [])); let Q1 := (gEq Q8 true = false -> true = true /\
 (gEq Q9 true = true -> ∃ (a_3 : List Bool), ∃ (b_1 : List Bool), (IsBools (AV.rows 1 a.keep.length (boolF a.keep)) a_3 /\ IsBools (AV.rows 1 b.keep.length (boolF b.keep)) b_1) /\ true = true /\ (gEq (bif true then a_3 ==
 b_1 else false) true = true -> ∃ (a_5 : List Int), ∃ (b_2 : List Int), (IsInts0 Q12 a_5 /\ IsInts0 Q13 b_2) /\ true = true /\ (gEq (bif true then a_5 == b_2 else false) true = true -> ∃ (a_7 : List (Bs × Bs)), ∃ (b_3 :
 List (Bs × Bs)), (IsMap Q10 a_7 /\ IsMap Q11 b_3) /\ true = true /\ (gEq (bif true then a_7 == b_3 else false) true = true -> ∃ (a_9 : List (Bs × Bool × Bs)), ∃ (b_4 : List (Bs × Bool × Bs)), (IsEdit Q6 a_9 /\ IsEdit Q7
 b_4) /\ true = true /\ (True /\ True) /\ True /\ R (bl (bif true then a_9 == b_4 else false)) []) /\ (gEq (bif true then a_7 == b_3 else false) true = false -> true = true /\ (True /\ True) /\ True /\ R (bl false) []))
 /\ (gEq (bif true then a_5 == b_2 else false) true = false -> true = true /\ Q3 /\ Q5)) /\ (gEq (bif true then a_3 == b_1 else false) true = false -> true = true /\ Q2 /\ (gEq false true = false -> true = true /\ Q4 /\
 Q5))) /\ (gEq Q9 true = false -> true = true /\ (gEq false true = true -> ∃ (a_4 : List Int), ∃ (b_1 : List Int), (IsInts0 Q12 a_4 /\ IsInts0 Q13 b_1) /\ true = true /\ (gEq (bif true then a_4 == b_1 else false) true =
 true -> ∃ (a_6 : List (Bs × Bs)), ∃ (b_2 : List (Bs × Bs)), (IsMap Q10 a_6 /\ IsMap Q11 b_2) /\ true = true /\ (gEq (bif true then a_6 == b_2 else false) true = true -> ∃ (a_8 : List (Bs × Bool × Bs)), ∃ (b_3 : List (Bs
 × Bool × Bs)), (IsEdit Q6 a_8 /\ IsEdit Q7 b_3) /\ true = true /\ (True /\ True) /\ True /\ R (bl (bif true then a_8 == b_3 else false)) []) /\ (gEq (bif true then a_6 == b_2 else false) true = false -> true = true /\
 (True /\ True) /\ True /\ R (bl false) [])) /\ (gEq (bif true then a_4 == b_1 else false) true = false -> true = true /\ Q4 /\ Q5)) /\ (gEq false true = false -> true = true /\ (gEq false true = true -> ∃ (a_5 : List (Bs
 × Bs)), ∃ (b_1 : List (Bs × Bs)), (IsMap Q10 a_5 /\ IsMap Q11 b_1) /\ true = true /\ (gEq (bif true then a_5 == b_1 else false) true = true -> ∃ (a_7 : List (Bs × Bool × Bs)), ∃ (b_2 : List (Bs × Bool × Bs)), (IsEdit Q6
 a_7 /\ IsEdit Q7 b_2) /\ true = true /\ (True /\ True) /\ True /\ R (bl (bif true then a_7 == b_2 else false)) []) /\ (gEq (bif true then a_5 == b_1 else false) true = false -> true = true /\ (True /\ True) /\ True /\ R
 (bl false) [])) /\ (gEq false true = false -> true = true /\ (gEq false true = true -> ∃ (a_6 : List (Bs × Bool × Bs)), ∃ (b_1 : List (Bs × Bool × Bs)), (IsEdit Q6 a_6 /\ IsEdit Q7 b_1) /\ true = true /\ (True /\ True)
 /\ True /\ R (bl (bif true then a_6 == b_1 else false)) []) /\ Q5)))); let Q0 := (gEq Q8 true = true -> ∃ (a_2 : Bs), ∃ (b_1 : Bs), (IsRow8 (AV.rows 1 a.data.length (byteF (bs a.data))) a_2 /\ IsRow8 (AV.rows 1
 b.data.length (byteF (bs b.data))) b_1) /\ true = true /\ (gEq (bif bif true then a_2 == b_1 else false then bif bif bif bif bif a.kind == b.kind then a.node == b.node else false then a.to == b.to else false then a.n ==
 b.n else false then (bs a.branch).toList == (bs b.branch).toList else false then a.author == b.author && Q14 else false else false) true = true -> ∃ (a_4 : List Bool), ∃ (b_2 : List Bool), (IsBools (AV.rows 1
 a.keep.length (boolF a.keep)) a_4 /\ IsBools (AV.rows 1 b.keep.length (boolF b.keep)) b_2) /\ true = true /\ (gEq (bif true then a_4 == b_2 else false) true = true -> ∃ (a_6 : List Int), ∃ (b_3 : List Int), (IsInts0 Q12
 a_6 /\ IsInts0 Q13 b_3) /\ true = true /\ (gEq (bif true then a_6 == b_3 else false) true = true -> ∃ (a_8 : List (Bs × Bs)), ∃ (b_4 : List (Bs × Bs)), (IsMap Q10 a_8 /\ IsMap Q11 b_4) /\ true = true /\ (gEq (bif true
 then a_8 == b_4 else false) true = true -> ∃ (a_10 : List (Bs × Bool × Bs)), ∃ (b_5 : List (Bs × Bool × Bs)), (IsEdit Q6 a_10 /\ IsEdit Q7 b_5) /\ true = true /\ (True /\ True) /\ True /\ R (bl (bif true then a_10 == b_5
 else false)) []) /\ (gEq (bif true then a_8 == b_4 else false) true = false -> true = true /\ (True /\ True) /\ True /\ R (bl false) [])) /\ (gEq (bif true then a_6 == b_3 else false) true = false -> true = true /\ (gEq
 false true = true -> ∃ (a_9 : List (Bs × Bool × Bs)), ∃ (b_4 : List (Bs × Bool × Bs)), (IsEdit Q6 a_9 /\ IsEdit Q7 b_4) /\ true = true /\ (True /\ True) /\ True /\ R (bl (bif true then a_9 == b_4 else false)) []) /\ Q5))
 /\ (gEq (bif true then a_4 == b_2 else false) true = false -> true = true /\ (gEq false true = true -> ∃ (a_7 : List (Bs × Bs)), ∃ (b_3 : List (Bs × Bs)), (IsMap Q10 a_7 /\ IsMap Q11 b_3) /\ true = true /\ (gEq (bif true
 then a_7 == b_3 else false) true = true -> ∃ (a_9 : List (Bs × Bool × Bs)), ∃ (b_4 : List (Bs × Bool × Bs)), (IsEdit Q6 a_9 /\ IsEdit Q7 b_4) /\ true = true /\ (True /\ True) /\ True /\ R (bl (bif true then a_9 == b_4
 else false)) []) /\ (gEq (bif true then a_7 == b_3 else false) true = false -> true = true /\ (True /\ True) /\ True /\ R (bl false) [])) /\ (gEq false true = false -> true = true /\ Q3 /\ Q5))) /\ (gEq (bif bif true
 then a_2 == b_1 else false then bif bif bif bif bif a.kind == b.kind then a.node == b.node else false then a.to == b.to else false then a.n == b.n else false then (bs a.branch).toList == (bs b.branch).toList else false
 then a.author == b.author && Q14 else false else false) true = false -> true = true /\ (gEq false true = true -> ∃ (a_5 : List Int), ∃ (b_2 : List Int), (IsInts0 Q12 a_5 /\ IsInts0 Q13 b_2) /\ true = true /\ (gEq (bif
 true then a_5 == b_2 else false) true = true -> ∃ (a_7 : List (Bs × Bs)), ∃ (b_3 : List (Bs × Bs)), (IsMap Q10 a_7 /\ IsMap Q11 b_3) /\ true = true /\ (gEq (bif true then a_7 == b_3 else false) true = true -> ∃ (a_9 :
 List (Bs × Bool × Bs)), ∃ (b_4 : List (Bs × Bool × Bs)), (IsEdit Q6 a_9 /\ IsEdit Q7 b_4) /\ true = true /\ (True /\ True) /\ True /\ R (bl (bif true then a_9 == b_4 else false)) []) /\ (gEq (bif true then a_7 == b_3
 else false) true = false -> true = true /\ (True /\ True) /\ True /\ R (bl false) [])) /\ (gEq (bif true then a_5 == b_2 else false) true = false -> true = true /\ Q3 /\ Q5)) /\ (gEq false true = false -> true = true /\
 Q2 /\ (gEq false true = false -> true = true /\ Q4 /\ Q5)))); True /\ True /\ (True /\ True /\ True /\ True /\ Q0 /\ Q1) /\ True /\ True /\ True /\ True /\ Q0 /\ Q1) := by kernel_rfl
theorem vSpoken1 (e y : Ev) (R : AV -> List LObj -> Prop) : (vcA false true 0 [2] Tryz.prog (mkTab [(43, .hand tkR TFieldsL), (44, .lend TStamped)]) (optC (Tryz.f48.body.getD .skip)) ([.unroll 4 3 true (λ _ => [])])
 (finalK Tryz.prog Tryz.f48 (λ x H => ∃ _ : Unit, leSt 0 ⟨[x], H⟩ ⟨[y.av], []⟩ (R y.av []))) (startSt Tryz.f48 ([.agg (cellsK 1 e)]))) = (let Q1 := ((0 : Int) <= k64Q.wrap ((0 : Int) + 1) /\ k64Q.wrap ((0 : Int) + 1) +
 1 <= (↑ (2 : Nat) : Int)); let Q0 := ((0 : Int) <= 0 /\ (0 : Int) + 1 <= (↑ (2 : Nat) : Int)); True /\ True /\ True /\ True /\ (True /\ True) /\ 62 = 62 /\ (True /\ True) /\ 62 = 62 /\ Q0 /\ True /\ Q0 /\ Q0 /\ True /\
 True /\ True /\ Q1 /\ True /\ ((0 : Int) ≤ k64Q.wrap ((0 : Int) + 1) /\ k64Q.wrap ((0 : Int) + 1) + 1 <= (↑ (2 : Nat) : Int)) /\ Q1 /\ True /\ True /\ True /\ True /\ (True /\ True) /\ (True /\ True /\ True /\ True /\
 True /\ True /\ True /\ True /\ True /\ True /\ True /\ True /\ True /\ True /\ True /\ True /\ True /\ True /\ True) /\ ∃ (x : Unit), (((1 : Int) = y.kind /\ e.node = y.node /\ (0 : Int) = y.to /\ e.n = y.n /\ (True /\
 y.keep.length = 0) /\ (True /\ y.conf.length = 0) /\ ByteArray.mk #[] = bs y.branch /\ (True /\ y.map.length = 0) /\ (True /\ y.edit.length = 0) /\ (0 : Int) = y.author /\ ByteArray.mk #[] = bs y.note /\ (0 : Int) = y.ck
 /\ (0 : Int) = y.client /\ (0 : Int) = y.seq /\ ByteArray.mk #[] = bs y.cbranch /\ (k8Q = k8Q /\ 32 = 32 /\ ∀ i < 32, (0 : Int) = y.old i) /\ (k8Q = k8Q /\ 32 = 32 /\ ∀ i < 32, (0 : Int) = y.new i) /\ (True /\
 y.data.length = 0) /\ True) /\ True) /\ True /\ R (y.av) []) := by kernel_rfl
theorem vSpoken2 (e y : Ev) (R : AV -> List LObj -> Prop) : (vcA false true 0 [2] Tryz.prog (mkTab [(43, .hand tkR TFieldsL), (44, .lend TStamped)]) (optC (Tryz.f48.body.getD .skip)) ([.unroll 4 3 true (λ _ => [])])
 (finalK Tryz.prog Tryz.f48 (λ x H => ∃ _ : Unit, leSt 0 ⟨[x], H⟩ ⟨[y.av], []⟩ (R y.av []))) (startSt Tryz.f48 ([.agg (cellsK 2 e)]))) = (let Q0 := ((0 : Int) <= 0 /\ (0 : Int) + 1 <= (↑ (1 : Nat) : Int)); True /\ True
 /\ True /\ True /\ (True /\ True) /\ 62 = 62 /\ (True /\ True) /\ 62 = 62 /\ Q0 /\ True /\ Q0 /\ Q0 /\ True /\ True /\ True /\ True /\ (True /\ True) /\ (True /\ True /\ True /\ True /\ True /\ True /\ True /\ True /\
 True /\ True /\ True /\ True /\ True /\ True /\ True /\ True /\ True /\ True /\ True) /\ ∃ (x : Unit), (((2 : Int) = y.kind /\ (0 : Int) = y.node /\ (0 : Int) = y.to /\ e.n = y.n /\ (True /\ y.keep.length = 0) /\ (True
 /\ y.conf.length = 0) /\ ByteArray.mk #[] = bs y.branch /\ (True /\ y.map.length = 0) /\ (True /\ y.edit.length = 0) /\ (0 : Int) = y.author /\ ByteArray.mk #[] = bs y.note /\ (0 : Int) = y.ck /\ (0 : Int) = y.client /\
 (0 : Int) = y.seq /\ ByteArray.mk #[] = bs y.cbranch /\ (k8Q = k8Q /\ 32 = 32 /\ ∀ i < 32, (0 : Int) = y.old i) /\ (k8Q = k8Q /\ 32 = 32 /\ ∀ i < 32, (0 : Int) = y.new i) /\ (True /\ y.data.length = 0) /\ True) /\ True)
 /\ True /\ R (y.av) []) := by kernel_rfl
theorem vSpoken3 (e y : Ev) (R : AV -> List LObj -> Prop) : (vcA false true 0 [2] Tryz.prog (mkTab [(43, .hand tkR TFieldsL), (44, .lend TStamped)]) (optC (Tryz.f48.body.getD .skip)) ([.unroll 4 3 true (λ _ => [])])
 (finalK Tryz.prog Tryz.f48 (λ x H => ∃ _ : Unit, leSt 0 ⟨[x], H⟩ ⟨[y.av], []⟩ (R y.av []))) (startSt Tryz.f48 ([.agg (cellsK 3 e)]))) = (let Q0 := ((0 : Int) <= 0 /\ (0 : Int) + 1 <= (↑ (1 : Nat) : Int)); True /\ True
 /\ True /\ True /\ (True /\ True) /\ 62 = 62 /\ (True /\ True) /\ 62 = 62 /\ Q0 /\ True /\ Q0 /\ Q0 /\ True /\ True /\ True /\ True /\ (True /\ True) /\ (True /\ True /\ True /\ True /\ True /\ True /\ True /\ True /\
 True /\ True /\ True /\ True /\ True /\ True /\ True /\ True /\ True /\ True /\ True) /\ ∃ (x : Unit), (((3 : Int) = y.kind /\ (0 : Int) = y.node /\ (0 : Int) = y.to /\ e.n = y.n /\ (True /\ y.keep.length = 0) /\ (True
 /\ y.conf.length = 0) /\ ByteArray.mk #[] = bs y.branch /\ (True /\ y.map.length = 0) /\ (True /\ y.edit.length = 0) /\ (0 : Int) = y.author /\ ByteArray.mk #[] = bs y.note /\ (0 : Int) = y.ck /\ (0 : Int) = y.client /\
 (0 : Int) = y.seq /\ ByteArray.mk #[] = bs y.cbranch /\ (k8Q = k8Q /\ 32 = 32 /\ ∀ i < 32, (0 : Int) = y.old i) /\ (k8Q = k8Q /\ 32 = 32 /\ ∀ i < 32, (0 : Int) = y.new i) /\ (True /\ y.data.length = 0) /\ True) /\ True)
 /\ True /\ R (y.av) []) := by kernel_rfl
theorem vSpoken4 (e y : Ev) (R : AV -> List LObj -> Prop) : (vcA false true 0 [2] Tryz.prog (mkTab [(43, .hand tkR TFieldsL), (44, .lend TStamped)]) (optC (Tryz.f48.body.getD .skip)) ([.unroll 4 3 true (λ _ => [])])
 (finalK Tryz.prog Tryz.f48 (λ x H => ∃ _ : Unit, leSt 0 ⟨[x], H⟩ ⟨[y.av], []⟩ (R y.av []))) (startSt Tryz.f48 ([.agg (cellsK 4 e)]))) = (let Q0 := ((0 : Int) <= 0 /\ (0 : Int) + 1 <= (↑ (1 : Nat) : Int)); True /\ True
 /\ True /\ True /\ (True /\ True) /\ 62 = 62 /\ (True /\ True) /\ 62 = 62 /\ Q0 /\ True /\ Q0 /\ Q0 /\ True /\ True /\ True /\ True /\ (True /\ True) /\ (True /\ True /\ True /\ True /\ True /\ True /\ True /\ True /\
 True /\ True /\ True /\ True /\ True /\ True /\ True /\ True /\ True /\ True /\ True) /\ ∃ (x : Unit), (((4 : Int) = y.kind /\ (0 : Int) = y.node /\ (0 : Int) = y.to /\ e.n = y.n /\ (True /\ y.keep.length = 0) /\ (True
 /\ y.conf.length = 0) /\ ByteArray.mk #[] = bs y.branch /\ (True /\ y.map.length = 0) /\ (True /\ y.edit.length = 0) /\ (0 : Int) = y.author /\ ByteArray.mk #[] = bs y.note /\ (0 : Int) = y.ck /\ (0 : Int) = y.client /\
 (0 : Int) = y.seq /\ ByteArray.mk #[] = bs y.cbranch /\ (k8Q = k8Q /\ 32 = 32 /\ ∀ i < 32, (0 : Int) = y.old i) /\ (k8Q = k8Q /\ 32 = 32 /\ ∀ i < 32, (0 : Int) = y.new i) /\ (True /\ y.data.length = 0) /\ True) /\ True)
 /\ True /\ R (y.av) []) := by kernel_rfl
theorem vSpoken5 (e y : Ev) (R : AV -> List LObj -> Prop) : (vcA false true 0 [2] Tryz.prog (mkTab [(43, .hand tkR TFieldsL), (44, .lend TStamped)]) (optC (Tryz.f48.body.getD .skip)) ([.unroll 4 3 true (λ _ => [])])
 (finalK Tryz.prog Tryz.f48 (λ x H => ∃ _ : Unit, leSt 0 ⟨[x], H⟩ ⟨[y.av], []⟩ (R y.av []))) (startSt Tryz.f48 ([.agg (cellsK 5 e)]))) = (let Q1 := ((0 : Int) <= k64Q.wrap ((0 : Int) + 1) /\ k64Q.wrap ((0 : Int) + 1) +
 1 <= (↑ (2 : Nat) : Int)); let Q0 := ((0 : Int) <= 0 /\ (0 : Int) + 1 <= (↑ (2 : Nat) : Int)); True /\ True /\ True /\ True /\ (True /\ True) /\ 62 = 62 /\ (True /\ True) /\ 62 = 62 /\ Q0 /\ True /\ Q0 /\ Q0 /\ True /\
 True /\ True /\ Q1 /\ True /\ ((0 : Int) ≤ k64Q.wrap ((0 : Int) + 1) /\ k64Q.wrap ((0 : Int) + 1) + 1 <= (↑ (2 : Nat) : Int)) /\ Q1 /\ True /\ True /\ True /\ True /\ (True /\ True) /\ (True /\ True /\ True /\ True /\
 True /\ True /\ True /\ True /\ True /\ True /\ True /\ True /\ True /\ True /\ True /\ True /\ True /\ True /\ True) /\ ∃ (x : Unit), (((5 : Int) = y.kind /\ e.node = y.node /\ e.to = y.to /\ (0 : Int) = y.n /\ (True /\
 y.keep.length = 0) /\ (True /\ y.conf.length = 0) /\ ByteArray.mk #[] = bs y.branch /\ (True /\ y.map.length = 0) /\ (True /\ y.edit.length = 0) /\ (0 : Int) = y.author /\ ByteArray.mk #[] = bs y.note /\ (0 : Int) = y.ck
 /\ (0 : Int) = y.client /\ (0 : Int) = y.seq /\ ByteArray.mk #[] = bs y.cbranch /\ (k8Q = k8Q /\ 32 = 32 /\ ∀ i < 32, (0 : Int) = y.old i) /\ (k8Q = k8Q /\ 32 = 32 /\ ∀ i < 32, (0 : Int) = y.new i) /\ (True /\
 y.data.length = 0) /\ True) /\ True) /\ True /\ R (y.av) []) := by kernel_rfl
theorem vSpoken6 (e y : Ev) (R : AV -> List LObj -> Prop) : (vcA false true 0 [2] Tryz.prog (mkTab [(43, .hand tkR TFieldsL), (44, .lend TStamped)]) (optC (Tryz.f48.body.getD .skip)) ([.unroll 4 3 true (λ _ => [])])
 (finalK Tryz.prog Tryz.f48 (λ x H => ∃ _ : Unit, leSt 0 ⟨[x], H⟩ ⟨[y.av], []⟩ (R y.av []))) (startSt Tryz.f48 ([.agg (cellsK 6 e)]))) = (let Q1 := ((0 : Int) <= k64Q.wrap ((0 : Int) + 1) /\ k64Q.wrap ((0 : Int) + 1) +
 1 <= (↑ (2 : Nat) : Int)); let Q0 := ((0 : Int) <= 0 /\ (0 : Int) + 1 <= (↑ (2 : Nat) : Int)); True /\ True /\ True /\ True /\ (True /\ True) /\ 62 = 62 /\ (True /\ True) /\ 62 = 62 /\ Q0 /\ True /\ Q0 /\ Q0 /\ True /\
 True /\ True /\ Q1 /\ True /\ ((0 : Int) ≤ k64Q.wrap ((0 : Int) + 1) /\ k64Q.wrap ((0 : Int) + 1) + 1 <= (↑ (2 : Nat) : Int)) /\ Q1 /\ True /\ True /\ True /\ True /\ (True /\ True) /\ (True /\ True /\ True /\ True /\
 True /\ True /\ True /\ True /\ True /\ True /\ True /\ True /\ True /\ True /\ True /\ True /\ True /\ True /\ True) /\ ∃ (x : Unit), (((6 : Int) = y.kind /\ e.node = y.node /\ e.to = y.to /\ (0 : Int) = y.n /\ (True /\
 y.keep.length = 0) /\ (True /\ y.conf.length = 0) /\ ByteArray.mk #[] = bs y.branch /\ (True /\ y.map.length = 0) /\ (True /\ y.edit.length = 0) /\ (0 : Int) = y.author /\ ByteArray.mk #[] = bs y.note /\ (0 : Int) = y.ck
 /\ (0 : Int) = y.client /\ (0 : Int) = y.seq /\ ByteArray.mk #[] = bs y.cbranch /\ (k8Q = k8Q /\ 32 = 32 /\ ∀ i < 32, (0 : Int) = y.old i) /\ (k8Q = k8Q /\ 32 = 32 /\ ∀ i < 32, (0 : Int) = y.new i) /\ (True /\
 y.data.length = 0) /\ True) /\ True) /\ True /\ R (y.av) []) := by kernel_rfl
theorem vSpoken7 (e y : Ev) (R : AV -> List LObj -> Prop) : (vcA false true 0 [2] Tryz.prog (mkTab [(43, .hand tkR TFieldsL), (44, .lend TStamped)]) (optC (Tryz.f48.body.getD .skip)) ([.unroll 4 3 true (λ _ => [])])
 (finalK Tryz.prog Tryz.f48 (λ x H => ∃ _ : Unit, leSt 0 ⟨[x], H⟩ ⟨[y.av], []⟩ (R y.av []))) (startSt Tryz.f48 ([.agg (cellsK 7 e)]))) = (let Q1 := ((0 : Int) <= k64Q.wrap ((0 : Int) + 1) /\ k64Q.wrap ((0 : Int) + 1) +
 1 <= (↑ (2 : Nat) : Int)); let Q0 := ((0 : Int) <= 0 /\ (0 : Int) + 1 <= (↑ (2 : Nat) : Int)); True /\ True /\ True /\ True /\ (True /\ True) /\ 62 = 62 /\ (True /\ True) /\ 62 = 62 /\ Q0 /\ True /\ Q0 /\ Q0 /\ True /\
 True /\ True /\ Q1 /\ True /\ ((0 : Int) ≤ k64Q.wrap ((0 : Int) + 1) /\ k64Q.wrap ((0 : Int) + 1) + 1 <= (↑ (2 : Nat) : Int)) /\ Q1 /\ True /\ True /\ True /\ True /\ (True /\ True) /\ (True /\ True /\ True /\ True /\
 True /\ True /\ True /\ True /\ True /\ True /\ True /\ True /\ True /\ True /\ True /\ True /\ True /\ True /\ True) /\ ∃ (x : Unit), (((7 : Int) = y.kind /\ e.node = y.node /\ (0 : Int) = y.to /\ e.n = y.n /\ (True /\
 y.keep.length = 0) /\ (True /\ y.conf.length = 0) /\ ByteArray.mk #[] = bs y.branch /\ (True /\ y.map.length = 0) /\ (True /\ y.edit.length = 0) /\ (0 : Int) = y.author /\ ByteArray.mk #[] = bs y.note /\ (0 : Int) = y.ck
 /\ (0 : Int) = y.client /\ (0 : Int) = y.seq /\ ByteArray.mk #[] = bs y.cbranch /\ (k8Q = k8Q /\ 32 = 32 /\ ∀ i < 32, (0 : Int) = y.old i) /\ (k8Q = k8Q /\ 32 = 32 /\ ∀ i < 32, (0 : Int) = y.new i) /\ (True /\
 y.data.length = 0) /\ True) /\ True) /\ True /\ R (y.av) []) := by kernel_rfl
theorem vSpoken8 (e y : Ev) (R : AV -> List LObj -> Prop) : (vcA false true 0 [2] Tryz.prog (mkTab [(43, .hand tkR TFieldsL), (44, .lend TStamped)]) (optC (Tryz.f48.body.getD .skip)) ([.unroll 4 3 true (λ _ => [])])
 (finalK Tryz.prog Tryz.f48 (λ x H => ∃ _ : Unit, leSt 0 ⟨[x], H⟩ ⟨[y.av], []⟩ (R y.av []))) (startSt Tryz.f48 ([.agg (cellsK 8 e)]))) = (let Q0 := ((0 : Int) <= 0 /\ (0 : Int) + 1 <= (↑ (1 : Nat) : Int)); True /\ True
 /\ True /\ True /\ (True /\ True) /\ 62 = 62 /\ (True /\ True) /\ 62 = 62 /\ Q0 /\ True /\ Q0 /\ Q0 /\ True /\ True /\ True /\ True /\ True /\ (True /\ True) /\ (True /\ True /\ True /\ True /\ True /\ True /\ True /\
 True /\ True /\ True /\ True /\ True /\ True /\ True /\ True /\ True /\ True /\ True /\ True) /\ ∃ (x : Unit), (((8 : Int) = y.kind /\ e.node = y.node /\ (0 : Int) = y.to /\ (0 : Int) = y.n /\ (1 = 1 /\ e.keep.length =
 y.keep.length /\ ∀ i < e.keep.length, bl (e.keep.getD i false) = bl (y.keep.getD i false)) /\ (True /\ y.conf.length = 0) /\ ByteArray.mk #[] = bs y.branch /\ (True /\ y.map.length = 0) /\ (True /\ y.edit.length = 0) /\
 (0 : Int) = y.author /\ ByteArray.mk #[] = bs y.note /\ (0 : Int) = y.ck /\ (0 : Int) = y.client /\ (0 : Int) = y.seq /\ ByteArray.mk #[] = bs y.cbranch /\ (k8Q = k8Q /\ 32 = 32 /\ ∀ i < 32, (0 : Int) = y.old i) /\ (k8Q
 = k8Q /\ 32 = 32 /\ ∀ i < 32, (0 : Int) = y.new i) /\ (True /\ y.data.length = 0) /\ True) /\ True) /\ True /\ R (y.av) []) := by kernel_rfl
theorem vSpoken9 (e y : Ev) (R : AV -> List LObj -> Prop) : (vcA false true 0 [2] Tryz.prog (mkTab [(43, .hand tkR TFieldsL), (44, .lend TStamped)]) (optC (Tryz.f48.body.getD .skip)) ([.unroll 4 3 true (λ _ => [])])
 (finalK Tryz.prog Tryz.f48 (λ x H => ∃ _ : Unit, leSt 0 ⟨[x], H⟩ ⟨[y.av], []⟩ (R y.av []))) (startSt Tryz.f48 ([.agg (cellsK 9 e)]))) = (let Q1 := ((0 : Int) <= k64Q.wrap ((0 : Int) + 1) /\ k64Q.wrap ((0 : Int) + 1) +
 1 <= (↑ (2 : Nat) : Int)); let Q0 := ((0 : Int) <= 0 /\ (0 : Int) + 1 <= (↑ (2 : Nat) : Int)); True /\ True /\ True /\ True /\ (True /\ True) /\ 62 = 62 /\ (True /\ True) /\ 62 = 62 /\ Q0 /\ True /\ Q0 /\ Q0 /\ True /\
 True /\ True /\ Q1 /\ True /\ ((0 : Int) ≤ k64Q.wrap ((0 : Int) + 1) /\ k64Q.wrap ((0 : Int) + 1) + 1 <= (↑ (2 : Nat) : Int)) /\ Q1 /\ True /\ True /\ True /\ True /\ (True /\ True) /\ (True /\ True /\ True /\ True /\
 True /\ True /\ True /\ True /\ True /\ True /\ True /\ True /\ True /\ True /\ True /\ True /\ True /\ True /\ True) /\ ∃ (x : Unit), (((9 : Int) = y.kind /\ e.node = y.node /\ (0 : Int) = y.to /\ e.n = y.n /\ (True /\
 y.keep.length = 0) /\ (True /\ y.conf.length = 0) /\ ByteArray.mk #[] = bs y.branch /\ (True /\ y.map.length = 0) /\ (True /\ y.edit.length = 0) /\ (0 : Int) = y.author /\ ByteArray.mk #[] = bs y.note /\ (0 : Int) = y.ck
 /\ (0 : Int) = y.client /\ (0 : Int) = y.seq /\ ByteArray.mk #[] = bs y.cbranch /\ (k8Q = k8Q /\ 32 = 32 /\ ∀ i < 32, (0 : Int) = y.old i) /\ (k8Q = k8Q /\ 32 = 32 /\ ∀ i < 32, (0 : Int) = y.new i) /\ (True /\
 y.data.length = 0) /\ True) /\ True) /\ True /\ R (y.av) []) := by kernel_rfl
theorem vSpoken10 (e y : Ev) (R : AV -> List LObj -> Prop) : (vcA false true 0 [2] Tryz.prog (mkTab [(43, .hand tkR TFieldsL), (44, .lend TStamped)]) (optC (Tryz.f48.body.getD .skip)) ([.unroll 4 3 true (λ _ => [])])
 (finalK Tryz.prog Tryz.f48 (λ x H => ∃ _ : Unit, leSt 0 ⟨[x], H⟩ ⟨[y.av], []⟩ (R y.av []))) (startSt Tryz.f48 ([.agg (cellsK 10 e)]))) = (let Q0 := ((0 : Int) <= 0 /\ (0 : Int) + 1 <= (↑ (1 : Nat) : Int)); True /\ True
 /\ True /\ True /\ (True /\ True) /\ 62 = 62 /\ (True /\ True) /\ 62 = 62 /\ Q0 /\ True /\ Q0 /\ Q0 /\ True /\ True /\ True /\ True /\ True /\ (True /\ True) /\ (True /\ True /\ True /\ True /\ True /\ True /\ True /\
 True /\ True /\ True /\ True /\ True /\ True /\ True /\ True /\ True /\ True /\ True /\ True) /\ ∃ (x : Unit), (((10 : Int) = y.kind /\ e.node = y.node /\ (0 : Int) = y.to /\ (0 : Int) = y.n /\ (True /\ y.keep.length =
 0) /\ (1 = 1 /\ e.conf.length = y.conf.length /\ ∀ i < e.conf.length, nm (e.conf.getD i (0 : Int)) = nm (y.conf.getD i (0 : Int))) /\ ByteArray.mk #[] = bs y.branch /\ (True /\ y.map.length = 0) /\ (True /\ y.edit.length
 = 0) /\ (0 : Int) = y.author /\ ByteArray.mk #[] = bs y.note /\ (0 : Int) = y.ck /\ (0 : Int) = y.client /\ (0 : Int) = y.seq /\ ByteArray.mk #[] = bs y.cbranch /\ (k8Q = k8Q /\ 32 = 32 /\ ∀ i < 32, (0 : Int) = y.old i)
 /\ (k8Q = k8Q /\ 32 = 32 /\ ∀ i < 32, (0 : Int) = y.new i) /\ (True /\ y.data.length = 0) /\ True) /\ True) /\ True /\ R (y.av) []) := by kernel_rfl
theorem vSpoken11 (e y : Ev) (R : AV -> List LObj -> Prop) : (vcA false true 0 [2] Tryz.prog (mkTab [(43, .hand tkR TFieldsL), (44, .lend TStamped)]) (optC (Tryz.f48.body.getD .skip)) ([.unroll 4 3 true (λ _ => [])])
 (finalK Tryz.prog Tryz.f48 (λ x H => ∃ _ : Unit, leSt 0 ⟨[x], H⟩ ⟨[y.av], []⟩ (R y.av []))) (startSt Tryz.f48 ([.agg (cellsK 11 e)]))) = (let Q0 := ((0 : Int) <= 0 /\ (0 : Int) + 1 <= (↑ (1 : Nat) : Int)); True /\ True
 /\ True /\ True /\ (True /\ True) /\ 62 = 62 /\ (True /\ True) /\ 62 = 62 /\ Q0 /\ True /\ Q0 /\ Q0 /\ True /\ True /\ True /\ True /\ True /\ True /\ True /\ (True /\ True) /\ (True /\ True /\ True /\ True /\ True /\
 True /\ True /\ True /\ True /\ True /\ True /\ True /\ True /\ True /\ True /\ True /\ True /\ True /\ True) /\ ∃ (x : Unit), (((11 : Int) = y.kind /\ e.node = y.node /\ (0 : Int) = y.to /\ (0 : Int) = y.n /\ (True /\
 y.keep.length = 0) /\ (True /\ y.conf.length = 0) /\ bs e.branch = bs y.branch /\ (2 = 2 /\ e.map.length = y.map.length /\ ∀ i < e.map.length, AV.agg [sl (e.map.getD i ([], [])).1, sl (e.map.getD i ([], [])).2] = AV.agg
 [sl (y.map.getD i ([], [])).1, sl (y.map.getD i ([], [])).2]) /\ (True /\ y.edit.length = 0) /\ e.author = y.author /\ bs e.note = bs y.note /\ (0 : Int) = y.ck /\ (0 : Int) = y.client /\ (0 : Int) = y.seq /\
 ByteArray.mk #[] = bs y.cbranch /\ (k8Q = k8Q /\ 32 = 32 /\ ∀ i < 32, (0 : Int) = y.old i) /\ (k8Q = k8Q /\ 32 = 32 /\ ∀ i < 32, (0 : Int) = y.new i) /\ (True /\ y.data.length = 0) /\ True) /\ True) /\ True /\ R (y.av)
 []) := by kernel_rfl
theorem vSpoken12 (e y : Ev) (R : AV -> List LObj -> Prop) : (vcA false true 0 [2] Tryz.prog (mkTab [(43, .hand tkR TFieldsL), (44, .lend TStamped)]) (optC (Tryz.f48.body.getD .skip)) ([.unroll 4 3 true (λ _ => [])])
 (finalK Tryz.prog Tryz.f48 (λ x H => ∃ _ : Unit, leSt 0 ⟨[x], H⟩ ⟨[y.av], []⟩ (R y.av []))) (startSt Tryz.f48 ([.agg (cellsK 12 e)]))) = (let Q0 := ((0 : Int) <= 0 /\ (0 : Int) + 1 <= (↑ (1 : Nat) : Int)); True /\ True
 /\ True /\ True /\ (True /\ True) /\ 62 = 62 /\ (True /\ True) /\ 62 = 62 /\ Q0 /\ True /\ Q0 /\ Q0 /\ True /\ True /\ True /\ True /\ True /\ True /\ True /\ (True /\ True) /\ (True /\ True /\ True /\ True /\ True /\
 True /\ True /\ True /\ True /\ True /\ True /\ True /\ True /\ True /\ True /\ True /\ True /\ True /\ True) /\ ∃ (x : Unit), (((12 : Int) = y.kind /\ e.node = y.node /\ (0 : Int) = y.to /\ (0 : Int) = y.n /\ (True /\
 y.keep.length = 0) /\ (True /\ y.conf.length = 0) /\ bs e.branch = bs y.branch /\ (True /\ y.map.length = 0) /\ (3 = 3 /\ e.edit.length = y.edit.length /\ ∀ i < e.edit.length, let Q2 := (y.edit.getD i ([], false, []));
 let Q1 := (e.edit.getD i ([], false, [])); AV.agg [sl Q1.1, bl Q1.2.1, sl Q1.2.2] = AV.agg [sl Q2.1, bl Q2.2.1, sl Q2.2.2]) /\ e.author = y.author /\ bs e.note = bs y.note /\ (0 : Int) = y.ck /\ (0 : Int) = y.client /\
 (0 : Int) = y.seq /\ ByteArray.mk #[] = bs y.cbranch /\ (k8Q = k8Q /\ 32 = 32 /\ ∀ i < 32, (0 : Int) = y.old i) /\ (k8Q = k8Q /\ 32 = 32 /\ ∀ i < 32, (0 : Int) = y.new i) /\ (True /\ y.data.length = 0) /\ True) /\ True)
 /\ True /\ R (y.av) []) := by kernel_rfl
theorem vSpoken13 (e y : Ev) (R : AV -> List LObj -> Prop) : (vcA false true 0 [2] Tryz.prog (mkTab [(43, .hand tkR TFieldsL), (44, .lend TStamped)]) (optC (Tryz.f48.body.getD .skip)) ([.unroll 4 3 true (λ _ => [])])
 (finalK Tryz.prog Tryz.f48 (λ x H => ∃ _ : Unit, leSt 0 ⟨[x], H⟩ ⟨[y.av], []⟩ (R y.av []))) (startSt Tryz.f48 ([.agg (cellsK 13 e)]))) = (let Q0 := ((0 : Int) <= 0 /\ (0 : Int) + 1 <= (↑ (1 : Nat) : Int)); True /\ True
 /\ True /\ True /\ (True /\ True) /\ 62 = 62 /\ (True /\ True) /\ 62 = 62 /\ Q0 /\ True /\ Q0 /\ Q0 /\ True /\ True /\ True /\ True /\ True /\ True /\ True /\ (True /\ True) /\ (True /\ True /\ True /\ True /\ True /\
 True /\ True /\ True /\ True /\ True /\ True /\ True /\ True /\ True /\ True /\ True /\ True /\ True /\ True) /\ ∃ (x : Unit), (((13 : Int) = y.kind /\ e.node = y.node /\ (0 : Int) = y.to /\ (0 : Int) = y.n /\ (True /\
 y.keep.length = 0) /\ (True /\ y.conf.length = 0) /\ bs e.branch = bs y.branch /\ (True /\ y.map.length = 0) /\ (3 = 3 /\ e.edit.length = y.edit.length /\ ∀ i < e.edit.length, let Q2 := (y.edit.getD i ([], false, []));
 let Q1 := (e.edit.getD i ([], false, [])); AV.agg [sl Q1.1, bl Q1.2.1, sl Q1.2.2] = AV.agg [sl Q2.1, bl Q2.2.1, sl Q2.2.2]) /\ e.author = y.author /\ bs e.note = bs y.note /\ (0 : Int) = y.ck /\ (0 : Int) = y.client /\
 (0 : Int) = y.seq /\ ByteArray.mk #[] = bs y.cbranch /\ (k8Q = k8Q /\ 32 = 32 /\ ∀ i < 32, (0 : Int) = y.old i) /\ (k8Q = k8Q /\ 32 = 32 /\ ∀ i < 32, (0 : Int) = y.new i) /\ (True /\ y.data.length = 0) /\ True) /\ True)
 /\ True /\ R (y.av) []) := by kernel_rfl
theorem vSpoken14 (e y : Ev) (R : AV -> List LObj -> Prop) : (vcA false true 0 [2] Tryz.prog (mkTab [(43, .hand tkR TFieldsL), (44, .lend TStamped)]) (optC (Tryz.f48.body.getD .skip)) ([.unroll 4 3 true (λ _ => [])])
 (finalK Tryz.prog Tryz.f48 (λ x H => ∃ _ : Unit, leSt 0 ⟨[x], H⟩ ⟨[y.av], []⟩ (R y.av []))) (startSt Tryz.f48 ([.agg (cellsK 14 e)]))) = (let Q1 := ((0 : Int) <= k64Q.wrap ((0 : Int) + 1) /\ k64Q.wrap ((0 : Int) + 1) +
 1 <= (↑ (2 : Nat) : Int)); let Q0 := ((0 : Int) <= 0 /\ (0 : Int) + 1 <= (↑ (2 : Nat) : Int)); True /\ True /\ True /\ True /\ (True /\ True) /\ 62 = 62 /\ (True /\ True) /\ 62 = 62 /\ Q0 /\ True /\ Q0 /\ Q0 /\ True /\
 True /\ True /\ Q1 /\ True /\ ((0 : Int) ≤ k64Q.wrap ((0 : Int) + 1) /\ k64Q.wrap ((0 : Int) + 1) + 1 <= (↑ (2 : Nat) : Int)) /\ Q1 /\ True /\ True /\ True /\ True /\ True /\ True /\ (True /\ True) /\ (True /\ True /\
 True /\ True /\ True /\ True /\ True /\ True /\ True /\ True /\ True /\ True /\ True /\ True /\ True /\ True /\ True /\ True /\ True) /\ ∃ (x : Unit), (((14 : Int) = y.kind /\ e.node = y.node /\ (0 : Int) = y.to /\ (0 :
 Int) = y.n /\ (True /\ y.keep.length = 0) /\ (True /\ y.conf.length = 0) /\ ByteArray.mk #[] = bs y.branch /\ (True /\ y.map.length = 0) /\ (True /\ y.edit.length = 0) /\ (0 : Int) = y.author /\ ByteArray.mk #[] = bs
 y.note /\ e.ck = y.ck /\ (0 : Int) = y.client /\ (0 : Int) = y.seq /\ bs e.cbranch = bs y.cbranch /\ (k8Q = k8Q /\ 32 = 32 /\ ∀ i < 32, (0 : Int) = y.old i) /\ (k8Q = k8Q /\ 32 = 32 /\ ∀ i < 32, e.new i = y.new i) /\
 (True /\ y.data.length = 0) /\ True) /\ True) /\ True /\ R (y.av) []) := by kernel_rfl
theorem vSpoken15 (e y : Ev) (R : AV -> List LObj -> Prop) : (vcA false true 0 [2] Tryz.prog (mkTab [(43, .hand tkR TFieldsL), (44, .lend TStamped)]) (optC (Tryz.f48.body.getD .skip)) ([.unroll 4 3 true (λ _ => [])])
 (finalK Tryz.prog Tryz.f48 (λ x H => ∃ _ : Unit, leSt 0 ⟨[x], H⟩ ⟨[y.av], []⟩ (R y.av []))) (startSt Tryz.f48 ([.agg (cellsK 15 e)]))) = (let Q1 := ((0 : Int) <= k64Q.wrap ((0 : Int) + 1) /\ k64Q.wrap ((0 : Int) + 1) +
 1 <= (↑ (2 : Nat) : Int)); let Q0 := ((0 : Int) <= 0 /\ (0 : Int) + 1 <= (↑ (2 : Nat) : Int)); True /\ True /\ True /\ True /\ (True /\ True) /\ 62 = 62 /\ (True /\ True) /\ 62 = 62 /\ Q0 /\ True /\ Q0 /\ Q0 /\ True /\
 True /\ True /\ Q1 /\ True /\ ((0 : Int) ≤ k64Q.wrap ((0 : Int) + 1) /\ k64Q.wrap ((0 : Int) + 1) + 1 <= (↑ (2 : Nat) : Int)) /\ Q1 /\ True /\ True /\ True /\ True /\ (True /\ True) /\ (True /\ True /\ True /\ True /\
 True /\ True /\ True /\ True /\ True /\ True /\ True /\ True /\ True /\ True /\ True /\ True /\ True /\ True /\ True) /\ ∃ (x : Unit), (((15 : Int) = y.kind /\ e.node = y.node /\ e.to = y.to /\ (0 : Int) = y.n /\ (True
 /\ y.keep.length = 0) /\ (True /\ y.conf.length = 0) /\ ByteArray.mk #[] = bs y.branch /\ (True /\ y.map.length = 0) /\ (True /\ y.edit.length = 0) /\ (0 : Int) = y.author /\ ByteArray.mk #[] = bs y.note /\ (0 : Int) =
 y.ck /\ (0 : Int) = y.client /\ (0 : Int) = y.seq /\ ByteArray.mk #[] = bs y.cbranch /\ (k8Q = k8Q /\ 32 = 32 /\ ∀ i < 32, (0 : Int) = y.old i) /\ (k8Q = k8Q /\ 32 = 32 /\ ∀ i < 32, (0 : Int) = y.new i) /\ (True /\
 y.data.length = 0) /\ True) /\ True) /\ True /\ R (y.av) []) := by kernel_rfl
theorem vWrong (e : Ev) (inv1 inv2 : Nat -> Prop) (R : AV -> List LObj -> Prop) : (vcA false false 0 [] Tryz.prog (mkTab [(48, .lend TSpoken), (31, .lend TSameEv), (49, .lend TLong)]) (optC (Tryz.f25.body.getD .skip))
 ([.loop 7 Nat inv1 (λ i => ⟨slotsOf 98 0 [(1, .ptr 0 0 0 0), (3, .pl (.func (.func 49) ⟨[]⟩ ⟨[]⟩)), (58, mapAV e.map), (59, nm e.map.length), (60, nm i)], [.box tyEv e.cells]⟩) (λ i => e.map.length - i) (λ _ =>
 []), .loop 13 Nat inv2 (λ i => ⟨slotsOf 98 0 [(1, .ptr 0 0 0 0), (3, .pl (.func (.func 49) ⟨[]⟩ ⟨[]⟩)), (74, editAV e.edit), (75, nm e.edit.length), (76, nm i)], [.box tyEv e.cells]⟩) (λ i => e.edit.length - i) (fun
 _ => [])]) (finalK Tryz.prog Tryz.f25 (R)) (startSt Tryz.f25 ([e.av]))) = (let Q11 := (↑e.conf.length : Int); let Q10 := (bif decide (e.kind < 1) then true else decide (e.kind > 15)); let Q9 := (true = true -> (True /\
 True) /\ True /\ R (bl true) []); let Q8 := (AV.rows 1 3 λ (i : Nat) => rowOf [((0 : Nat), sl e.branch), ((1 : Nat), sl e.note), ((2 : Nat), sl e.cbranch)] ((0 : Nat) + i)); let Q7 := (((0 : Nat) + 2).le (2 : Nat) /\
 True); let Q6 := (True /\ 0 = 0 /\ 0 = 0 /\ 0 = 0); let Q5 := (2 = 2 /\ e.map.length = e.map.length /\ ∀ i < e.map.length, rowF e.map i = rowF e.map i); let Q4 := (↑e.edit.length : Int); let Q3 := (3 = 3 /\ e.edit.length
 = e.edit.length /\ ∀ i < e.edit.length, chgF e.edit i = chgF e.edit i); let Q2 := (bif decide ((↑e.keep.length : Int) > 2048) then true else decide ((if Q4 > if (↑e.map.length : Int) > Q11 then (↑e.map.length : Int) else
 Q11 then Q4 else if (↑e.map.length : Int) > Q11 then (↑e.map.length : Int) else Q11) > 40)); let Q0 := ((62 = 62 /\ e.kind = e.kind /\ e.node = e.node /\ e.to = e.to /\ e.n = e.n /\ (1 = 1 /\ e.keep.length =
 e.keep.length /\ ∀ i < e.keep.length, boolF e.keep i = boolF e.keep i) /\ (1 = 1 /\ e.conf.length = e.conf.length /\ ∀ i < e.conf.length, intF e.conf i = intF e.conf i) /\ bs e.branch = bs e.branch /\ Q5 /\ Q3 /\
 e.author = e.author /\ bs e.note = bs e.note /\ e.ck = e.ck /\ e.client = e.client /\ e.seq = e.seq /\ bs e.cbranch = bs e.cbranch /\ (k8Q = k8Q /\ 32 = 32 /\ ∀ i < 32, e.old i = e.old i) /\ (k8Q = k8Q /\ 32 = 32 /\ ∀ i
 < 32, e.new i = e.new i) /\ (1 = 1 /\ e.data.length = e.data.length /\ ∀ i < e.data.length, byteF (bs e.data) i = byteF (bs e.data) i) /\ True) /\ True); let Q1 := (∃ (x : Nat), (Q6 /\ Value.func (Fn.func (49 : Nat))
 (Array.mk []) (Array.mk []) = Value.func (Fn.func (49 : Nat)) (Array.mk []) (Array.mk []) /\ Q5 /\ (↑e.map.length : Int) = (↑e.map.length : Int) /\ (0 : Int) = (x : Int) /\ True) /\ Q0 /\ inv1 x); True /\ (gEq Q10 false
 = true -> ∃ (e_1 : Ev), (IsEv (e.av) e_1 /\ (1 : Int) <= e_1.kind /\ e_1.kind <= 15) /\ ∃ (a : Ev), ∃ (b : Ev), (IsEv (e.av) a /\ IsEv ((spokenE e_1).av) b) /\ true = true /\ ((bif false then true else !sameE a b) = true
 -> (True /\ True) /\ True /\ R (bl true) []) /\ ((bif false then true else !sameE a b) = false -> (gEq Q2 false = true -> True /\ (((0 : Nat) + 3).le (3 : Nat) /\ True) /\ ∃ (ls : List Bs), (IsTexts Q8 ls /\ ls.length.le
 (1000 : Nat)) /\ True /\ True /\ true = true /\ ((bif false then true else ls.any longB) = true -> (True /\ True) /\ True /\ R (bl true) []) /\ ((bif false then true else ls.any longB) = false -> Q1 /\ ∀ (x : Nat), inv1
 x -> (decide ((x : Int) < (↑e.map.length : Int)) = true -> ((0 : Int) <= (x : Int) /\ (x : Int) + 1 <= (↑e.map.length : Int)) /\ True /\ True /\ True /\ Q7 /\ ∃ (ls : List Bs), (IsTexts (AV.rows 1 2 λ (i : Nat) =>
 rowOf [((0 : Nat), sl (e.map.getD (x : Int).toNat ([], [])).1), ((1 : Nat), sl (e.map.getD (x : Int).toNat ([], [])).2)] ((0 : Nat) + i)) ls /\ ls.length.le (1000 : Nat)) /\ True /\ True /\ (ls.any longB = true ->
 (True /\ True) /\ True /\ R (bl true) []) /\ (ls.any longB = false -> ∃ (y : Nat), (Q6 /\ Value.func (Fn.func (49 : Nat)) (Array.mk []) (Array.mk []) = Value.func (Fn.func (49 : Nat)) (Array.mk []) (Array.mk []) /\ Q5 /\
 (↑e.map.length : Int) = (↑e.map.length : Int) /\ k64Q.wrap ((x : Int) + 1) = (y : Int) /\ True) /\ Q0 /\ inv1 y /\ (e.map.length - y).succ.le (e.map.length - x))) /\ (decide ((x : Int) < (↑e.map.length : Int)) = false
 -> (∃ (x : Nat), (Q6 /\ Value.func (Fn.func (49 : Nat)) (Array.mk []) (Array.mk []) = Value.func (Fn.func (49 : Nat)) (Array.mk []) (Array.mk []) /\ Q3 /\ Q4 = Q4 /\ (0 : Int) = (x : Int) /\ True) /\ Q0 /\ inv2 x) /\ ∀
 (x : Nat), let Q12 := (e.edit.getD (x : Int).toNat ([], false, [])); inv2 x -> (decide ((x : Int) < Q4) = true -> ((0 : Int) <= (x : Int) /\ (x : Int) + 1 <= Q4) /\ True /\ True /\ True /\ Q7 /\ ∃ (ls : List Bs), let
 Q13 := (bif ls.any longB then true else bif ! Q12.2.1 then ! (bs Q12.2.2).toList == (ByteArray.mk #[]).toList else false); (IsTexts (AV.rows 1 2 λ (i : Nat) => rowOf [((0 : Nat), sl Q12.1), ((1 : Nat), sl Q12.2.2)] ((0
 : Nat) + i)) ls /\ ls.length.le (1000 : Nat)) /\ True /\ True /\ (Q13 = true -> (True /\ True) /\ True /\ R (bl true) []) /\ (Q13 = false -> ∃ (y : Nat), (Q6 /\ Value.func (Fn.func (49 : Nat)) (Array.mk []) (Array.mk [])
 = Value.func (Fn.func (49 : Nat)) (Array.mk []) (Array.mk []) /\ Q3 /\ Q4 = Q4 /\ k64Q.wrap ((x : Int) + 1) = (y : Int) /\ True) /\ Q0 /\ inv2 y /\ (e.edit.length - y).succ.le (e.edit.length - x))) /\ (decide ((↑x :
 Int) < Q4) = false -> (True /\ True) /\ True /\ R (bl false) [])))) /\ (gEq Q2 false = false -> true = true /\ Q9 /\ (true = false -> Q1 /\ ∀ (x : Nat), inv1 x -> (decide ((x : Int) < (↑e.map.length : Int)) = true ->
 ((0 : Int) <= (x : Int) /\ (x : Int) + 1 <= (↑e.map.length : Int)) /\ True /\ True /\ True /\ Q7 /\ ∃ (ls : List Bs), (IsTexts (AV.rows 1 2 λ (i : Nat) => rowOf [((0 : Nat), sl (e.map.getD (x : Int).toNat ([],
 [])).1), ((1 : Nat), sl (e.map.getD (x : Int).toNat ([], [])).2)] ((0 : Nat) + i)) ls /\ ls.length.le (1000 : Nat)) /\ True /\ True /\ (ls.any longB = true -> (True /\ True) /\ True /\ R (bl true) []) /\ (ls.any longB =
 false -> ∃ (y : Nat), (Q6 /\ Value.func (Fn.func (49 : Nat)) (Array.mk []) (Array.mk []) = Value.func (Fn.func (49 : Nat)) (Array.mk []) (Array.mk []) /\ Q5 /\ (↑e.map.length : Int) = (↑e.map.length : Int) /\ k64Q.wrap
 ((x : Int) + 1) = (y : Int) /\ True) /\ Q0 /\ inv1 y /\ (e.map.length - y).succ.le (e.map.length - x))) /\ (decide ((x : Int) < (↑e.map.length : Int)) = false -> (∃ (x : Nat), (Q6 /\ Value.func (Fn.func (49 : Nat))
 (Array.mk []) (Array.mk []) = Value.func (Fn.func (49 : Nat)) (Array.mk []) (Array.mk []) /\ Q3 /\ Q4 = Q4 /\ (0 : Int) = (x : Int) /\ True) /\ Q0 /\ inv2 x) /\ ∀ (x : Nat), let Q14 := (e.edit.getD (x : Int).toNat ([],
 false, [])); inv2 x -> (decide ((x : Int) < Q4) = true -> ((0 : Int) <= (x : Int) /\ (x : Int) + 1 <= Q4) /\ True /\ True /\ True /\ Q7 /\ ∃ (ls : List Bs), let Q15 := (bif ls.any longB then true else bif ! Q14.2.1
 then ! (bs Q14.2.2).toList == (ByteArray.mk #[]).toList else false); (IsTexts (AV.rows 1 2 λ (i : Nat) => rowOf [((0 : Nat), sl Q14.1), ((1 : Nat), sl Q14.2.2)] ((0 : Nat) + i)) ls /\ ls.length.le (1000 : Nat)) /\ True
 /\ True /\ (Q15 = true -> (True /\ True) /\ True /\ R (bl true) []) /\ (Q15 = false -> ∃ (y : Nat), (Q6 /\ Value.func (Fn.func (49 : Nat)) (Array.mk []) (Array.mk []) = Value.func (Fn.func (49 : Nat)) (Array.mk [])
 (Array.mk []) /\ Q3 /\ Q4 = Q4 /\ k64Q.wrap ((x : Int) + 1) = (y : Int) /\ True) /\ Q0 /\ inv2 y /\ (e.edit.length - y).succ.le (e.edit.length - x))) /\ (decide ((x : Int) < Q4) = false -> (True /\ True) /\ True /\ R
 (bl false) [])))))) /\ (gEq Q10 false = false -> true = true /\ Q9 /\ (true = false -> (gEq Q2 false = true -> True /\ (((0 : Nat) + 3).le (3 : Nat) /\ True) /\ ∃ (ls : List Bs), (IsTexts Q8 ls /\ ls.length.le (1000 :
 Nat)) /\ True /\ True /\ true = true /\ ((bif false then true else ls.any longB) = true -> (True /\ True) /\ True /\ R (bl true) []) /\ ((bif false then true else ls.any longB) = false -> Q1 /\ ∀ (x : Nat), inv1 x ->
 (decide ((x : Int) < (↑e.map.length : Int)) = true -> ((0 : Int) <= (x : Int) /\ (x : Int) + 1 ≤ (↑e.map.length : Int)) /\ True /\ True /\ True /\ Q7 /\ ∃ (ls : List Bs), (IsTexts (AV.rows 1 2 λ (i : Nat) => rowOf
 [((0 : Nat), sl (e.map.getD (x : Int).toNat ([], [])).1), ((1 : Nat), sl (e.map.getD (x : Int).toNat ([], [])).2)] ((0 : Nat) + i)) ls /\ ls.length.le (1000 : Nat)) /\ True /\ True /\ (ls.any longB = true -> (True /\
 True) /\ True /\ R (bl true) []) /\ (ls.any longB = false -> ∃ (y : Nat), (Q6 /\ Value.func (Fn.func (49 : Nat)) (Array.mk []) (Array.mk []) = Value.func (Fn.func (49 : Nat)) (Array.mk []) (Array.mk []) /\ Q5 /\
 (↑e.map.length : Int) = (↑e.map.length : Int) /\ k64Q.wrap ((x : Int) + 1) = (y : Int) /\ True) /\ Q0 /\ inv1 y /\ (e.map.length - y).succ.le (e.map.length - x))) /\ (decide ((x : Int) < (↑e.map.length : Int)) = false
 -> (∃ (x : Nat), (Q6 /\ Value.func (Fn.func (49 : Nat)) (Array.mk []) (Array.mk []) = Value.func (Fn.func (49 : Nat)) (Array.mk []) (Array.mk []) /\ Q3 /\ Q4 = Q4 /\ (0 : Int) = (x : Int) /\ True) /\ Q0 /\ inv2 x) /\ ∀
 (x : Nat), let Q16 := (e.edit.getD (x : Int).toNat ([], false, [])); inv2 x -> (decide ((x : Int) < Q4) = true -> ((0 : Int) <= (x : Int) /\ (x : Int) + 1 <= Q4) /\ True /\ True /\ True /\ Q7 /\ ∃ (ls : List Bs), let
 Q17 := (bif ls.any longB then true else bif ! Q16.2.1 then ! (bs Q16.2.2).toList == (ByteArray.mk #[]).toList else false); (IsTexts (AV.rows 1 2 λ (i : Nat) => rowOf [((0 : Nat), sl Q16.1), ((1 : Nat), sl Q16.2.2)] ((0
 : Nat) + i)) ls /\ ls.length.le (1000 : Nat)) /\ True /\ True /\ (Q17 = true -> (True /\ True) /\ True /\ R (bl true) []) /\ (Q17 = false -> ∃ (y : Nat), (Q6 /\ Value.func (Fn.func (49 : Nat)) (Array.mk []) (Array.mk [])
 = Value.func (Fn.func (49 : Nat)) (Array.mk []) (Array.mk []) /\ Q3 /\ Q4 = Q4 /\ k64Q.wrap ((x : Int) + 1) = (y : Int) /\ True) /\ Q0 /\ inv2 y /\ (e.edit.length - y).succ.le (e.edit.length - x))) /\ (decide ((↑x :
 Int) < Q4) = false -> (True /\ True) /\ True /\ R (bl false) [])))) /\ (gEq Q2 false = false -> true = true /\ Q9 /\ (true = false -> Q1 /\ ∀ (x : Nat), inv1 x -> (decide ((x : Int) < (↑e.map.length : Int)) = true ->
 ((0 : Int) <= (x : Int) /\ (x : Int) + 1 <= (↑e.map.length : Int)) /\ True /\ True /\ True /\ Q7 /\ ∃ (ls : List Bs), (IsTexts (AV.rows 1 2 λ (i : Nat) => rowOf [((0 : Nat), sl (e.map.getD (x : Int).toNat ([],
 [])).1), ((1 : Nat), sl (e.map.getD (x : Int).toNat ([], [])).2)] ((0 : Nat) + i)) ls /\ ls.length.le (1000 : Nat)) /\ True /\ True /\ (ls.any longB = true -> (True /\ True) /\ True /\ R (bl true) []) /\ (ls.any longB =
 false -> ∃ (y : Nat), (Q6 /\ Value.func (Fn.func (49 : Nat)) (Array.mk []) (Array.mk []) = Value.func (Fn.func (49 : Nat)) (Array.mk []) (Array.mk []) /\ Q5 /\ (↑e.map.length : Int) = (↑e.map.length : Int) /\ k64Q.wrap
 ((x : Int) + 1) = (y : Int) /\ True) /\ Q0 /\ inv1 y /\ (e.map.length - y).succ.le (e.map.length - x))) /\ (decide ((x : Int) < (↑e.map.length : Int)) = false -> (∃ (x : Nat), (Q6 /\ Value.func (Fn.func (49 : Nat))
 (Array.mk []) (Array.mk []) = Value.func (Fn.func (49 : Nat)) (Array.mk []) (Array.mk []) /\ Q3 /\ Q4 = Q4 /\ (0 : Int) = (x : Int) /\ True) /\ Q0 /\ inv2 x) /\ ∀ (x : Nat), let Q18 := (e.edit.getD (x : Int).toNat ([],
 false, [])); inv2 x -> (decide ((x : Int) < Q4) = true -> ((0 : Int) <= (x : Int) /\ (x : Int) + 1 ≤ Q4) /\ True /\ True /\ True /\ Q7 /\ ∃ (ls : List Bs), let Q19 := (bif ls.any longB then true else bif ! Q18.2.1
 then ! (bs Q18.2.2).toList == (ByteArray.mk #[]).toList else false); (IsTexts (AV.rows 1 2 λ (i : Nat) => rowOf [((0 : Nat), sl Q18.1), ((1 : Nat), sl Q18.2.2)] ((0 : Nat) + i)) ls /\ ls.length.le (1000 : Nat)) /\ True
 /\ True /\ (Q19 = true -> (True /\ True) /\ True /\ R (bl true) []) /\ (Q19 = false -> ∃ (y : Nat), (Q6 /\ Value.func (Fn.func (49 : Nat)) (Array.mk []) (Array.mk []) = Value.func (Fn.func (49 : Nat)) (Array.mk [])
 (Array.mk []) /\ Q3 /\ Q4 = Q4 /\ k64Q.wrap ((x : Int) + 1) = (y : Int) /\ True) /\ Q0 /\ inv2 y /\ (e.edit.length - y).succ.le (e.edit.length - x))) /\ (decide ((x : Int) < Q4) = false -> (True /\ True) /\ True /\ R
 (bl false) []))))))) := by kernel_rfl
theorem vIdxW (l : List Ev) (inv : Nat -> Prop) (R : AV -> List LObj -> Prop) : (vcA false false 0 [] Tryz.prog (mkTab [(25, .lend TWrong)]) (optC (Tryz.f47.body.getD .skip)) ([.loop 2 Nat inv (λ i => ⟨slotsOf 19 0
 [(0, evsAV l), (1, fnWrong), (7, nm l.length), (8, nm i)], []⟩) (λ i => l.length - i) (λ _ => [])]) (finalK Tryz.prog Tryz.f47 (R)) (startSt Tryz.f47 ([evsAV l, fnWrong]))) = (let Q0 := (80 = 80 /\ l.length =
 l.length /\ ∀ i < l.length, evF l i = evF l i); (∃ (x : Nat), (Q0 /\ Value.func (Fn.func (25 : Nat)) (Array.mk []) (Array.mk []) = Value.func (Fn.func (25 : Nat)) (Array.mk []) (Array.mk []) /\ (l.length : Int) =
 (l.length : Int) /\ (0 : Int) = (x : Int) /\ True) /\ True /\ inv x) /\ ∀ (x : Nat), inv x -> (decide ((x : Int) < (l.length : Int)) = true -> ((0 : Int) <= (x : Int) /\ (x : Int) + 1 <= (l.length : Int)) /\ ∃ (e
 : Ev), IsEv ((evAt l (x : Int).toNat).av) e /\ (wrongE e = true -> (True /\ True) /\ True /\ R (nm (x : Int)) []) /\ (wrongE e = false -> ∃ (y : Nat), (Q0 /\ Value.func (Fn.func (25 : Nat)) (Array.mk []) (Array.mk [])
 = Value.func (Fn.func (25 : Nat)) (Array.mk []) (Array.mk []) /\ (l.length : Int) = (l.length : Int) /\ k64Q.wrap ((x : Int) + 1) = (y : Int) /\ True) /\ True /\ inv y /\ (l.length - y).succ.le (l.length - x))) /\
 (decide ((x : Int) < (l.length : Int)) = false -> (True /\ True) /\ True /\ R (nm (-1 : Int)) [])) := by kernel_rfl
theorem vContW (l : List Ev) (R : AV -> List LObj -> Prop) :
  (vcA false false 0 [] Tryz.prog (mkTab [(47, .lend TIdxW)]) (optC (Tryz.f24.body.getD .skip)) ([]) (finalK Tryz.prog Tryz.f24 (R)) (startSt Tryz.f24 ([evsAV l, fnWrong]))) = (
 ∃ (l_1 : List Ev), IsEvs (AV.rows 80 l.length (evF l)) l_1 /\ (True /\ True) /\ True /\ R (bl (decide (idxW l_1 ≥ (0 : Int)))) []) := by kernel_rfl
theorem vCheck (a b c : Int) (l : List Ev) (R : AV -> List LObj -> Prop) : (vcA false false 0 [] Tryz.prog (mkTab [(24, .lend TContW)]) (optC (Tryz.f9.body.getD .skip)) ([]) (finalK Tryz.prog Tryz.f9 (R)) (startSt
 Tryz.f9 ([.agg [nm a, nm b, nm c, evsAV l]]))) = (True /\ (gEq (decide ((l.length : Int) > 300)) false = true -> ∃ (l_1 : List Ev), IsEvs (AV.rows 80 l.length (evF l)) l_1 /\ true = true /\ ((bif false then true else
 l_1.any wrongE) = true -> (True /\ True) /\ True /\ R (nm 2) []) /\ ((bif false then true else l_1.any wrongE) = false -> (True /\ True) /\ True /\ R (nm 0) [])) /\ (gEq (decide ((l.length : Int) > 300)) false = false
 -> true = true /\ (true = true -> (True /\ True) /\ True /\ R (nm 2) []) /\ (true = false -> (True /\ True) /\ True /\ R (nm 0) []))) := by kernel_rfl
end Go.Proofs.Sz
