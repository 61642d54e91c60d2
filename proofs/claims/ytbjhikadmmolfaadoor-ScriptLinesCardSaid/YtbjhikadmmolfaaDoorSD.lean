/- A seat of the scripts: conditions of which events may be. -/
import Derived.Test.YtbjhikadmmolfaaDoorSC
set_option linter.unusedSectionVars false
set_option linter.unusedVariables false
set_option linter.unusedSimpArgs false
set_option maxRecDepth 100000
set_option maxHeartbeats 4000000
namespace Go.Proofs.Sd
open Go Go.Am Go.SP
theorem vSame (a b : Ev) (R : AV -> List LObj -> Prop) :
  (vcA false false 0 [] Tryd.prog (mkTab [(68, .lend TEqBytes), (13, .lend TEqBool), (69, .lend TEqInt), (70, .lend TSameMap), (71, .lend TSameEdit)]) (optC (Tryd.f55.body.getD .skip)) ([]) (finalK Tryd.prog Tryd.f55 (R)) (startSt Tryd.f55 ([a.av, b.av]))) = (
 True /\ True /\ (True /\ True /\ True /\ True /\ (gEq (bif bif bif bif bif a.ck == b.ck then a.client == b.client else false then a.seq == b.seq else false then (bs
 a.cbranch).toList == (bs b.cbranch).toList else false then (List.range (32 : Nat)).all fun (i : Nat) => a.old i == b.old i else false then (List.range (32 :
 Nat)).all fun (i : Nat) => a.new i == b.new i else false) true = true -> ∃ (a_2 : Bs), ∃ (b_1 : Bs), (IsRow8 (AV.rows 1 (List.length a.data) (byteF (bs a.data)))
 a_2 /\ IsRow8 (AV.rows 1 (List.length b.data) (byteF (bs b.data))) b_1) /\ true = true /\ (gEq (bif bif true then a_2 == b_1 else false then bif bif bif bif bif
 a.kind == b.kind then a.node == b.node else false then a.to == b.to else false then a.n == b.n else false then (bs a.branch).toList == (bs b.branch).toList else
 false then a.author == b.author && ((bs a.note).toList == (bs b.note).toList && true) else false else false) true = true -> ∃ (a_4 : List Bool), ∃ (b_2 : List
 Bool), (IsBools (AV.rows 1 a.keep.length (boolF a.keep)) a_4 /\ IsBools (AV.rows 1 b.keep.length (boolF b.keep)) b_2) /\ true = true /\ (gEq (bif true then a_4 ==
 b_2 else false) true = true -> ∃ (a_6 : List Int), ∃ (b_3 : List Int), (IsInts0 (AV.rows 1 a.conf.length (intF a.conf)) a_6 /\ IsInts0 (AV.rows 1 b.conf.length
 (intF b.conf)) b_3) /\ true = true /\ (gEq (bif true then a_6 == b_3 else false) true = true -> ∃ (a_8 : List (Bs × Bs)), ∃ (b_4 : List (Bs × Bs)), (IsMap (AV.rows
 2 a.map.length (rowF a.map)) a_8 /\ IsMap (AV.rows 2 b.map.length (rowF b.map)) b_4) /\ true = true /\ (gEq (bif true then a_8 == b_4 else false) true = true -> ∃
 (a_10 : List (Bs × Bool × Bs)), ∃ (b_5 : List (Bs × Bool × Bs)), (IsEdit (AV.rows 3 a.edit.length (chgF a.edit)) a_10 /\ IsEdit (AV.rows 3 b.edit.length (chgF
 b.edit)) b_5) /\ true = true /\ (True /\ True) /\ True /\ R (bl (bif true then a_10 == b_5 else false)) []) /\ (gEq (bif true then a_8 == b_4 else false) true = false
 -> true = true /\ (True /\ True) /\ True /\ R (bl false) [])) /\ (gEq (bif true then a_6 == b_3 else false) true = false -> true = true /\ (gEq false true = true -> ∃
 (a_9 : List (Bs × Bool × Bs)), ∃ (b_4 : List (Bs × Bool × Bs)), (IsEdit (AV.rows 3 a.edit.length (chgF a.edit)) a_9 /\ IsEdit (AV.rows 3 b.edit.length (chgF
 b.edit)) b_4) /\ true = true /\ (True /\ True) /\ True /\ R (bl (bif true then a_9 == b_4 else false)) []) /\ (gEq false true = false -> true = true /\ (True /\ True) /\
 True /\ R (bl false) []))) /\ (gEq (bif true then a_4 == b_2 else false) true = false -> true = true /\ (gEq false true = true -> ∃ (a_7 : List (Bs × Bs)), ∃ (b_3 :
 List (Bs × Bs)), (IsMap (AV.rows 2 a.map.length (rowF a.map)) a_7 /\ IsMap (AV.rows 2 b.map.length (rowF b.map)) b_3) /\ true = true /\ (gEq (bif true then a_7 ==
 b_3 else false) true = true -> ∃ (a_9 : List (Bs × Bool × Bs)), ∃ (b_4 : List (Bs × Bool × Bs)), (IsEdit (AV.rows 3 a.edit.length (chgF a.edit)) a_9 /\ IsEdit
 (AV.rows 3 b.edit.length (chgF b.edit)) b_4) /\ true = true /\ (True /\ True) /\ True /\ R (bl (bif true then a_9 == b_4 else false)) []) /\ (gEq (bif true then a_7 ==
 b_3 else false) true = false -> true = true /\ (True /\ True) /\ True /\ R (bl false) [])) /\ (gEq false true = false -> true = true /\ (gEq false true = true -> ∃ (a_8 :
 List (Bs × Bool × Bs)), ∃ (b_3 : List (Bs × Bool × Bs)), (IsEdit (AV.rows 3 a.edit.length (chgF a.edit)) a_8 /\ IsEdit (AV.rows 3 b.edit.length (chgF b.edit))
 b_3) /\ true = true /\ (True /\ True) /\ True /\ R (bl (bif true then a_8 == b_3 else false)) []) /\ (gEq false true = false -> true = true /\ (True /\ True) /\ True /\ R
 (bl false) [])))) /\ (gEq (bif bif true then a_2 == b_1 else false then bif bif bif bif bif a.kind == b.kind then a.node == b.node else false then a.to == b.to
 else false then a.n == b.n else false then (bs a.branch).toList == (bs b.branch).toList else false then a.author == b.author && ((bs a.note).toList == (bs
 b.note).toList && true) else false else false) true = false -> true = true /\ (gEq false true = true -> ∃ (a_5 : List Int), ∃ (b_2 : List Int), (IsInts0 (AV.rows 1
 a.conf.length (intF a.conf)) a_5 /\ IsInts0 (AV.rows 1 b.conf.length (intF b.conf)) b_2) /\ true = true /\ (gEq (bif true then a_5 == b_2 else false) true = true ->
 ∃ (a_7 : List (Bs × Bs)), ∃ (b_3 : List (Bs × Bs)), (IsMap (AV.rows 2 a.map.length (rowF a.map)) a_7 /\ IsMap (AV.rows 2 b.map.length (rowF b.map)) b_3) /\ true =
 true /\ (gEq (bif true then a_7 == b_3 else false) true = true -> ∃ (a_9 : List (Bs × Bool × Bs)), ∃ (b_4 : List (Bs × Bool × Bs)), (IsEdit (AV.rows 3
 a.edit.length (chgF a.edit)) a_9 /\ IsEdit (AV.rows 3 b.edit.length (chgF b.edit)) b_4) /\ true = true /\ (True /\ True) /\ True /\ R (bl (bif true then a_9 == b_4
 else false)) []) /\ (gEq (bif true then a_7 == b_3 else false) true = false -> true = true /\ (True /\ True) /\ True /\ R (bl false) [])) /\ (gEq (bif true then a_5 ==
 b_2 else false) true = false -> true = true /\ (gEq false true = true -> ∃ (a_8 : List (Bs × Bool × Bs)), ∃ (b_3 : List (Bs × Bool × Bs)), (IsEdit (AV.rows 3
 a.edit.length (chgF a.edit)) a_8 /\ IsEdit (AV.rows 3 b.edit.length (chgF b.edit)) b_3) /\ true = true /\ (True /\ True) /\ True /\ R (bl (bif true then a_8 == b_3
 else false)) []) /\ (gEq false true = false -> true = true /\ (True /\ True) /\ True /\ R (bl false) []))) /\ (gEq false true = false -> true = true /\ (gEq false true =
 true -> ∃ (a_6 : List (Bs × Bs)), ∃ (b_2 : List (Bs × Bs)), (IsMap (AV.rows 2 a.map.length (rowF a.map)) a_6 /\ IsMap (AV.rows 2 b.map.length (rowF b.map)) b_2) /\
 true = true /\ (gEq (bif true then a_6 == b_2 else false) true = true -> ∃ (a_8 : List (Bs × Bool × Bs)), ∃ (b_3 : List (Bs × Bool × Bs)), (IsEdit (AV.rows 3
 a.edit.length (chgF a.edit)) a_8 /\ IsEdit (AV.rows 3 b.edit.length (chgF b.edit)) b_3) /\ true = true /\ (True /\ True) /\ True /\ R (bl (bif true then a_8 == b_3
 else false)) []) /\ (gEq (bif true then a_6 == b_2 else false) true = false -> true = true /\ (True /\ True) /\ True /\ R (bl false) [])) /\ (gEq false true = false ->
 true = true /\ (gEq false true = true -> ∃ (a_7 : List (Bs × Bool × Bs)), ∃ (b_2 : List (Bs × Bool × Bs)), (IsEdit (AV.rows 3 a.edit.length (chgF a.edit)) a_7 /\
 IsEdit (AV.rows 3 b.edit.length (chgF b.edit)) b_2) /\ true = true /\ (True /\ True) /\ True /\ R (bl (bif true then a_7 == b_2 else false)) []) /\ (gEq false true =
 false -> true = true /\ (True /\ True) /\ True /\ R (bl false) []))))) /\ (gEq (bif bif bif bif bif a.ck == b.ck then a.client == b.client else false then a.seq ==
 b.seq else false then (bs a.cbranch).toList == (bs b.cbranch).toList else false then (List.range (32 : Nat)).all fun (i : Nat) => a.old i == b.old i else false
 then (List.range (32 : Nat)).all fun (i : Nat) => a.new i == b.new i else false) true = false -> true = true /\ (gEq (bif false then bif bif bif bif bif a.kind ==
 b.kind then a.node == b.node else false then a.to == b.to else false then a.n == b.n else false then (bs a.branch).toList == (bs b.branch).toList else false then
 a.author == b.author && ((bs a.note).toList == (bs b.note).toList && true) else false else false) true = true -> ∃ (a_3 : List Bool), ∃ (b_1 : List Bool),
 (IsBools (AV.rows 1 a.keep.length (boolF a.keep)) a_3 /\ IsBools (AV.rows 1 b.keep.length (boolF b.keep)) b_1) /\ true = true /\ (gEq (bif true then a_3 == b_1 else
 false) true = true -> ∃ (a_5 : List Int), ∃ (b_2 : List Int), (IsInts0 (AV.rows 1 a.conf.length (intF a.conf)) a_5 /\ IsInts0 (AV.rows 1 b.conf.length (intF
 b.conf)) b_2) /\ true = true /\ (gEq (bif true then a_5 == b_2 else false) true = true -> ∃ (a_7 : List (Bs × Bs)), ∃ (b_3 : List (Bs × Bs)), (IsMap (AV.rows 2
 a.map.length (rowF a.map)) a_7 /\ IsMap (AV.rows 2 b.map.length (rowF b.map)) b_3) /\ true = true /\ (gEq (bif true then a_7 == b_3 else false) true = true -> ∃ (a_9
 : List (Bs × Bool × Bs)), ∃ (b_4 : List (Bs × Bool × Bs)), (IsEdit (AV.rows 3 a.edit.length (chgF a.edit)) a_9 /\ IsEdit (AV.rows 3 b.edit.length (chgF b.edit))
 b_4) /\ true = true /\ (True /\ True) /\ True /\ R (bl (bif true then a_9 == b_4 else false)) []) /\ (gEq (bif true then a_7 == b_3 else false) true = false -> true =
 true /\ (True /\ True) /\ True /\ R (bl false) [])) /\ (gEq (bif true then a_5 == b_2 else false) true = false -> true = true /\ (gEq false true = true -> ∃ (a_8 : List
 (Bs × Bool × Bs)), ∃ (b_3 : List (Bs × Bool × Bs)), (IsEdit (AV.rows 3 a.edit.length (chgF a.edit)) a_8 /\ IsEdit (AV.rows 3 b.edit.length (chgF b.edit)) b_3) /\
 true = true /\ (True /\ True) /\ True /\ R (bl (bif true then a_8 == b_3 else false)) []) /\ (gEq false true = false -> true = true /\ (True /\ True) /\ True /\ R (bl
 false) []))) /\ (gEq (bif true then a_3 == b_1 else false) true = false -> true = true /\ (gEq false true = true -> ∃ (a_6 : List (Bs × Bs)), ∃ (b_2 : List (Bs ×
 Bs)), (IsMap (AV.rows 2 a.map.length (rowF a.map)) a_6 /\ IsMap (AV.rows 2 b.map.length (rowF b.map)) b_2) /\ true = true /\ (gEq (bif true then a_6 == b_2 else
 false) true = true -> ∃ (a_8 : List (Bs × Bool × Bs)), ∃ (b_3 : List (Bs × Bool × Bs)), (IsEdit (AV.rows 3 a.edit.length (chgF a.edit)) a_8 /\ IsEdit (AV.rows 3
 b.edit.length (chgF b.edit)) b_3) /\ true = true /\ (True /\ True) /\ True /\ R (bl (bif true then a_8 == b_3 else false)) []) /\ (gEq (bif true then a_6 == b_2 else
 false) true = false -> true = true /\ (True /\ True) /\ True /\ R (bl false) [])) /\ (gEq false true = false -> true = true /\ (gEq false true = true -> ∃ (a_7 : List (Bs
 × Bool × Bs)), ∃ (b_2 : List (Bs × Bool × Bs)), (IsEdit (AV.rows 3 a.edit.length (chgF a.edit)) a_7 /\ IsEdit (AV.rows 3 b.edit.length (chgF b.edit)) b_2) /\ true
 = true /\ (True /\ True) /\ True /\ R (bl (bif true then a_7 == b_2 else false)) []) /\ (gEq false true = false -> true = true /\ (True /\ True) /\ True /\ R (bl false)
 [])))) /\ (gEq (bif false then bif bif bif bif bif a.kind == b.kind then a.node == b.node else false then a.to == b.to else false then a.n == b.n else false then
 (bs a.branch).toList == (bs b.branch).toList else false then a.author == b.author && ((bs a.note).toList == (bs b.note).toList && true) else false else false)
 true = false -> true = true /\ (gEq false true = true -> ∃ (a_4 : List Int), ∃ (b_1 : List Int), (IsInts0 (AV.rows 1 a.conf.length (intF a.conf)) a_4 /\ IsInts0
 (AV.rows 1 b.conf.length (intF b.conf)) b_1) /\ true = true /\ (gEq (bif true then a_4 == b_1 else false) true = true -> ∃ (a_6 : List (Bs × Bs)), ∃ (b_2 : List (Bs
 × Bs)), (IsMap (AV.rows 2 a.map.length (rowF a.map)) a_6 /\ IsMap (AV.rows 2 b.map.length (rowF b.map)) b_2) /\ true = true /\ (gEq (bif true then a_6 == b_2 else
 false) true = true -> ∃ (a_8 : List (Bs × Bool × Bs)), ∃ (b_3 : List (Bs × Bool × Bs)), (IsEdit (AV.rows 3 a.edit.length (chgF a.edit)) a_8 /\ IsEdit (AV.rows 3
 b.edit.length (chgF b.edit)) b_3) /\ true = true /\ (True /\ True) /\ True /\ R (bl (bif true then a_8 == b_3 else false)) []) /\ (gEq (bif true then a_6 == b_2 else
 false) true = false -> true = true /\ (True /\ True) /\ True /\ R (bl false) [])) /\ (gEq (bif true then a_4 == b_1 else false) true = false -> true = true /\ (gEq false
 true = true -> ∃ (a_7 : List (Bs × Bool × Bs)), ∃ (b_2 : List (Bs × Bool × Bs)), (IsEdit (AV.rows 3 a.edit.length (chgF a.edit)) a_7 /\ IsEdit (AV.rows 3
 b.edit.length (chgF b.edit)) b_2) /\ true = true /\ (True /\ True) /\ True /\ R (bl (bif true then a_7 == b_2 else false)) []) /\ (gEq false true = false -> true = true
 /\ (True /\ True) /\ True /\ R (bl false) []))) /\ (gEq false true = false -> true = true /\ (gEq false true = true -> ∃ (a_5 : List (Bs × Bs)), ∃ (b_1 : List (Bs ×
 Bs)), (IsMap (AV.rows 2 a.map.length (rowF a.map)) a_5 /\ IsMap (AV.rows 2 b.map.length (rowF b.map)) b_1) /\ true = true /\ (gEq (bif true then a_5 == b_1 else
 false) true = true -> ∃ (a_7 : List (Bs × Bool × Bs)), ∃ (b_2 : List (Bs × Bool × Bs)), (IsEdit (AV.rows 3 a.edit.length (chgF a.edit)) a_7 /\ IsEdit (AV.rows 3
 b.edit.length (chgF b.edit)) b_2) /\ true = true /\ (True /\ True) /\ True /\ R (bl (bif true then a_7 == b_2 else false)) []) /\ (gEq (bif true then a_5 == b_1 else
 false) true = false -> true = true /\ (True /\ True) /\ True /\ R (bl false) [])) /\ (gEq false true = false -> true = true /\ (gEq false true = true -> ∃ (a_6 : List (Bs
 × Bool × Bs)), ∃ (b_1 : List (Bs × Bool × Bs)), (IsEdit (AV.rows 3 a.edit.length (chgF a.edit)) a_6 /\ IsEdit (AV.rows 3 b.edit.length (chgF b.edit)) b_1) /\ true
 = true /\ (True /\ True) /\ True /\ R (bl (bif true then a_6 == b_1 else false)) []) /\ (gEq false true = false -> true = true /\ (True /\ True) /\ True /\ R (bl false)
 [])))))) /\ True /\ True /\ True /\ True /\ (gEq (bif bif bif bif bif a.ck == b.ck then a.client == b.client else false then a.seq == b.seq else false then (bs
 a.cbranch).toList == (bs b.cbranch).toList else false then (List.range (32 : Nat)).all fun (i : Nat) => a.old i == b.old i else false then (List.range (32 :
 Nat)).all fun (i : Nat) => a.new i == b.new i else false) true = true -> ∃ (a_2 : Bs), ∃ (b_1 : Bs), (IsRow8 (AV.rows 1 (List.length a.data) (byteF (bs a.data)))
 a_2 /\ IsRow8 (AV.rows 1 (List.length b.data) (byteF (bs b.data))) b_1) /\ true = true /\ (gEq (bif bif true then a_2 == b_1 else false then bif bif bif bif bif
 a.kind == b.kind then a.node == b.node else false then a.to == b.to else false then a.n == b.n else false then (bs a.branch).toList == (bs b.branch).toList else
 false then a.author == b.author && ((bs a.note).toList == (bs b.note).toList && true) else false else false) true = true -> ∃ (a_4 : List Bool), ∃ (b_2 : List
 Bool), (IsBools (AV.rows 1 a.keep.length (boolF a.keep)) a_4 /\ IsBools (AV.rows 1 b.keep.length (boolF b.keep)) b_2) /\ true = true /\ (gEq (bif true then a_4 ==
 b_2 else false) true = true -> ∃ (a_6 : List Int), ∃ (b_3 : List Int), (IsInts0 (AV.rows 1 a.conf.length (intF a.conf)) a_6 /\ IsInts0 (AV.rows 1 b.conf.length
 (intF b.conf)) b_3) /\ true = true /\ (gEq (bif true then a_6 == b_3 else false) true = true -> ∃ (a_8 : List (Bs × Bs)), ∃ (b_4 : List (Bs × Bs)), (IsMap (AV.rows
 2 a.map.length (rowF a.map)) a_8 /\ IsMap (AV.rows 2 b.map.length (rowF b.map)) b_4) /\ true = true /\ (gEq (bif true then a_8 == b_4 else false) true = true -> ∃
 (a_10 : List (Bs × Bool × Bs)), ∃ (b_5 : List (Bs × Bool × Bs)), (IsEdit (AV.rows 3 a.edit.length (chgF a.edit)) a_10 /\ IsEdit (AV.rows 3 b.edit.length (chgF
 b.edit)) b_5) /\ true = true /\ (True /\ True) /\ True /\ R (bl (bif true then a_10 == b_5 else false)) []) /\ (gEq (bif true then a_8 == b_4 else false) true = false
 -> true = true /\ (True /\ True) /\ True /\ R (bl false) [])) /\ (gEq (bif true then a_6 == b_3 else false) true = false -> true = true /\ (gEq false true = true -> ∃
 (a_9 : List (Bs × Bool × Bs)), ∃ (b_4 : List (Bs × Bool × Bs)), (IsEdit (AV.rows 3 a.edit.length (chgF a.edit)) a_9 /\ IsEdit (AV.rows 3 b.edit.length (chgF
 b.edit)) b_4) /\ true = true /\ (True /\ True) /\ True /\ R (bl (bif true then a_9 == b_4 else false)) []) /\ (gEq false true = false -> true = true /\ (True /\ True) /\
 True /\ R (bl false) []))) /\ (gEq (bif true then a_4 == b_2 else false) true = false -> true = true /\ (gEq false true = true -> ∃ (a_7 : List (Bs × Bs)), ∃ (b_3 :
 List (Bs × Bs)), (IsMap (AV.rows 2 a.map.length (rowF a.map)) a_7 /\ IsMap (AV.rows 2 b.map.length (rowF b.map)) b_3) /\ true = true /\ (gEq (bif true then a_7 ==
 b_3 else false) true = true -> ∃ (a_9 : List (Bs × Bool × Bs)), ∃ (b_4 : List (Bs × Bool × Bs)), (IsEdit (AV.rows 3 a.edit.length (chgF a.edit)) a_9 /\ IsEdit
 (AV.rows 3 b.edit.length (chgF b.edit)) b_4) /\ true = true /\ (True /\ True) /\ True /\ R (bl (bif true then a_9 == b_4 else false)) []) /\ (gEq (bif true then a_7 ==
 b_3 else false) true = false -> true = true /\ (True /\ True) /\ True /\ R (bl false) [])) /\ (gEq false true = false -> true = true /\ (gEq false true = true -> ∃ (a_8 :
 List (Bs × Bool × Bs)), ∃ (b_3 : List (Bs × Bool × Bs)), (IsEdit (AV.rows 3 a.edit.length (chgF a.edit)) a_8 /\ IsEdit (AV.rows 3 b.edit.length (chgF b.edit))
 b_3) /\ true = true /\ (True /\ True) /\ True /\ R (bl (bif true then a_8 == b_3 else false)) []) /\ (gEq false true = false -> true = true /\ (True /\ True) /\ True /\ R
 (bl false) [])))) /\ (gEq (bif bif true then a_2 == b_1 else false then bif bif bif bif bif a.kind == b.kind then a.node == b.node else false then a.to == b.to
 else false then a.n == b.n else false then (bs a.branch).toList == (bs b.branch).toList else false then a.author == b.author && ((bs a.note).toList == (bs
 b.note).toList && true) else false else false) true = false -> true = true /\ (gEq false true = true -> ∃ (a_5 : List Int), ∃ (b_2 : List Int), (IsInts0 (AV.rows 1
 a.conf.length (intF a.conf)) a_5 /\ IsInts0 (AV.rows 1 b.conf.length (intF b.conf)) b_2) /\ true = true /\ (gEq (bif true then a_5 == b_2 else false) true = true ->
 ∃ (a_7 : List (Bs × Bs)), ∃ (b_3 : List (Bs × Bs)), (IsMap (AV.rows 2 a.map.length (rowF a.map)) a_7 /\ IsMap (AV.rows 2 b.map.length (rowF b.map)) b_3) /\ true =
 true /\ (gEq (bif true then a_7 == b_3 else false) true = true -> ∃ (a_9 : List (Bs × Bool × Bs)), ∃ (b_4 : List (Bs × Bool × Bs)), (IsEdit (AV.rows 3
 a.edit.length (chgF a.edit)) a_9 /\ IsEdit (AV.rows 3 b.edit.length (chgF b.edit)) b_4) /\ true = true /\ (True /\ True) /\ True /\ R (bl (bif true then a_9 == b_4
 else false)) []) /\ (gEq (bif true then a_7 == b_3 else false) true = false -> true = true /\ (True /\ True) /\ True /\ R (bl false) [])) /\ (gEq (bif true then a_5 ==
 b_2 else false) true = false -> true = true /\ (gEq false true = true -> ∃ (a_8 : List (Bs × Bool × Bs)), ∃ (b_3 : List (Bs × Bool × Bs)), (IsEdit (AV.rows 3
 a.edit.length (chgF a.edit)) a_8 /\ IsEdit (AV.rows 3 b.edit.length (chgF b.edit)) b_3) /\ true = true /\ (True /\ True) /\ True /\ R (bl (bif true then a_8 == b_3
 else false)) []) /\ (gEq false true = false -> true = true /\ (True /\ True) /\ True /\ R (bl false) []))) /\ (gEq false true = false -> true = true /\ (gEq false true =
 true -> ∃ (a_6 : List (Bs × Bs)), ∃ (b_2 : List (Bs × Bs)), (IsMap (AV.rows 2 a.map.length (rowF a.map)) a_6 /\ IsMap (AV.rows 2 b.map.length (rowF b.map)) b_2) /\
 true = true /\ (gEq (bif true then a_6 == b_2 else false) true = true -> ∃ (a_8 : List (Bs × Bool × Bs)), ∃ (b_3 : List (Bs × Bool × Bs)), (IsEdit (AV.rows 3
 a.edit.length (chgF a.edit)) a_8 /\ IsEdit (AV.rows 3 b.edit.length (chgF b.edit)) b_3) /\ true = true /\ (True /\ True) /\ True /\ R (bl (bif true then a_8 == b_3
 else false)) []) /\ (gEq (bif true then a_6 == b_2 else false) true = false -> true = true /\ (True /\ True) /\ True /\ R (bl false) [])) /\ (gEq false true = false ->
 true = true /\ (gEq false true = true -> ∃ (a_7 : List (Bs × Bool × Bs)), ∃ (b_2 : List (Bs × Bool × Bs)), (IsEdit (AV.rows 3 a.edit.length (chgF a.edit)) a_7 /\
 IsEdit (AV.rows 3 b.edit.length (chgF b.edit)) b_2) /\ true = true /\ (True /\ True) /\ True /\ R (bl (bif true then a_7 == b_2 else false)) []) /\ (gEq false true =
 false -> true = true /\ (True /\ True) /\ True /\ R (bl false) []))))) /\ (gEq (bif bif bif bif bif a.ck == b.ck then a.client == b.client else false then a.seq ==
 b.seq else false then (bs a.cbranch).toList == (bs b.cbranch).toList else false then (List.range (32 : Nat)).all fun (i : Nat) => a.old i == b.old i else false
 then (List.range (32 : Nat)).all fun (i : Nat) => a.new i == b.new i else false) true = false -> true = true /\ (gEq (bif false then bif bif bif bif bif a.kind ==
 b.kind then a.node == b.node else false then a.to == b.to else false then a.n == b.n else false then (bs a.branch).toList == (bs b.branch).toList else false then
 a.author == b.author && ((bs a.note).toList == (bs b.note).toList && true) else false else false) true = true -> ∃ (a_3 : List Bool), ∃ (b_1 : List Bool),
 (IsBools (AV.rows 1 a.keep.length (boolF a.keep)) a_3 /\ IsBools (AV.rows 1 b.keep.length (boolF b.keep)) b_1) /\ true = true /\ (gEq (bif true then a_3 == b_1 else
 false) true = true -> ∃ (a_5 : List Int), ∃ (b_2 : List Int), (IsInts0 (AV.rows 1 a.conf.length (intF a.conf)) a_5 /\ IsInts0 (AV.rows 1 b.conf.length (intF
 b.conf)) b_2) /\ true = true /\ (gEq (bif true then a_5 == b_2 else false) true = true -> ∃ (a_7 : List (Bs × Bs)), ∃ (b_3 : List (Bs × Bs)), (IsMap (AV.rows 2
 a.map.length (rowF a.map)) a_7 /\ IsMap (AV.rows 2 b.map.length (rowF b.map)) b_3) /\ true = true /\ (gEq (bif true then a_7 == b_3 else false) true = true -> ∃ (a_9
 : List (Bs × Bool × Bs)), ∃ (b_4 : List (Bs × Bool × Bs)), (IsEdit (AV.rows 3 a.edit.length (chgF a.edit)) a_9 /\ IsEdit (AV.rows 3 b.edit.length (chgF b.edit))
 b_4) /\ true = true /\ (True /\ True) /\ True /\ R (bl (bif true then a_9 == b_4 else false)) []) /\ (gEq (bif true then a_7 == b_3 else false) true = false -> true =
 true /\ (True /\ True) /\ True /\ R (bl false) [])) /\ (gEq (bif true then a_5 == b_2 else false) true = false -> true = true /\ (gEq false true = true -> ∃ (a_8 : List
 (Bs × Bool × Bs)), ∃ (b_3 : List (Bs × Bool × Bs)), (IsEdit (AV.rows 3 a.edit.length (chgF a.edit)) a_8 /\ IsEdit (AV.rows 3 b.edit.length (chgF b.edit)) b_3) /\
 true = true /\ (True /\ True) /\ True /\ R (bl (bif true then a_8 == b_3 else false)) []) /\ (gEq false true = false -> true = true /\ (True /\ True) /\ True /\ R (bl
 false) []))) /\ (gEq (bif true then a_3 == b_1 else false) true = false -> true = true /\ (gEq false true = true -> ∃ (a_6 : List (Bs × Bs)), ∃ (b_2 : List (Bs ×
 Bs)), (IsMap (AV.rows 2 a.map.length (rowF a.map)) a_6 /\ IsMap (AV.rows 2 b.map.length (rowF b.map)) b_2) /\ true = true /\ (gEq (bif true then a_6 == b_2 else
 false) true = true -> ∃ (a_8 : List (Bs × Bool × Bs)), ∃ (b_3 : List (Bs × Bool × Bs)), (IsEdit (AV.rows 3 a.edit.length (chgF a.edit)) a_8 /\ IsEdit (AV.rows 3
 b.edit.length (chgF b.edit)) b_3) /\ true = true /\ (True /\ True) /\ True /\ R (bl (bif true then a_8 == b_3 else false)) []) /\ (gEq (bif true then a_6 == b_2 else
 false) true = false -> true = true /\ (True /\ True) /\ True /\ R (bl false) [])) /\ (gEq false true = false -> true = true /\ (gEq false true = true -> ∃ (a_7 : List (Bs
 × Bool × Bs)), ∃ (b_2 : List (Bs × Bool × Bs)), (IsEdit (AV.rows 3 a.edit.length (chgF a.edit)) a_7 /\ IsEdit (AV.rows 3 b.edit.length (chgF b.edit)) b_2) /\ true
 = true /\ (True /\ True) /\ True /\ R (bl (bif true then a_7 == b_2 else false)) []) /\ (gEq false true = false -> true = true /\ (True /\ True) /\ True /\ R (bl false)
 [])))) /\ (gEq (bif false then bif bif bif bif bif a.kind == b.kind then a.node == b.node else false then a.to == b.to else false then a.n == b.n else false then
 (bs a.branch).toList == (bs b.branch).toList else false then a.author == b.author && ((bs a.note).toList == (bs b.note).toList && true) else false else false)
 true = false -> true = true /\ (gEq false true = true -> ∃ (a_4 : List Int), ∃ (b_1 : List Int), (IsInts0 (AV.rows 1 a.conf.length (intF a.conf)) a_4 /\ IsInts0
 (AV.rows 1 b.conf.length (intF b.conf)) b_1) /\ true = true /\ (gEq (bif true then a_4 == b_1 else false) true = true -> ∃ (a_6 : List (Bs × Bs)), ∃ (b_2 : List (Bs
 × Bs)), (IsMap (AV.rows 2 a.map.length (rowF a.map)) a_6 /\ IsMap (AV.rows 2 b.map.length (rowF b.map)) b_2) /\ true = true /\ (gEq (bif true then a_6 == b_2 else
 false) true = true -> ∃ (a_8 : List (Bs × Bool × Bs)), ∃ (b_3 : List (Bs × Bool × Bs)), (IsEdit (AV.rows 3 a.edit.length (chgF a.edit)) a_8 /\ IsEdit (AV.rows 3
 b.edit.length (chgF b.edit)) b_3) /\ true = true /\ (True /\ True) /\ True /\ R (bl (bif true then a_8 == b_3 else false)) []) /\ (gEq (bif true then a_6 == b_2 else
 false) true = false -> true = true /\ (True /\ True) /\ True /\ R (bl false) [])) /\ (gEq (bif true then a_4 == b_1 else false) true = false -> true = true /\ (gEq false
 true = true -> ∃ (a_7 : List (Bs × Bool × Bs)), ∃ (b_2 : List (Bs × Bool × Bs)), (IsEdit (AV.rows 3 a.edit.length (chgF a.edit)) a_7 /\ IsEdit (AV.rows 3
 b.edit.length (chgF b.edit)) b_2) /\ true = true /\ (True /\ True) /\ True /\ R (bl (bif true then a_7 == b_2 else false)) []) /\ (gEq false true = false -> true = true
 /\ (True /\ True) /\ True /\ R (bl false) []))) /\ (gEq false true = false -> true = true /\ (gEq false true = true -> ∃ (a_5 : List (Bs × Bs)), ∃ (b_1 : List (Bs ×
 Bs)), (IsMap (AV.rows 2 a.map.length (rowF a.map)) a_5 /\ IsMap (AV.rows 2 b.map.length (rowF b.map)) b_1) /\ true = true /\ (gEq (bif true then a_5 == b_1 else
 false) true = true -> ∃ (a_7 : List (Bs × Bool × Bs)), ∃ (b_2 : List (Bs × Bool × Bs)), (IsEdit (AV.rows 3 a.edit.length (chgF a.edit)) a_7 /\ IsEdit (AV.rows 3
 b.edit.length (chgF b.edit)) b_2) /\ true = true /\ (True /\ True) /\ True /\ R (bl (bif true then a_7 == b_2 else false)) []) /\ (gEq (bif true then a_5 == b_1 else
 false) true = false -> true = true /\ (True /\ True) /\ True /\ R (bl false) [])) /\ (gEq false true = false -> true = true /\ (gEq false true = true -> ∃ (a_6 : List (Bs
 × Bool × Bs)), ∃ (b_1 : List (Bs × Bool × Bs)), (IsEdit (AV.rows 3 a.edit.length (chgF a.edit)) a_6 /\ IsEdit (AV.rows 3 b.edit.length (chgF b.edit)) b_1) /\ true
 = true /\ (True /\ True) /\ True /\ R (bl (bif true then a_6 == b_1 else false)) []) /\ (gEq false true = false -> true = true /\ (True /\ True) /\ True /\ R (bl false)
 [])))))) := by kernel_rfl
theorem vSpoken1 (e y : Ev) (R : AV -> List LObj -> Prop) :
  (vcA false true 0 [2] Tryd.prog (mkTab [(40, .hand tkR TFieldsL), (41, .lend TStamped)]) (optC (Tryd.f56.body.getD .skip)) ([.unroll 4 3 true (fun _ => [])]) (finalK Tryd.prog Tryd.f56 (fun x H => ∃ _ : Unit, leSt 0 ⟨[x], H⟩ ⟨[y.av], []⟩ (R y.av []))) (startSt Tryd.f56 ([.agg (cellsK 1 e)]))) = (
 True /\ True /\ True /\ True /\ (True /\ True) /\ 64 = 64 /\ (True /\ True) /\ 64 = 64 /\ ((0 : Int) <= (0 : Int) /\ (0 : Int) + (1 : Int) <= (↑ (2 : Nat) : Int)) /\ True /\
 ((0 : Int) <= (0 : Int) /\ (0 : Int) + (1 : Int) <= (↑ (2 : Nat) : Int)) /\ ((0 : Int) <= (0 : Int) /\ (0 : Int) + (1 : Int) <= (↑ (2 : Nat) : Int)) /\ True /\ True /\
 True /\ ((0 : Int) <= IntKind.i64.wrap ((0 : Int) + (1 : Int)) /\ IntKind.i64.wrap ((0 : Int) + (1 : Int)) + (1 : Int) <= (↑ (2 : Nat) : Int)) /\ True /\ ((0 : Int) ≤
 IntKind.i64.wrap ((0 : Int) + (1 : Int)) /\ IntKind.i64.wrap ((0 : Int) + (1 : Int)) + (1 : Int) <= (↑ (2 : Nat) : Int)) /\ ((0 : Int) <= IntKind.i64.wrap ((0 : Int)
 + (1 : Int)) /\ IntKind.i64.wrap ((0 : Int) + (1 : Int)) + (1 : Int) <= (↑ (2 : Nat) : Int)) /\ True /\ True /\ True /\ True /\ (True /\ True) /\ (True /\ True /\ True /\
 True /\ True /\ True /\ True /\ True /\ True /\ True /\ True /\ True /\ True /\ True /\ True /\ True /\ True /\ True /\ True) /\ ∃ (x : Unit), (((1 : Int) = y.kind /\ e.node =
 y.node /\ (0 : Int) = y.to /\ e.n = y.n /\ (True /\ y.keep.length = (0 : Nat)) /\ (True /\ y.conf.length = (0 : Nat)) /\ ByteArray.mk #[] = bs y.branch /\ (True /\
 y.map.length = (0 : Nat)) /\ (True /\ y.edit.length = (0 : Nat)) /\ (0 : Int) = y.author /\ ByteArray.mk #[] = bs y.note /\ (0 : Int) = y.ck /\ (0 : Int) = y.client /\
 (0 : Int) = y.seq /\ ByteArray.mk #[] = bs y.cbranch /\ (IntKind.u8 = IntKind.u8 /\ 32 = 32 /\ ∀ (i : Nat), i < (32 : Nat) -> (0 : Int) = y.old i) /\ (IntKind.u8 =
 IntKind.u8 /\ 32 = 32 /\ ∀ (i : Nat), i < (32 : Nat) -> (0 : Int) = y.new i) /\ (True /\ List.length y.data = (0 : Nat)) /\ True) /\ True) /\ True /\ R (AV.agg [nm
 y.kind, nm y.node, nm y.to, nm y.n, AV.rows 1 y.keep.length (boolF y.keep), AV.rows 1 y.conf.length (intF y.conf), sl y.branch, AV.rows 2 y.map.length (rowF
 y.map), AV.rows 3 y.edit.length (chgF y.edit), AV.pl (Value.int IntKind.u32 y.author), sl y.note, nm y.ck, nm y.client, AV.pl (Value.int IntKind.u32 y.seq), sl
 y.cbranch, AV.iarr IntKind.u8 32 y.old, AV.iarr IntKind.u8 32 y.new, AV.rows 1 (List.length y.data) (byteF (bs y.data))]) []) := by kernel_rfl
theorem vSpoken2 (e y : Ev) (R : AV -> List LObj -> Prop) :
  (vcA false true 0 [2] Tryd.prog (mkTab [(40, .hand tkR TFieldsL), (41, .lend TStamped)]) (optC (Tryd.f56.body.getD .skip)) ([.unroll 4 3 true (fun _ => [])]) (finalK Tryd.prog Tryd.f56 (fun x H => ∃ _ : Unit, leSt 0 ⟨[x], H⟩ ⟨[y.av], []⟩ (R y.av []))) (startSt Tryd.f56 ([.agg (cellsK 2 e)]))) = (
 True /\ True /\ True /\ True /\ (True /\ True) /\ 64 = 64 /\ (True /\ True) /\ 64 = 64 /\ ((0 : Int) <= (0 : Int) /\ (0 : Int) + (1 : Int) <= (↑ (1 : Nat) : Int)) /\ True /\
 ((0 : Int) <= (0 : Int) /\ (0 : Int) + (1 : Int) <= (↑ (1 : Nat) : Int)) /\ ((0 : Int) <= (0 : Int) /\ (0 : Int) + (1 : Int) <= (↑ (1 : Nat) : Int)) /\ True /\ True /\
 True /\ True /\ (True /\ True) /\ (True /\ True /\ True /\ True /\ True /\ True /\ True /\ True /\ True /\ True /\ True /\ True /\ True /\ True /\ True /\ True /\ True /\ True /\
 True) /\ ∃ (x : Unit), (((2 : Int) = y.kind /\ (0 : Int) = y.node /\ (0 : Int) = y.to /\ e.n = y.n /\ (True /\ y.keep.length = (0 : Nat)) /\ (True /\ y.conf.length = (0
 : Nat)) /\ ByteArray.mk #[] = bs y.branch /\ (True /\ y.map.length = (0 : Nat)) /\ (True /\ y.edit.length = (0 : Nat)) /\ (0 : Int) = y.author /\ ByteArray.mk #[] = bs
 y.note /\ (0 : Int) = y.ck /\ (0 : Int) = y.client /\ (0 : Int) = y.seq /\ ByteArray.mk #[] = bs y.cbranch /\ (IntKind.u8 = IntKind.u8 /\ 32 = 32 /\ ∀ (i : Nat), i <
 (32 : Nat) -> (0 : Int) = y.old i) /\ (IntKind.u8 = IntKind.u8 /\ 32 = 32 /\ ∀ (i : Nat), i < (32 : Nat) -> (0 : Int) = y.new i) /\ (True /\ List.length y.data = (0 :
 Nat)) /\ True) /\ True) /\ True /\ R (AV.agg [nm y.kind, nm y.node, nm y.to, nm y.n, AV.rows 1 y.keep.length (boolF y.keep), AV.rows 1 y.conf.length (intF y.conf),
 sl y.branch, AV.rows 2 y.map.length (rowF y.map), AV.rows 3 y.edit.length (chgF y.edit), AV.pl (Value.int IntKind.u32 y.author), sl y.note, nm y.ck, nm y.client,
 AV.pl (Value.int IntKind.u32 y.seq), sl y.cbranch, AV.iarr IntKind.u8 32 y.old, AV.iarr IntKind.u8 32 y.new, AV.rows 1 (List.length y.data) (byteF (bs y.data))])
 []) := by kernel_rfl
theorem vSpoken3 (e y : Ev) (R : AV -> List LObj -> Prop) :
  (vcA false true 0 [2] Tryd.prog (mkTab [(40, .hand tkR TFieldsL), (41, .lend TStamped)]) (optC (Tryd.f56.body.getD .skip)) ([.unroll 4 3 true (fun _ => [])]) (finalK Tryd.prog Tryd.f56 (fun x H => ∃ _ : Unit, leSt 0 ⟨[x], H⟩ ⟨[y.av], []⟩ (R y.av []))) (startSt Tryd.f56 ([.agg (cellsK 3 e)]))) = (
 True /\ True /\ True /\ True /\ (True /\ True) /\ 64 = 64 /\ (True /\ True) /\ 64 = 64 /\ ((0 : Int) <= (0 : Int) /\ (0 : Int) + (1 : Int) <= (↑ (1 : Nat) : Int)) /\ True /\
 ((0 : Int) <= (0 : Int) /\ (0 : Int) + (1 : Int) <= (↑ (1 : Nat) : Int)) /\ ((0 : Int) <= (0 : Int) /\ (0 : Int) + (1 : Int) <= (↑ (1 : Nat) : Int)) /\ True /\ True /\
 True /\ True /\ (True /\ True) /\ (True /\ True /\ True /\ True /\ True /\ True /\ True /\ True /\ True /\ True /\ True /\ True /\ True /\ True /\ True /\ True /\ True /\ True /\
 True) /\ ∃ (x : Unit), (((3 : Int) = y.kind /\ (0 : Int) = y.node /\ (0 : Int) = y.to /\ e.n = y.n /\ (True /\ y.keep.length = (0 : Nat)) /\ (True /\ y.conf.length = (0
 : Nat)) /\ ByteArray.mk #[] = bs y.branch /\ (True /\ y.map.length = (0 : Nat)) /\ (True /\ y.edit.length = (0 : Nat)) /\ (0 : Int) = y.author /\ ByteArray.mk #[] = bs
 y.note /\ (0 : Int) = y.ck /\ (0 : Int) = y.client /\ (0 : Int) = y.seq /\ ByteArray.mk #[] = bs y.cbranch /\ (IntKind.u8 = IntKind.u8 /\ 32 = 32 /\ ∀ (i : Nat), i <
 (32 : Nat) -> (0 : Int) = y.old i) /\ (IntKind.u8 = IntKind.u8 /\ 32 = 32 /\ ∀ (i : Nat), i < (32 : Nat) -> (0 : Int) = y.new i) /\ (True /\ List.length y.data = (0 :
 Nat)) /\ True) /\ True) /\ True /\ R (AV.agg [nm y.kind, nm y.node, nm y.to, nm y.n, AV.rows 1 y.keep.length (boolF y.keep), AV.rows 1 y.conf.length (intF y.conf),
 sl y.branch, AV.rows 2 y.map.length (rowF y.map), AV.rows 3 y.edit.length (chgF y.edit), AV.pl (Value.int IntKind.u32 y.author), sl y.note, nm y.ck, nm y.client,
 AV.pl (Value.int IntKind.u32 y.seq), sl y.cbranch, AV.iarr IntKind.u8 32 y.old, AV.iarr IntKind.u8 32 y.new, AV.rows 1 (List.length y.data) (byteF (bs y.data))])
 []) := by kernel_rfl
theorem vSpoken4 (e y : Ev) (R : AV -> List LObj -> Prop) :
  (vcA false true 0 [2] Tryd.prog (mkTab [(40, .hand tkR TFieldsL), (41, .lend TStamped)]) (optC (Tryd.f56.body.getD .skip)) ([.unroll 4 3 true (fun _ => [])]) (finalK Tryd.prog Tryd.f56 (fun x H => ∃ _ : Unit, leSt 0 ⟨[x], H⟩ ⟨[y.av], []⟩ (R y.av []))) (startSt Tryd.f56 ([.agg (cellsK 4 e)]))) = (
 True /\ True /\ True /\ True /\ (True /\ True) /\ 64 = 64 /\ (True /\ True) /\ 64 = 64 /\ ((0 : Int) <= (0 : Int) /\ (0 : Int) + (1 : Int) <= (↑ (1 : Nat) : Int)) /\ True /\
 ((0 : Int) <= (0 : Int) /\ (0 : Int) + (1 : Int) <= (↑ (1 : Nat) : Int)) /\ ((0 : Int) <= (0 : Int) /\ (0 : Int) + (1 : Int) <= (↑ (1 : Nat) : Int)) /\ True /\ True /\
 True /\ True /\ (True /\ True) /\ (True /\ True /\ True /\ True /\ True /\ True /\ True /\ True /\ True /\ True /\ True /\ True /\ True /\ True /\ True /\ True /\ True /\ True /\
 True) /\ ∃ (x : Unit), (((4 : Int) = y.kind /\ (0 : Int) = y.node /\ (0 : Int) = y.to /\ e.n = y.n /\ (True /\ y.keep.length = (0 : Nat)) /\ (True /\ y.conf.length = (0
 : Nat)) /\ ByteArray.mk #[] = bs y.branch /\ (True /\ y.map.length = (0 : Nat)) /\ (True /\ y.edit.length = (0 : Nat)) /\ (0 : Int) = y.author /\ ByteArray.mk #[] = bs
 y.note /\ (0 : Int) = y.ck /\ (0 : Int) = y.client /\ (0 : Int) = y.seq /\ ByteArray.mk #[] = bs y.cbranch /\ (IntKind.u8 = IntKind.u8 /\ 32 = 32 /\ ∀ (i : Nat), i <
 (32 : Nat) -> (0 : Int) = y.old i) /\ (IntKind.u8 = IntKind.u8 /\ 32 = 32 /\ ∀ (i : Nat), i < (32 : Nat) -> (0 : Int) = y.new i) /\ (True /\ List.length y.data = (0 :
 Nat)) /\ True) /\ True) /\ True /\ R (AV.agg [nm y.kind, nm y.node, nm y.to, nm y.n, AV.rows 1 y.keep.length (boolF y.keep), AV.rows 1 y.conf.length (intF y.conf),
 sl y.branch, AV.rows 2 y.map.length (rowF y.map), AV.rows 3 y.edit.length (chgF y.edit), AV.pl (Value.int IntKind.u32 y.author), sl y.note, nm y.ck, nm y.client,
 AV.pl (Value.int IntKind.u32 y.seq), sl y.cbranch, AV.iarr IntKind.u8 32 y.old, AV.iarr IntKind.u8 32 y.new, AV.rows 1 (List.length y.data) (byteF (bs y.data))])
 []) := by kernel_rfl
theorem vSpoken5 (e y : Ev) (R : AV -> List LObj -> Prop) :
  (vcA false true 0 [2] Tryd.prog (mkTab [(40, .hand tkR TFieldsL), (41, .lend TStamped)]) (optC (Tryd.f56.body.getD .skip)) ([.unroll 4 3 true (fun _ => [])]) (finalK Tryd.prog Tryd.f56 (fun x H => ∃ _ : Unit, leSt 0 ⟨[x], H⟩ ⟨[y.av], []⟩ (R y.av []))) (startSt Tryd.f56 ([.agg (cellsK 5 e)]))) = (
 True /\ True /\ True /\ True /\ (True /\ True) /\ 64 = 64 /\ (True /\ True) /\ 64 = 64 /\ ((0 : Int) <= (0 : Int) /\ (0 : Int) + (1 : Int) <= (↑ (2 : Nat) : Int)) /\ True /\
 ((0 : Int) <= (0 : Int) /\ (0 : Int) + (1 : Int) <= (↑ (2 : Nat) : Int)) /\ ((0 : Int) <= (0 : Int) /\ (0 : Int) + (1 : Int) <= (↑ (2 : Nat) : Int)) /\ True /\ True /\
 True /\ ((0 : Int) <= IntKind.i64.wrap ((0 : Int) + (1 : Int)) /\ IntKind.i64.wrap ((0 : Int) + (1 : Int)) + (1 : Int) <= (↑ (2 : Nat) : Int)) /\ True /\ ((0 : Int) ≤
 IntKind.i64.wrap ((0 : Int) + (1 : Int)) /\ IntKind.i64.wrap ((0 : Int) + (1 : Int)) + (1 : Int) <= (↑ (2 : Nat) : Int)) /\ ((0 : Int) <= IntKind.i64.wrap ((0 : Int)
 + (1 : Int)) /\ IntKind.i64.wrap ((0 : Int) + (1 : Int)) + (1 : Int) <= (↑ (2 : Nat) : Int)) /\ True /\ True /\ True /\ True /\ (True /\ True) /\ (True /\ True /\ True /\
 True /\ True /\ True /\ True /\ True /\ True /\ True /\ True /\ True /\ True /\ True /\ True /\ True /\ True /\ True /\ True) /\ ∃ (x : Unit), (((5 : Int) = y.kind /\ e.node =
 y.node /\ e.to = y.to /\ (0 : Int) = y.n /\ (True /\ y.keep.length = (0 : Nat)) /\ (True /\ y.conf.length = (0 : Nat)) /\ ByteArray.mk #[] = bs y.branch /\ (True /\
 y.map.length = (0 : Nat)) /\ (True /\ y.edit.length = (0 : Nat)) /\ (0 : Int) = y.author /\ ByteArray.mk #[] = bs y.note /\ (0 : Int) = y.ck /\ (0 : Int) = y.client /\
 (0 : Int) = y.seq /\ ByteArray.mk #[] = bs y.cbranch /\ (IntKind.u8 = IntKind.u8 /\ 32 = 32 /\ ∀ (i : Nat), i < (32 : Nat) -> (0 : Int) = y.old i) /\ (IntKind.u8 =
 IntKind.u8 /\ 32 = 32 /\ ∀ (i : Nat), i < (32 : Nat) -> (0 : Int) = y.new i) /\ (True /\ List.length y.data = (0 : Nat)) /\ True) /\ True) /\ True /\ R (AV.agg [nm
 y.kind, nm y.node, nm y.to, nm y.n, AV.rows 1 y.keep.length (boolF y.keep), AV.rows 1 y.conf.length (intF y.conf), sl y.branch, AV.rows 2 y.map.length (rowF
 y.map), AV.rows 3 y.edit.length (chgF y.edit), AV.pl (Value.int IntKind.u32 y.author), sl y.note, nm y.ck, nm y.client, AV.pl (Value.int IntKind.u32 y.seq), sl
 y.cbranch, AV.iarr IntKind.u8 32 y.old, AV.iarr IntKind.u8 32 y.new, AV.rows 1 (List.length y.data) (byteF (bs y.data))]) []) := by kernel_rfl
theorem vSpoken6 (e y : Ev) (R : AV -> List LObj -> Prop) :
  (vcA false true 0 [2] Tryd.prog (mkTab [(40, .hand tkR TFieldsL), (41, .lend TStamped)]) (optC (Tryd.f56.body.getD .skip)) ([.unroll 4 3 true (fun _ => [])]) (finalK Tryd.prog Tryd.f56 (fun x H => ∃ _ : Unit, leSt 0 ⟨[x], H⟩ ⟨[y.av], []⟩ (R y.av []))) (startSt Tryd.f56 ([.agg (cellsK 6 e)]))) = (
 True /\ True /\ True /\ True /\ (True /\ True) /\ 64 = 64 /\ (True /\ True) /\ 64 = 64 /\ ((0 : Int) <= (0 : Int) /\ (0 : Int) + (1 : Int) <= (↑ (2 : Nat) : Int)) /\ True /\
 ((0 : Int) <= (0 : Int) /\ (0 : Int) + (1 : Int) <= (↑ (2 : Nat) : Int)) /\ ((0 : Int) <= (0 : Int) /\ (0 : Int) + (1 : Int) <= (↑ (2 : Nat) : Int)) /\ True /\ True /\
 True /\ ((0 : Int) <= IntKind.i64.wrap ((0 : Int) + (1 : Int)) /\ IntKind.i64.wrap ((0 : Int) + (1 : Int)) + (1 : Int) <= (↑ (2 : Nat) : Int)) /\ True /\ ((0 : Int) ≤
 IntKind.i64.wrap ((0 : Int) + (1 : Int)) /\ IntKind.i64.wrap ((0 : Int) + (1 : Int)) + (1 : Int) <= (↑ (2 : Nat) : Int)) /\ ((0 : Int) <= IntKind.i64.wrap ((0 : Int)
 + (1 : Int)) /\ IntKind.i64.wrap ((0 : Int) + (1 : Int)) + (1 : Int) <= (↑ (2 : Nat) : Int)) /\ True /\ True /\ True /\ True /\ (True /\ True) /\ (True /\ True /\ True /\
 True /\ True /\ True /\ True /\ True /\ True /\ True /\ True /\ True /\ True /\ True /\ True /\ True /\ True /\ True /\ True) /\ ∃ (x : Unit), (((6 : Int) = y.kind /\ e.node =
 y.node /\ e.to = y.to /\ (0 : Int) = y.n /\ (True /\ y.keep.length = (0 : Nat)) /\ (True /\ y.conf.length = (0 : Nat)) /\ ByteArray.mk #[] = bs y.branch /\ (True /\
 y.map.length = (0 : Nat)) /\ (True /\ y.edit.length = (0 : Nat)) /\ (0 : Int) = y.author /\ ByteArray.mk #[] = bs y.note /\ (0 : Int) = y.ck /\ (0 : Int) = y.client /\
 (0 : Int) = y.seq /\ ByteArray.mk #[] = bs y.cbranch /\ (IntKind.u8 = IntKind.u8 /\ 32 = 32 /\ ∀ (i : Nat), i < (32 : Nat) -> (0 : Int) = y.old i) /\ (IntKind.u8 =
 IntKind.u8 /\ 32 = 32 /\ ∀ (i : Nat), i < (32 : Nat) -> (0 : Int) = y.new i) /\ (True /\ List.length y.data = (0 : Nat)) /\ True) /\ True) /\ True /\ R (AV.agg [nm
 y.kind, nm y.node, nm y.to, nm y.n, AV.rows 1 y.keep.length (boolF y.keep), AV.rows 1 y.conf.length (intF y.conf), sl y.branch, AV.rows 2 y.map.length (rowF
 y.map), AV.rows 3 y.edit.length (chgF y.edit), AV.pl (Value.int IntKind.u32 y.author), sl y.note, nm y.ck, nm y.client, AV.pl (Value.int IntKind.u32 y.seq), sl
 y.cbranch, AV.iarr IntKind.u8 32 y.old, AV.iarr IntKind.u8 32 y.new, AV.rows 1 (List.length y.data) (byteF (bs y.data))]) []) := by kernel_rfl
theorem vSpoken7 (e y : Ev) (R : AV -> List LObj -> Prop) :
  (vcA false true 0 [2] Tryd.prog (mkTab [(40, .hand tkR TFieldsL), (41, .lend TStamped)]) (optC (Tryd.f56.body.getD .skip)) ([.unroll 4 3 true (fun _ => [])]) (finalK Tryd.prog Tryd.f56 (fun x H => ∃ _ : Unit, leSt 0 ⟨[x], H⟩ ⟨[y.av], []⟩ (R y.av []))) (startSt Tryd.f56 ([.agg (cellsK 7 e)]))) = (
 True /\ True /\ True /\ True /\ (True /\ True) /\ 64 = 64 /\ (True /\ True) /\ 64 = 64 /\ ((0 : Int) <= (0 : Int) /\ (0 : Int) + (1 : Int) <= (↑ (2 : Nat) : Int)) /\ True /\
 ((0 : Int) <= (0 : Int) /\ (0 : Int) + (1 : Int) <= (↑ (2 : Nat) : Int)) /\ ((0 : Int) <= (0 : Int) /\ (0 : Int) + (1 : Int) <= (↑ (2 : Nat) : Int)) /\ True /\ True /\
 True /\ ((0 : Int) <= IntKind.i64.wrap ((0 : Int) + (1 : Int)) /\ IntKind.i64.wrap ((0 : Int) + (1 : Int)) + (1 : Int) <= (↑ (2 : Nat) : Int)) /\ True /\ ((0 : Int) ≤
 IntKind.i64.wrap ((0 : Int) + (1 : Int)) /\ IntKind.i64.wrap ((0 : Int) + (1 : Int)) + (1 : Int) <= (↑ (2 : Nat) : Int)) /\ ((0 : Int) <= IntKind.i64.wrap ((0 : Int)
 + (1 : Int)) /\ IntKind.i64.wrap ((0 : Int) + (1 : Int)) + (1 : Int) <= (↑ (2 : Nat) : Int)) /\ True /\ True /\ True /\ True /\ (True /\ True) /\ (True /\ True /\ True /\
 True /\ True /\ True /\ True /\ True /\ True /\ True /\ True /\ True /\ True /\ True /\ True /\ True /\ True /\ True /\ True) /\ ∃ (x : Unit), (((7 : Int) = y.kind /\ e.node =
 y.node /\ (0 : Int) = y.to /\ e.n = y.n /\ (True /\ y.keep.length = (0 : Nat)) /\ (True /\ y.conf.length = (0 : Nat)) /\ ByteArray.mk #[] = bs y.branch /\ (True /\
 y.map.length = (0 : Nat)) /\ (True /\ y.edit.length = (0 : Nat)) /\ (0 : Int) = y.author /\ ByteArray.mk #[] = bs y.note /\ (0 : Int) = y.ck /\ (0 : Int) = y.client /\
 (0 : Int) = y.seq /\ ByteArray.mk #[] = bs y.cbranch /\ (IntKind.u8 = IntKind.u8 /\ 32 = 32 /\ ∀ (i : Nat), i < (32 : Nat) -> (0 : Int) = y.old i) /\ (IntKind.u8 =
 IntKind.u8 /\ 32 = 32 /\ ∀ (i : Nat), i < (32 : Nat) -> (0 : Int) = y.new i) /\ (True /\ List.length y.data = (0 : Nat)) /\ True) /\ True) /\ True /\ R (AV.agg [nm
 y.kind, nm y.node, nm y.to, nm y.n, AV.rows 1 y.keep.length (boolF y.keep), AV.rows 1 y.conf.length (intF y.conf), sl y.branch, AV.rows 2 y.map.length (rowF
 y.map), AV.rows 3 y.edit.length (chgF y.edit), AV.pl (Value.int IntKind.u32 y.author), sl y.note, nm y.ck, nm y.client, AV.pl (Value.int IntKind.u32 y.seq), sl
 y.cbranch, AV.iarr IntKind.u8 32 y.old, AV.iarr IntKind.u8 32 y.new, AV.rows 1 (List.length y.data) (byteF (bs y.data))]) []) := by kernel_rfl
theorem vSpoken8 (e y : Ev) (R : AV -> List LObj -> Prop) :
  (vcA false true 0 [2] Tryd.prog (mkTab [(40, .hand tkR TFieldsL), (41, .lend TStamped)]) (optC (Tryd.f56.body.getD .skip)) ([.unroll 4 3 true (fun _ => [])]) (finalK Tryd.prog Tryd.f56 (fun x H => ∃ _ : Unit, leSt 0 ⟨[x], H⟩ ⟨[y.av], []⟩ (R y.av []))) (startSt Tryd.f56 ([.agg (cellsK 8 e)]))) = (
 True /\ True /\ True /\ True /\ (True /\ True) /\ 64 = 64 /\ (True /\ True) /\ 64 = 64 /\ ((0 : Int) <= (0 : Int) /\ (0 : Int) + (1 : Int) <= (↑ (1 : Nat) : Int)) /\ True /\
 ((0 : Int) <= (0 : Int) /\ (0 : Int) + (1 : Int) <= (↑ (1 : Nat) : Int)) /\ ((0 : Int) <= (0 : Int) /\ (0 : Int) + (1 : Int) <= (↑ (1 : Nat) : Int)) /\ True /\ True /\
 True /\ True /\ True /\ (True /\ True) /\ (True /\ True /\ True /\ True /\ True /\ True /\ True /\ True /\ True /\ True /\ True /\ True /\ True /\ True /\ True /\ True /\ True /\ True
 /\ True) /\ ∃ (x : Unit), (((8 : Int) = y.kind /\ e.node = y.node /\ (0 : Int) = y.to /\ (0 : Int) = y.n /\ (1 = 1 /\ e.keep.length = y.keep.length /\ ∀ (i : Nat), i <
 e.keep.length -> bl (e.keep.getD i false) = bl (y.keep.getD i false)) /\ (True /\ y.conf.length = (0 : Nat)) /\ ByteArray.mk #[] = bs y.branch /\ (True /\ y.map.length
 = (0 : Nat)) /\ (True /\ y.edit.length = (0 : Nat)) /\ (0 : Int) = y.author /\ ByteArray.mk #[] = bs y.note /\ (0 : Int) = y.ck /\ (0 : Int) = y.client /\ (0 : Int) =
 y.seq /\ ByteArray.mk #[] = bs y.cbranch /\ (IntKind.u8 = IntKind.u8 /\ 32 = 32 /\ ∀ (i : Nat), i < (32 : Nat) -> (0 : Int) = y.old i) /\ (IntKind.u8 = IntKind.u8 /\ 32
 = 32 /\ ∀ (i : Nat), i < (32 : Nat) -> (0 : Int) = y.new i) /\ (True /\ List.length y.data = (0 : Nat)) /\ True) /\ True) /\ True /\ R (AV.agg [nm y.kind, nm y.node, nm
 y.to, nm y.n, AV.rows 1 y.keep.length (boolF y.keep), AV.rows 1 y.conf.length (intF y.conf), sl y.branch, AV.rows 2 y.map.length (rowF y.map), AV.rows 3
 y.edit.length (chgF y.edit), AV.pl (Value.int IntKind.u32 y.author), sl y.note, nm y.ck, nm y.client, AV.pl (Value.int IntKind.u32 y.seq), sl y.cbranch, AV.iarr
 IntKind.u8 32 y.old, AV.iarr IntKind.u8 32 y.new, AV.rows 1 (List.length y.data) (byteF (bs y.data))]) []) := by kernel_rfl
theorem vSpoken9 (e y : Ev) (R : AV -> List LObj -> Prop) :
  (vcA false true 0 [2] Tryd.prog (mkTab [(40, .hand tkR TFieldsL), (41, .lend TStamped)]) (optC (Tryd.f56.body.getD .skip)) ([.unroll 4 3 true (fun _ => [])]) (finalK Tryd.prog Tryd.f56 (fun x H => ∃ _ : Unit, leSt 0 ⟨[x], H⟩ ⟨[y.av], []⟩ (R y.av []))) (startSt Tryd.f56 ([.agg (cellsK 9 e)]))) = (
 True /\ True /\ True /\ True /\ (True /\ True) /\ 64 = 64 /\ (True /\ True) /\ 64 = 64 /\ ((0 : Int) <= (0 : Int) /\ (0 : Int) + (1 : Int) <= (↑ (2 : Nat) : Int)) /\ True /\
 ((0 : Int) <= (0 : Int) /\ (0 : Int) + (1 : Int) <= (↑ (2 : Nat) : Int)) /\ ((0 : Int) <= (0 : Int) /\ (0 : Int) + (1 : Int) <= (↑ (2 : Nat) : Int)) /\ True /\ True /\
 True /\ ((0 : Int) <= IntKind.i64.wrap ((0 : Int) + (1 : Int)) /\ IntKind.i64.wrap ((0 : Int) + (1 : Int)) + (1 : Int) <= (↑ (2 : Nat) : Int)) /\ True /\ ((0 : Int) ≤
 IntKind.i64.wrap ((0 : Int) + (1 : Int)) /\ IntKind.i64.wrap ((0 : Int) + (1 : Int)) + (1 : Int) <= (↑ (2 : Nat) : Int)) /\ ((0 : Int) <= IntKind.i64.wrap ((0 : Int)
 + (1 : Int)) /\ IntKind.i64.wrap ((0 : Int) + (1 : Int)) + (1 : Int) <= (↑ (2 : Nat) : Int)) /\ True /\ True /\ True /\ True /\ (True /\ True) /\ (True /\ True /\ True /\
 True /\ True /\ True /\ True /\ True /\ True /\ True /\ True /\ True /\ True /\ True /\ True /\ True /\ True /\ True /\ True) /\ ∃ (x : Unit), (((9 : Int) = y.kind /\ e.node =
 y.node /\ (0 : Int) = y.to /\ e.n = y.n /\ (True /\ y.keep.length = (0 : Nat)) /\ (True /\ y.conf.length = (0 : Nat)) /\ ByteArray.mk #[] = bs y.branch /\ (True /\
 y.map.length = (0 : Nat)) /\ (True /\ y.edit.length = (0 : Nat)) /\ (0 : Int) = y.author /\ ByteArray.mk #[] = bs y.note /\ (0 : Int) = y.ck /\ (0 : Int) = y.client /\
 (0 : Int) = y.seq /\ ByteArray.mk #[] = bs y.cbranch /\ (IntKind.u8 = IntKind.u8 /\ 32 = 32 /\ ∀ (i : Nat), i < (32 : Nat) -> (0 : Int) = y.old i) /\ (IntKind.u8 =
 IntKind.u8 /\ 32 = 32 /\ ∀ (i : Nat), i < (32 : Nat) -> (0 : Int) = y.new i) /\ (True /\ List.length y.data = (0 : Nat)) /\ True) /\ True) /\ True /\ R (AV.agg [nm
 y.kind, nm y.node, nm y.to, nm y.n, AV.rows 1 y.keep.length (boolF y.keep), AV.rows 1 y.conf.length (intF y.conf), sl y.branch, AV.rows 2 y.map.length (rowF
 y.map), AV.rows 3 y.edit.length (chgF y.edit), AV.pl (Value.int IntKind.u32 y.author), sl y.note, nm y.ck, nm y.client, AV.pl (Value.int IntKind.u32 y.seq), sl
 y.cbranch, AV.iarr IntKind.u8 32 y.old, AV.iarr IntKind.u8 32 y.new, AV.rows 1 (List.length y.data) (byteF (bs y.data))]) []) := by kernel_rfl
theorem vSpoken10 (e y : Ev) (R : AV -> List LObj -> Prop) :
  (vcA false true 0 [2] Tryd.prog (mkTab [(40, .hand tkR TFieldsL), (41, .lend TStamped)]) (optC (Tryd.f56.body.getD .skip)) ([.unroll 4 3 true (fun _ => [])]) (finalK Tryd.prog Tryd.f56 (fun x H => ∃ _ : Unit, leSt 0 ⟨[x], H⟩ ⟨[y.av], []⟩ (R y.av []))) (startSt Tryd.f56 ([.agg (cellsK 10 e)]))) = (
 True /\ True /\ True /\ True /\ (True /\ True) /\ 64 = 64 /\ (True /\ True) /\ 64 = 64 /\ ((0 : Int) <= (0 : Int) /\ (0 : Int) + (1 : Int) <= (↑ (1 : Nat) : Int)) /\ True /\
 ((0 : Int) <= (0 : Int) /\ (0 : Int) + (1 : Int) <= (↑ (1 : Nat) : Int)) /\ ((0 : Int) <= (0 : Int) /\ (0 : Int) + (1 : Int) <= (↑ (1 : Nat) : Int)) /\ True /\ True /\
 True /\ True /\ True /\ (True /\ True) /\ (True /\ True /\ True /\ True /\ True /\ True /\ True /\ True /\ True /\ True /\ True /\ True /\ True /\ True /\ True /\ True /\ True /\ True
 /\ True) /\ ∃ (x : Unit), (((10 : Int) = y.kind /\ e.node = y.node /\ (0 : Int) = y.to /\ (0 : Int) = y.n /\ (True /\ y.keep.length = (0 : Nat)) /\ (1 = 1 /\
 e.conf.length = y.conf.length /\ ∀ (i : Nat), i < e.conf.length -> nm (e.conf.getD i (0 : Int)) = nm (y.conf.getD i (0 : Int))) /\ ByteArray.mk #[] = bs y.branch /\
 (True /\ y.map.length = (0 : Nat)) /\ (True /\ y.edit.length = (0 : Nat)) /\ (0 : Int) = y.author /\ ByteArray.mk #[] = bs y.note /\ (0 : Int) = y.ck /\ (0 : Int) =
 y.client /\ (0 : Int) = y.seq /\ ByteArray.mk #[] = bs y.cbranch /\ (IntKind.u8 = IntKind.u8 /\ 32 = 32 /\ ∀ (i : Nat), i < (32 : Nat) -> (0 : Int) = y.old i) /\
 (IntKind.u8 = IntKind.u8 /\ 32 = 32 /\ ∀ (i : Nat), i < (32 : Nat) -> (0 : Int) = y.new i) /\ (True /\ List.length y.data = (0 : Nat)) /\ True) /\ True) /\ True /\ R
 (AV.agg [nm y.kind, nm y.node, nm y.to, nm y.n, AV.rows 1 y.keep.length (boolF y.keep), AV.rows 1 y.conf.length (intF y.conf), sl y.branch, AV.rows 2
 y.map.length (rowF y.map), AV.rows 3 y.edit.length (chgF y.edit), AV.pl (Value.int IntKind.u32 y.author), sl y.note, nm y.ck, nm y.client, AV.pl (Value.int
 IntKind.u32 y.seq), sl y.cbranch, AV.iarr IntKind.u8 32 y.old, AV.iarr IntKind.u8 32 y.new, AV.rows 1 (List.length y.data) (byteF (bs y.data))]) []) := by kernel_rfl
theorem vSpoken11 (e y : Ev) (R : AV -> List LObj -> Prop) :
  (vcA false true 0 [2] Tryd.prog (mkTab [(40, .hand tkR TFieldsL), (41, .lend TStamped)]) (optC (Tryd.f56.body.getD .skip)) ([.unroll 4 3 true (fun _ => [])]) (finalK Tryd.prog Tryd.f56 (fun x H => ∃ _ : Unit, leSt 0 ⟨[x], H⟩ ⟨[y.av], []⟩ (R y.av []))) (startSt Tryd.f56 ([.agg (cellsK 11 e)]))) = (
 True /\ True /\ True /\ True /\ (True /\ True) /\ 64 = 64 /\ (True /\ True) /\ 64 = 64 /\ ((0 : Int) <= (0 : Int) /\ (0 : Int) + (1 : Int) <= (↑ (1 : Nat) : Int)) /\ True /\
 ((0 : Int) <= (0 : Int) /\ (0 : Int) + (1 : Int) <= (↑ (1 : Nat) : Int)) /\ ((0 : Int) <= (0 : Int) /\ (0 : Int) + (1 : Int) <= (↑ (1 : Nat) : Int)) /\ True /\ True /\
 True /\ True /\ True /\ True /\ True /\ (True /\ True) /\ (True /\ True /\ True /\ True /\ True /\ True /\ True /\ True /\ True /\ True /\ True /\ True /\ True /\ True /\ True /\ True
 /\ True /\ True /\ True) /\ ∃ (x : Unit), (((11 : Int) = y.kind /\ e.node = y.node /\ (0 : Int) = y.to /\ (0 : Int) = y.n /\ (True /\ y.keep.length = (0 : Nat)) /\ (True /\
 y.conf.length = (0 : Nat)) /\ bs e.branch = bs y.branch /\ (2 = 2 /\ e.map.length = y.map.length /\ ∀ (i : Nat), i < e.map.length -> AV.agg [sl (e.map.getD i ([],
 [])).fst, sl (e.map.getD i ([], [])).snd] = AV.agg [sl (y.map.getD i ([], [])).fst, sl (y.map.getD i ([], [])).snd]) /\ (True /\ y.edit.length = (0 : Nat)) /\
 e.author = y.author /\ bs e.note = bs y.note /\ (0 : Int) = y.ck /\ (0 : Int) = y.client /\ (0 : Int) = y.seq /\ ByteArray.mk #[] = bs y.cbranch /\ (IntKind.u8 =
 IntKind.u8 /\ 32 = 32 /\ ∀ (i : Nat), i < (32 : Nat) -> (0 : Int) = y.old i) /\ (IntKind.u8 = IntKind.u8 /\ 32 = 32 /\ ∀ (i : Nat), i < (32 : Nat) -> (0 : Int) = y.new
 i) /\ (True /\ List.length y.data = (0 : Nat)) /\ True) /\ True) /\ True /\ R (AV.agg [nm y.kind, nm y.node, nm y.to, nm y.n, AV.rows 1 y.keep.length (boolF y.keep),
 AV.rows 1 y.conf.length (intF y.conf), sl y.branch, AV.rows 2 y.map.length (rowF y.map), AV.rows 3 y.edit.length (chgF y.edit), AV.pl (Value.int IntKind.u32
 y.author), sl y.note, nm y.ck, nm y.client, AV.pl (Value.int IntKind.u32 y.seq), sl y.cbranch, AV.iarr IntKind.u8 32 y.old, AV.iarr IntKind.u8 32 y.new, AV.rows
 1 (List.length y.data) (byteF (bs y.data))]) []) := by kernel_rfl
theorem vSpoken12 (e y : Ev) (R : AV -> List LObj -> Prop) :
  (vcA false true 0 [2] Tryd.prog (mkTab [(40, .hand tkR TFieldsL), (41, .lend TStamped)]) (optC (Tryd.f56.body.getD .skip)) ([.unroll 4 3 true (fun _ => [])]) (finalK Tryd.prog Tryd.f56 (fun x H => ∃ _ : Unit, leSt 0 ⟨[x], H⟩ ⟨[y.av], []⟩ (R y.av []))) (startSt Tryd.f56 ([.agg (cellsK 12 e)]))) = (
 True /\ True /\ True /\ True /\ (True /\ True) /\ 64 = 64 /\ (True /\ True) /\ 64 = 64 /\ ((0 : Int) <= (0 : Int) /\ (0 : Int) + (1 : Int) <= (↑ (1 : Nat) : Int)) /\ True /\
 ((0 : Int) <= (0 : Int) /\ (0 : Int) + (1 : Int) <= (↑ (1 : Nat) : Int)) /\ ((0 : Int) <= (0 : Int) /\ (0 : Int) + (1 : Int) <= (↑ (1 : Nat) : Int)) /\ True /\ True /\
 True /\ True /\ True /\ True /\ True /\ (True /\ True) /\ (True /\ True /\ True /\ True /\ True /\ True /\ True /\ True /\ True /\ True /\ True /\ True /\ True /\ True /\ True /\ True
 /\ True /\ True /\ True) /\ ∃ (x : Unit), (((12 : Int) = y.kind /\ e.node = y.node /\ (0 : Int) = y.to /\ (0 : Int) = y.n /\ (True /\ y.keep.length = (0 : Nat)) /\ (True /\
 y.conf.length = (0 : Nat)) /\ bs e.branch = bs y.branch /\ (True /\ y.map.length = (0 : Nat)) /\ (3 = 3 /\ e.edit.length = y.edit.length /\ ∀ (i : Nat), i <
 e.edit.length -> AV.agg [sl (e.edit.getD i ([], false, [])).fst, bl (e.edit.getD i ([], false, [])).snd.fst, sl (e.edit.getD i ([], false, [])).snd.snd] = AV.agg
 [sl (y.edit.getD i ([], false, [])).fst, bl (y.edit.getD i ([], false, [])).snd.fst, sl (y.edit.getD i ([], false, [])).snd.snd]) /\ e.author = y.author /\ bs
 e.note = bs y.note /\ (0 : Int) = y.ck /\ (0 : Int) = y.client /\ (0 : Int) = y.seq /\ ByteArray.mk #[] = bs y.cbranch /\ (IntKind.u8 = IntKind.u8 /\ 32 = 32 /\ ∀ (i :
 Nat), i < (32 : Nat) -> (0 : Int) = y.old i) /\ (IntKind.u8 = IntKind.u8 /\ 32 = 32 /\ ∀ (i : Nat), i < (32 : Nat) -> (0 : Int) = y.new i) /\ (True /\ List.length
 y.data = (0 : Nat)) /\ True) /\ True) /\ True /\ R (AV.agg [nm y.kind, nm y.node, nm y.to, nm y.n, AV.rows 1 y.keep.length (boolF y.keep), AV.rows 1 y.conf.length
 (intF y.conf), sl y.branch, AV.rows 2 y.map.length (rowF y.map), AV.rows 3 y.edit.length (chgF y.edit), AV.pl (Value.int IntKind.u32 y.author), sl y.note, nm
 y.ck, nm y.client, AV.pl (Value.int IntKind.u32 y.seq), sl y.cbranch, AV.iarr IntKind.u8 32 y.old, AV.iarr IntKind.u8 32 y.new, AV.rows 1 (List.length y.data)
 (byteF (bs y.data))]) []) := by kernel_rfl
theorem vSpoken13 (e y : Ev) (R : AV -> List LObj -> Prop) :
  (vcA false true 0 [2] Tryd.prog (mkTab [(40, .hand tkR TFieldsL), (41, .lend TStamped)]) (optC (Tryd.f56.body.getD .skip)) ([.unroll 4 3 true (fun _ => [])]) (finalK Tryd.prog Tryd.f56 (fun x H => ∃ _ : Unit, leSt 0 ⟨[x], H⟩ ⟨[y.av], []⟩ (R y.av []))) (startSt Tryd.f56 ([.agg (cellsK 13 e)]))) = (
 True /\ True /\ True /\ True /\ (True /\ True) /\ 64 = 64 /\ (True /\ True) /\ 64 = 64 /\ ((0 : Int) <= (0 : Int) /\ (0 : Int) + (1 : Int) <= (↑ (1 : Nat) : Int)) /\ True /\
 ((0 : Int) <= (0 : Int) /\ (0 : Int) + (1 : Int) <= (↑ (1 : Nat) : Int)) /\ ((0 : Int) <= (0 : Int) /\ (0 : Int) + (1 : Int) <= (↑ (1 : Nat) : Int)) /\ True /\ True /\
 True /\ True /\ True /\ True /\ True /\ (True /\ True) /\ (True /\ True /\ True /\ True /\ True /\ True /\ True /\ True /\ True /\ True /\ True /\ True /\ True /\ True /\ True /\ True
 /\ True /\ True /\ True) /\ ∃ (x : Unit), (((13 : Int) = y.kind /\ e.node = y.node /\ (0 : Int) = y.to /\ (0 : Int) = y.n /\ (True /\ y.keep.length = (0 : Nat)) /\ (True /\
 y.conf.length = (0 : Nat)) /\ bs e.branch = bs y.branch /\ (True /\ y.map.length = (0 : Nat)) /\ (3 = 3 /\ e.edit.length = y.edit.length /\ ∀ (i : Nat), i <
 e.edit.length -> AV.agg [sl (e.edit.getD i ([], false, [])).fst, bl (e.edit.getD i ([], false, [])).snd.fst, sl (e.edit.getD i ([], false, [])).snd.snd] = AV.agg
 [sl (y.edit.getD i ([], false, [])).fst, bl (y.edit.getD i ([], false, [])).snd.fst, sl (y.edit.getD i ([], false, [])).snd.snd]) /\ e.author = y.author /\ bs
 e.note = bs y.note /\ (0 : Int) = y.ck /\ (0 : Int) = y.client /\ (0 : Int) = y.seq /\ ByteArray.mk #[] = bs y.cbranch /\ (IntKind.u8 = IntKind.u8 /\ 32 = 32 /\ ∀ (i :
 Nat), i < (32 : Nat) -> (0 : Int) = y.old i) /\ (IntKind.u8 = IntKind.u8 /\ 32 = 32 /\ ∀ (i : Nat), i < (32 : Nat) -> (0 : Int) = y.new i) /\ (True /\ List.length
 y.data = (0 : Nat)) /\ True) /\ True) /\ True /\ R (AV.agg [nm y.kind, nm y.node, nm y.to, nm y.n, AV.rows 1 y.keep.length (boolF y.keep), AV.rows 1 y.conf.length
 (intF y.conf), sl y.branch, AV.rows 2 y.map.length (rowF y.map), AV.rows 3 y.edit.length (chgF y.edit), AV.pl (Value.int IntKind.u32 y.author), sl y.note, nm
 y.ck, nm y.client, AV.pl (Value.int IntKind.u32 y.seq), sl y.cbranch, AV.iarr IntKind.u8 32 y.old, AV.iarr IntKind.u8 32 y.new, AV.rows 1 (List.length y.data)
 (byteF (bs y.data))]) []) := by kernel_rfl
theorem vSpoken14 (e y : Ev) (R : AV -> List LObj -> Prop) :
  (vcA false true 0 [2] Tryd.prog (mkTab [(40, .hand tkR TFieldsL), (41, .lend TStamped)]) (optC (Tryd.f56.body.getD .skip)) ([.unroll 4 3 true (fun _ => [])]) (finalK Tryd.prog Tryd.f56 (fun x H => ∃ _ : Unit, leSt 0 ⟨[x], H⟩ ⟨[y.av], []⟩ (R y.av []))) (startSt Tryd.f56 ([.agg (cellsK 14 e)]))) = (
 True /\ True /\ True /\ True /\ (True /\ True) /\ 64 = 64 /\ (True /\ True) /\ 64 = 64 /\ ((0 : Int) <= (0 : Int) /\ (0 : Int) + (1 : Int) <= (↑ (2 : Nat) : Int)) /\ True /\
 ((0 : Int) <= (0 : Int) /\ (0 : Int) + (1 : Int) <= (↑ (2 : Nat) : Int)) /\ ((0 : Int) <= (0 : Int) /\ (0 : Int) + (1 : Int) <= (↑ (2 : Nat) : Int)) /\ True /\ True /\
 True /\ ((0 : Int) <= IntKind.i64.wrap ((0 : Int) + (1 : Int)) /\ IntKind.i64.wrap ((0 : Int) + (1 : Int)) + (1 : Int) <= (↑ (2 : Nat) : Int)) /\ True /\ ((0 : Int) ≤
 IntKind.i64.wrap ((0 : Int) + (1 : Int)) /\ IntKind.i64.wrap ((0 : Int) + (1 : Int)) + (1 : Int) <= (↑ (2 : Nat) : Int)) /\ ((0 : Int) <= IntKind.i64.wrap ((0 : Int)
 + (1 : Int)) /\ IntKind.i64.wrap ((0 : Int) + (1 : Int)) + (1 : Int) <= (↑ (2 : Nat) : Int)) /\ True /\ True /\ True /\ True /\ True /\ True /\ (True /\ True) /\ (True /\
 True /\ True /\ True /\ True /\ True /\ True /\ True /\ True /\ True /\ True /\ True /\ True /\ True /\ True /\ True /\ True /\ True /\ True) /\ ∃ (x : Unit), (((14 : Int) =
 y.kind /\ e.node = y.node /\ (0 : Int) = y.to /\ (0 : Int) = y.n /\ (True /\ y.keep.length = (0 : Nat)) /\ (True /\ y.conf.length = (0 : Nat)) /\ ByteArray.mk #[] = bs
 y.branch /\ (True /\ y.map.length = (0 : Nat)) /\ (True /\ y.edit.length = (0 : Nat)) /\ (0 : Int) = y.author /\ ByteArray.mk #[] = bs y.note /\ e.ck = y.ck /\ (0 : Int)
 = y.client /\ (0 : Int) = y.seq /\ bs e.cbranch = bs y.cbranch /\ (IntKind.u8 = IntKind.u8 /\ 32 = 32 /\ ∀ (i : Nat), i < (32 : Nat) -> (0 : Int) = y.old i) /\
 (IntKind.u8 = IntKind.u8 /\ 32 = 32 /\ ∀ (i : Nat), i < (32 : Nat) -> e.new i = y.new i) /\ (True /\ List.length y.data = (0 : Nat)) /\ True) /\ True) /\ True /\ R
 (AV.agg [nm y.kind, nm y.node, nm y.to, nm y.n, AV.rows 1 y.keep.length (boolF y.keep), AV.rows 1 y.conf.length (intF y.conf), sl y.branch, AV.rows 2
 y.map.length (rowF y.map), AV.rows 3 y.edit.length (chgF y.edit), AV.pl (Value.int IntKind.u32 y.author), sl y.note, nm y.ck, nm y.client, AV.pl (Value.int
 IntKind.u32 y.seq), sl y.cbranch, AV.iarr IntKind.u8 32 y.old, AV.iarr IntKind.u8 32 y.new, AV.rows 1 (List.length y.data) (byteF (bs y.data))]) []) := by kernel_rfl
theorem vSpoken15 (e y : Ev) (R : AV -> List LObj -> Prop) :
  (vcA false true 0 [2] Tryd.prog (mkTab [(40, .hand tkR TFieldsL), (41, .lend TStamped)]) (optC (Tryd.f56.body.getD .skip)) ([.unroll 4 3 true (fun _ => [])]) (finalK Tryd.prog Tryd.f56 (fun x H => ∃ _ : Unit, leSt 0 ⟨[x], H⟩ ⟨[y.av], []⟩ (R y.av []))) (startSt Tryd.f56 ([.agg (cellsK 15 e)]))) = (
 True /\ True /\ True /\ True /\ (True /\ True) /\ 64 = 64 /\ (True /\ True) /\ 64 = 64 /\ ((0 : Int) <= (0 : Int) /\ (0 : Int) + (1 : Int) <= (↑ (2 : Nat) : Int)) /\ True /\
 ((0 : Int) <= (0 : Int) /\ (0 : Int) + (1 : Int) <= (↑ (2 : Nat) : Int)) /\ ((0 : Int) <= (0 : Int) /\ (0 : Int) + (1 : Int) <= (↑ (2 : Nat) : Int)) /\ True /\ True /\
 True /\ ((0 : Int) <= IntKind.i64.wrap ((0 : Int) + (1 : Int)) /\ IntKind.i64.wrap ((0 : Int) + (1 : Int)) + (1 : Int) <= (↑ (2 : Nat) : Int)) /\ True /\ ((0 : Int) ≤
 IntKind.i64.wrap ((0 : Int) + (1 : Int)) /\ IntKind.i64.wrap ((0 : Int) + (1 : Int)) + (1 : Int) <= (↑ (2 : Nat) : Int)) /\ ((0 : Int) <= IntKind.i64.wrap ((0 : Int)
 + (1 : Int)) /\ IntKind.i64.wrap ((0 : Int) + (1 : Int)) + (1 : Int) <= (↑ (2 : Nat) : Int)) /\ True /\ True /\ True /\ True /\ (True /\ True) /\ (True /\ True /\ True /\
 True /\ True /\ True /\ True /\ True /\ True /\ True /\ True /\ True /\ True /\ True /\ True /\ True /\ True /\ True /\ True) /\ ∃ (x : Unit), (((15 : Int) = y.kind /\ e.node =
 y.node /\ e.to = y.to /\ (0 : Int) = y.n /\ (True /\ y.keep.length = (0 : Nat)) /\ (True /\ y.conf.length = (0 : Nat)) /\ ByteArray.mk #[] = bs y.branch /\ (True /\
 y.map.length = (0 : Nat)) /\ (True /\ y.edit.length = (0 : Nat)) /\ (0 : Int) = y.author /\ ByteArray.mk #[] = bs y.note /\ (0 : Int) = y.ck /\ (0 : Int) = y.client /\
 (0 : Int) = y.seq /\ ByteArray.mk #[] = bs y.cbranch /\ (IntKind.u8 = IntKind.u8 /\ 32 = 32 /\ ∀ (i : Nat), i < (32 : Nat) -> (0 : Int) = y.old i) /\ (IntKind.u8 =
 IntKind.u8 /\ 32 = 32 /\ ∀ (i : Nat), i < (32 : Nat) -> (0 : Int) = y.new i) /\ (True /\ List.length y.data = (0 : Nat)) /\ True) /\ True) /\ True /\ R (AV.agg [nm
 y.kind, nm y.node, nm y.to, nm y.n, AV.rows 1 y.keep.length (boolF y.keep), AV.rows 1 y.conf.length (intF y.conf), sl y.branch, AV.rows 2 y.map.length (rowF
 y.map), AV.rows 3 y.edit.length (chgF y.edit), AV.pl (Value.int IntKind.u32 y.author), sl y.note, nm y.ck, nm y.client, AV.pl (Value.int IntKind.u32 y.seq), sl
 y.cbranch, AV.iarr IntKind.u8 32 y.old, AV.iarr IntKind.u8 32 y.new, AV.rows 1 (List.length y.data) (byteF (bs y.data))]) []) := by kernel_rfl
theorem vWrong (e : Ev) (inv1 inv2 : Nat -> Prop) (R : AV -> List LObj -> Prop) :
  (vcA false false 0 [] Tryd.prog (mkTab [(56, .lend TSpoken), (55, .lend TSameEv), (57, .lend TLong)]) (optC (Tryd.f38.body.getD .skip)) ([.loop 7 Nat inv1 (fun i => ⟨slotsOf 98 0 [(1, .ptr 0 0 0 0), (3, .pl (.func (.func 57) ⟨[]⟩ ⟨[]⟩)), (58, mapAV e.map), (59, nm e.map.length), (60, nm i)], [.box tyEv e.cells]⟩) (fun i => e.map.length - i) (fun _ => []), .loop 13 Nat inv2 (fun i => ⟨slotsOf 98 0 [(1, .ptr 0 0 0 0), (3, .pl (.func (.func 57) ⟨[]⟩ ⟨[]⟩)), (74, editAV e.edit), (75, nm e.edit.length), (76, nm i)], [.box tyEv e.cells]⟩) (fun i => e.edit.length - i) (fun _ => [])]) (finalK Tryd.prog Tryd.f38 (R)) (startSt Tryd.f38 ([e.av]))) = (
 True /\ (gEq (bif decide (e.kind < (1 : Int)) then true else decide (e.kind > (15 : Int))) false = true -> ∃ (e_1 : Ev), (IsEv (AV.agg [nm e.kind, nm e.node, nm
 e.to, nm e.n, AV.rows 1 e.keep.length (boolF e.keep), AV.rows 1 e.conf.length (intF e.conf), sl e.branch, AV.rows 2 e.map.length (rowF e.map), AV.rows 3
 e.edit.length (chgF e.edit), AV.pl (Value.int IntKind.u32 e.author), sl e.note, nm e.ck, nm e.client, AV.pl (Value.int IntKind.u32 e.seq), sl e.cbranch, AV.iarr
 IntKind.u8 32 e.old, AV.iarr IntKind.u8 32 e.new, AV.rows 1 (List.length e.data) (byteF (bs e.data))]) e_1 /\ (1 : Int) <= e_1.kind /\ e_1.kind <= (15 : Int)) /\ ∃ (a
 : Ev), ∃ (b : Ev), (IsEv (AV.agg [nm e.kind, nm e.node, nm e.to, nm e.n, AV.rows 1 e.keep.length (boolF e.keep), AV.rows 1 e.conf.length (intF e.conf), sl
 e.branch, AV.rows 2 e.map.length (rowF e.map), AV.rows 3 e.edit.length (chgF e.edit), AV.pl (Value.int IntKind.u32 e.author), sl e.note, nm e.ck, nm e.client,
 AV.pl (Value.int IntKind.u32 e.seq), sl e.cbranch, AV.iarr IntKind.u8 32 e.old, AV.iarr IntKind.u8 32 e.new, AV.rows 1 (List.length e.data) (byteF (bs e.data))])
 a /\ IsEv (AV.agg [nm (spokenE e_1).kind, nm (spokenE e_1).node, nm (spokenE e_1).to, nm (spokenE e_1).n, AV.rows 1 (spokenE e_1).keep.length (boolF (spokenE
 e_1).keep), AV.rows 1 (spokenE e_1).conf.length (intF (spokenE e_1).conf), sl (spokenE e_1).branch, AV.rows 2 (spokenE e_1).map.length (rowF (spokenE e_1).map),
 AV.rows 3 (spokenE e_1).edit.length (chgF (spokenE e_1).edit), AV.pl (Value.int IntKind.u32 (spokenE e_1).author), sl (spokenE e_1).note, nm (spokenE e_1).ck, nm
 (spokenE e_1).client, AV.pl (Value.int IntKind.u32 (spokenE e_1).seq), sl (spokenE e_1).cbranch, AV.iarr IntKind.u8 32 (spokenE e_1).old, AV.iarr IntKind.u8 32
 (spokenE e_1).new, AV.rows 1 (List.length (spokenE e_1).data) (byteF (bs (spokenE e_1).data))]) b) /\ true = true /\ ((bif false then true else !sameE a b) = true
 -> (True /\ True) /\ True /\ R (bl true) []) /\ ((bif false then true else !sameE a b) = false -> (gEq (bif decide ((↑e.keep.length : Int) > (2048 : Int)) then true
 else decide ((if (↑e.edit.length : Int) > if (↑e.map.length : Int) > (↑e.conf.length : Int) then (↑e.map.length : Int) else (↑e.conf.length : Int) then
 (↑e.edit.length : Int) else if (↑e.map.length : Int) > (↑e.conf.length : Int) then (↑e.map.length : Int) else (↑e.conf.length : Int)) > (40 : Int))) false = true
 -> True /\ (((0 : Nat) + (3 : Nat)).le (3 : Nat) /\ True) /\ ∃ (ls : List Bs), (IsTexts (AV.rows 1 3 fun (i : Nat) => rowOf [((0 : Nat), sl e.branch), ((1 : Nat), sl
 e.note), ((2 : Nat), sl e.cbranch)] ((0 : Nat) + i)) ls /\ ls.length.le (1000 : Nat)) /\ True /\ True /\ true = true /\ ((bif false then true else ls.any longB) =
 true -> (True /\ True) /\ True /\ R (bl true) []) /\ ((bif false then true else ls.any longB) = false -> (∃ (x : Nat), ((True /\ 0 = 0 /\ 0 = 0 /\ 0 = 0) /\ Value.func
 (Fn.func (57 : Nat)) (Array.mk []) (Array.mk []) = Value.func (Fn.func (57 : Nat)) (Array.mk []) (Array.mk []) /\ (2 = 2 /\ e.map.length = e.map.length /\ ∀ (i :
 Nat), i < e.map.length -> rowF e.map i = rowF e.map i) /\ (↑e.map.length : Int) = (↑e.map.length : Int) /\ (0 : Int) = (x : Int) /\ True) /\ ((64 = 64 /\ e.kind =
 e.kind /\ e.node = e.node /\ e.to = e.to /\ e.n = e.n /\ (1 = 1 /\ e.keep.length = e.keep.length /\ ∀ (i : Nat), i < e.keep.length -> boolF e.keep i = boolF e.keep i) /\
 (1 = 1 /\ e.conf.length = e.conf.length /\ ∀ (i : Nat), i < e.conf.length -> intF e.conf i = intF e.conf i) /\ bs e.branch = bs e.branch /\ (2 = 2 /\ e.map.length =
 e.map.length /\ ∀ (i : Nat), i < e.map.length -> rowF e.map i = rowF e.map i) /\ (3 = 3 /\ e.edit.length = e.edit.length /\ ∀ (i : Nat), i < e.edit.length -> chgF
 e.edit i = chgF e.edit i) /\ e.author = e.author /\ bs e.note = bs e.note /\ e.ck = e.ck /\ e.client = e.client /\ e.seq = e.seq /\ bs e.cbranch = bs e.cbranch /\
 (IntKind.u8 = IntKind.u8 /\ 32 = 32 /\ ∀ (i : Nat), i < (32 : Nat) -> e.old i = e.old i) /\ (IntKind.u8 = IntKind.u8 /\ 32 = 32 /\ ∀ (i : Nat), i < (32 : Nat) -> e.new
 i = e.new i) /\ (1 = 1 /\ List.length e.data = List.length e.data /\ ∀ (i : Nat), i < List.length e.data -> byteF (bs e.data) i = byteF (bs e.data) i) /\ True) /\
 True) /\ inv1 x) /\ ∀ (x : Nat), inv1 x -> (decide ((x : Int) < (↑e.map.length : Int)) = true -> ((0 : Int) <= (x : Int) /\ (x : Int) + (1 : Int) <= (↑e.map.length :
 Int)) /\ True /\ True /\ True /\ (((0 : Nat) + (2 : Nat)).le (2 : Nat) /\ True) /\ ∃ (ls : List Bs), (IsTexts (AV.rows 1 2 fun (i : Nat) => rowOf [((0 : Nat), sl
 (e.map.getD (x : Int).toNat ([], [])).fst), ((1 : Nat), sl (e.map.getD (x : Int).toNat ([], [])).snd)] ((0 : Nat) + i)) ls /\ ls.length.le (1000 : Nat)) /\ True
 /\ True /\ (ls.any longB = true -> (True /\ True) /\ True /\ R (bl true) []) /\ (ls.any longB = false -> ∃ (y : Nat), ((True /\ 0 = 0 /\ 0 = 0 /\ 0 = 0) /\ Value.func
 (Fn.func (57 : Nat)) (Array.mk []) (Array.mk []) = Value.func (Fn.func (57 : Nat)) (Array.mk []) (Array.mk []) /\ (2 = 2 /\ e.map.length = e.map.length /\ ∀ (i :
 Nat), i < e.map.length -> rowF e.map i = rowF e.map i) /\ (↑e.map.length : Int) = (↑e.map.length : Int) /\ IntKind.i64.wrap ((x : Int) + (1 : Int)) = (y : Int) /\
 True) /\ ((64 = 64 /\ e.kind = e.kind /\ e.node = e.node /\ e.to = e.to /\ e.n = e.n /\ (1 = 1 /\ e.keep.length = e.keep.length /\ ∀ (i : Nat), i < e.keep.length -> boolF
 e.keep i = boolF e.keep i) /\ (1 = 1 /\ e.conf.length = e.conf.length /\ ∀ (i : Nat), i < e.conf.length -> intF e.conf i = intF e.conf i) /\ bs e.branch = bs e.branch
 /\ (2 = 2 /\ e.map.length = e.map.length /\ ∀ (i : Nat), i < e.map.length -> rowF e.map i = rowF e.map i) /\ (3 = 3 /\ e.edit.length = e.edit.length /\ ∀ (i : Nat), i <
 e.edit.length -> chgF e.edit i = chgF e.edit i) /\ e.author = e.author /\ bs e.note = bs e.note /\ e.ck = e.ck /\ e.client = e.client /\ e.seq = e.seq /\ bs e.cbranch =
 bs e.cbranch /\ (IntKind.u8 = IntKind.u8 /\ 32 = 32 /\ ∀ (i : Nat), i < (32 : Nat) -> e.old i = e.old i) /\ (IntKind.u8 = IntKind.u8 /\ 32 = 32 /\ ∀ (i : Nat), i < (32
 : Nat) -> e.new i = e.new i) /\ (1 = 1 /\ List.length e.data = List.length e.data /\ ∀ (i : Nat), i < List.length e.data -> byteF (bs e.data) i = byteF (bs e.data) i)
 /\ True) /\ True) /\ inv1 y /\ (e.map.length - y).succ.le (e.map.length - x))) /\ (decide ((x : Int) < (↑e.map.length : Int)) = false -> (∃ (x : Nat), ((True /\ 0 = 0
 /\ 0 = 0 /\ 0 = 0) /\ Value.func (Fn.func (57 : Nat)) (Array.mk []) (Array.mk []) = Value.func (Fn.func (57 : Nat)) (Array.mk []) (Array.mk []) /\ (3 = 3 /\
 e.edit.length = e.edit.length /\ ∀ (i : Nat), i < e.edit.length -> chgF e.edit i = chgF e.edit i) /\ (↑e.edit.length : Int) = (↑e.edit.length : Int) /\ (0 : Int) =
 (x : Int) /\ True) /\ ((64 = 64 /\ e.kind = e.kind /\ e.node = e.node /\ e.to = e.to /\ e.n = e.n /\ (1 = 1 /\ e.keep.length = e.keep.length /\ ∀ (i : Nat), i <
 e.keep.length -> boolF e.keep i = boolF e.keep i) /\ (1 = 1 /\ e.conf.length = e.conf.length /\ ∀ (i : Nat), i < e.conf.length -> intF e.conf i = intF e.conf i) /\ bs
 e.branch = bs e.branch /\ (2 = 2 /\ e.map.length = e.map.length /\ ∀ (i : Nat), i < e.map.length -> rowF e.map i = rowF e.map i) /\ (3 = 3 /\ e.edit.length =
 e.edit.length /\ ∀ (i : Nat), i < e.edit.length -> chgF e.edit i = chgF e.edit i) /\ e.author = e.author /\ bs e.note = bs e.note /\ e.ck = e.ck /\ e.client = e.client
 /\ e.seq = e.seq /\ bs e.cbranch = bs e.cbranch /\ (IntKind.u8 = IntKind.u8 /\ 32 = 32 /\ ∀ (i : Nat), i < (32 : Nat) -> e.old i = e.old i) /\ (IntKind.u8 = IntKind.u8
 /\ 32 = 32 /\ ∀ (i : Nat), i < (32 : Nat) -> e.new i = e.new i) /\ (1 = 1 /\ List.length e.data = List.length e.data /\ ∀ (i : Nat), i < List.length e.data -> byteF (bs
 e.data) i = byteF (bs e.data) i) /\ True) /\ True) /\ inv2 x) /\ ∀ (x : Nat), inv2 x -> (decide ((x : Int) < (↑e.edit.length : Int)) = true -> ((0 : Int) <= (x : Int)
 /\ (x : Int) + (1 : Int) <= (↑e.edit.length : Int)) /\ True /\ True /\ True /\ (((0 : Nat) + (2 : Nat)).le (2 : Nat) /\ True) /\ ∃ (ls : List Bs), (IsTexts (AV.rows 1 2
 fun (i : Nat) => rowOf [((0 : Nat), sl (e.edit.getD (x : Int).toNat ([], false, [])).fst), ((1 : Nat), sl (e.edit.getD (x : Int).toNat ([], false,
 [])).snd.snd)] ((0 : Nat) + i)) ls /\ ls.length.le (1000 : Nat)) /\ True /\ True /\ ((bif ls.any longB then true else bif ! (e.edit.getD (x : Int).toNat ([], false,
 [])).snd.fst then ! (bs (e.edit.getD (x : Int).toNat ([], false, [])).snd.snd).toList == (ByteArray.mk #[]).toList else false) = true -> (True /\ True) /\ True /\ R
 (bl true) []) /\ ((bif ls.any longB then true else bif ! (e.edit.getD (x : Int).toNat ([], false, [])).snd.fst then ! (bs (e.edit.getD (x : Int).toNat ([],
 false, [])).snd.snd).toList == (ByteArray.mk #[]).toList else false) = false -> ∃ (y : Nat), ((True /\ 0 = 0 /\ 0 = 0 /\ 0 = 0) /\ Value.func (Fn.func (57 : Nat))
 (Array.mk []) (Array.mk []) = Value.func (Fn.func (57 : Nat)) (Array.mk []) (Array.mk []) /\ (3 = 3 /\ e.edit.length = e.edit.length /\ ∀ (i : Nat), i <
 e.edit.length -> chgF e.edit i = chgF e.edit i) /\ (↑e.edit.length : Int) = (↑e.edit.length : Int) /\ IntKind.i64.wrap ((x : Int) + (1 : Int)) = (y : Int) /\ True)
 /\ ((64 = 64 /\ e.kind = e.kind /\ e.node = e.node /\ e.to = e.to /\ e.n = e.n /\ (1 = 1 /\ e.keep.length = e.keep.length /\ ∀ (i : Nat), i < e.keep.length -> boolF
 e.keep i = boolF e.keep i) /\ (1 = 1 /\ e.conf.length = e.conf.length /\ ∀ (i : Nat), i < e.conf.length -> intF e.conf i = intF e.conf i) /\ bs e.branch = bs e.branch
 /\ (2 = 2 /\ e.map.length = e.map.length /\ ∀ (i : Nat), i < e.map.length -> rowF e.map i = rowF e.map i) /\ (3 = 3 /\ e.edit.length = e.edit.length /\ ∀ (i : Nat), i <
 e.edit.length -> chgF e.edit i = chgF e.edit i) /\ e.author = e.author /\ bs e.note = bs e.note /\ e.ck = e.ck /\ e.client = e.client /\ e.seq = e.seq /\ bs e.cbranch =
 bs e.cbranch /\ (IntKind.u8 = IntKind.u8 /\ 32 = 32 /\ ∀ (i : Nat), i < (32 : Nat) -> e.old i = e.old i) /\ (IntKind.u8 = IntKind.u8 /\ 32 = 32 /\ ∀ (i : Nat), i < (32
 : Nat) -> e.new i = e.new i) /\ (1 = 1 /\ List.length e.data = List.length e.data /\ ∀ (i : Nat), i < List.length e.data -> byteF (bs e.data) i = byteF (bs e.data) i)
 /\ True) /\ True) /\ inv2 y /\ (e.edit.length - y).succ.le (e.edit.length - x))) /\ (decide ((x : Int) < (↑e.edit.length : Int)) = false -> (True /\ True) /\ True /\ R
 (bl false) [])))) /\ (gEq (bif decide ((↑e.keep.length : Int) > (2048 : Int)) then true else decide ((if (↑e.edit.length : Int) > if (↑e.map.length : Int) >
 (↑e.conf.length : Int) then (↑e.map.length : Int) else (↑e.conf.length : Int) then (↑e.edit.length : Int) else if (↑e.map.length : Int) > (↑e.conf.length : Int)
 then (↑e.map.length : Int) else (↑e.conf.length : Int)) > (40 : Int))) false = false -> true = true /\ (true = true -> (True /\ True) /\ True /\ R (bl true) []) /\
 (true = false -> (∃ (x : Nat), ((True /\ 0 = 0 /\ 0 = 0 /\ 0 = 0) /\ Value.func (Fn.func (57 : Nat)) (Array.mk []) (Array.mk []) = Value.func (Fn.func (57 : Nat))
 (Array.mk []) (Array.mk []) /\ (2 = 2 /\ e.map.length = e.map.length /\ ∀ (i : Nat), i < e.map.length -> rowF e.map i = rowF e.map i) /\ (↑e.map.length : Int) =
 (↑e.map.length : Int) /\ (0 : Int) = (x : Int) /\ True) /\ ((64 = 64 /\ e.kind = e.kind /\ e.node = e.node /\ e.to = e.to /\ e.n = e.n /\ (1 = 1 /\ e.keep.length =
 e.keep.length /\ ∀ (i : Nat), i < e.keep.length -> boolF e.keep i = boolF e.keep i) /\ (1 = 1 /\ e.conf.length = e.conf.length /\ ∀ (i : Nat), i < e.conf.length ->
 intF e.conf i = intF e.conf i) /\ bs e.branch = bs e.branch /\ (2 = 2 /\ e.map.length = e.map.length /\ ∀ (i : Nat), i < e.map.length -> rowF e.map i = rowF e.map i)
 /\ (3 = 3 /\ e.edit.length = e.edit.length /\ ∀ (i : Nat), i < e.edit.length -> chgF e.edit i = chgF e.edit i) /\ e.author = e.author /\ bs e.note = bs e.note /\ e.ck =
 e.ck /\ e.client = e.client /\ e.seq = e.seq /\ bs e.cbranch = bs e.cbranch /\ (IntKind.u8 = IntKind.u8 /\ 32 = 32 /\ ∀ (i : Nat), i < (32 : Nat) -> e.old i = e.old i)
 /\ (IntKind.u8 = IntKind.u8 /\ 32 = 32 /\ ∀ (i : Nat), i < (32 : Nat) -> e.new i = e.new i) /\ (1 = 1 /\ List.length e.data = List.length e.data /\ ∀ (i : Nat), i <
 List.length e.data -> byteF (bs e.data) i = byteF (bs e.data) i) /\ True) /\ True) /\ inv1 x) /\ ∀ (x : Nat), inv1 x -> (decide ((x : Int) < (↑e.map.length : Int)) =
 true -> ((0 : Int) <= (x : Int) /\ (x : Int) + (1 : Int) <= (↑e.map.length : Int)) /\ True /\ True /\ True /\ (((0 : Nat) + (2 : Nat)).le (2 : Nat) /\ True) /\ ∃ (ls :
 List Bs), (IsTexts (AV.rows 1 2 fun (i : Nat) => rowOf [((0 : Nat), sl (e.map.getD (x : Int).toNat ([], [])).fst), ((1 : Nat), sl (e.map.getD (x : Int).toNat
 ([], [])).snd)] ((0 : Nat) + i)) ls /\ ls.length.le (1000 : Nat)) /\ True /\ True /\ (ls.any longB = true -> (True /\ True) /\ True /\ R (bl true) []) /\ (ls.any longB =
 false -> ∃ (y : Nat), ((True /\ 0 = 0 /\ 0 = 0 /\ 0 = 0) /\ Value.func (Fn.func (57 : Nat)) (Array.mk []) (Array.mk []) = Value.func (Fn.func (57 : Nat)) (Array.mk
 []) (Array.mk []) /\ (2 = 2 /\ e.map.length = e.map.length /\ ∀ (i : Nat), i < e.map.length -> rowF e.map i = rowF e.map i) /\ (↑e.map.length : Int) = (↑e.map.length
 : Int) /\ IntKind.i64.wrap ((x : Int) + (1 : Int)) = (y : Int) /\ True) /\ ((64 = 64 /\ e.kind = e.kind /\ e.node = e.node /\ e.to = e.to /\ e.n = e.n /\ (1 = 1 /\
 e.keep.length = e.keep.length /\ ∀ (i : Nat), i < e.keep.length -> boolF e.keep i = boolF e.keep i) /\ (1 = 1 /\ e.conf.length = e.conf.length /\ ∀ (i : Nat), i <
 e.conf.length -> intF e.conf i = intF e.conf i) /\ bs e.branch = bs e.branch /\ (2 = 2 /\ e.map.length = e.map.length /\ ∀ (i : Nat), i < e.map.length -> rowF e.map i
 = rowF e.map i) /\ (3 = 3 /\ e.edit.length = e.edit.length /\ ∀ (i : Nat), i < e.edit.length -> chgF e.edit i = chgF e.edit i) /\ e.author = e.author /\ bs e.note = bs
 e.note /\ e.ck = e.ck /\ e.client = e.client /\ e.seq = e.seq /\ bs e.cbranch = bs e.cbranch /\ (IntKind.u8 = IntKind.u8 /\ 32 = 32 /\ ∀ (i : Nat), i < (32 : Nat) ->
 e.old i = e.old i) /\ (IntKind.u8 = IntKind.u8 /\ 32 = 32 /\ ∀ (i : Nat), i < (32 : Nat) -> e.new i = e.new i) /\ (1 = 1 /\ List.length e.data = List.length e.data /\ ∀
 (i : Nat), i < List.length e.data -> byteF (bs e.data) i = byteF (bs e.data) i) /\ True) /\ True) /\ inv1 y /\ (e.map.length - y).succ.le (e.map.length - x))) /\
 (decide ((x : Int) < (↑e.map.length : Int)) = false -> (∃ (x : Nat), ((True /\ 0 = 0 /\ 0 = 0 /\ 0 = 0) /\ Value.func (Fn.func (57 : Nat)) (Array.mk []) (Array.mk
 []) = Value.func (Fn.func (57 : Nat)) (Array.mk []) (Array.mk []) /\ (3 = 3 /\ e.edit.length = e.edit.length /\ ∀ (i : Nat), i < e.edit.length -> chgF e.edit i =
 chgF e.edit i) /\ (↑e.edit.length : Int) = (↑e.edit.length : Int) /\ (0 : Int) = (x : Int) /\ True) /\ ((64 = 64 /\ e.kind = e.kind /\ e.node = e.node /\ e.to = e.to /\
 e.n = e.n /\ (1 = 1 /\ e.keep.length = e.keep.length /\ ∀ (i : Nat), i < e.keep.length -> boolF e.keep i = boolF e.keep i) /\ (1 = 1 /\ e.conf.length = e.conf.length /\
 ∀ (i : Nat), i < e.conf.length -> intF e.conf i = intF e.conf i) /\ bs e.branch = bs e.branch /\ (2 = 2 /\ e.map.length = e.map.length /\ ∀ (i : Nat), i <
 e.map.length -> rowF e.map i = rowF e.map i) /\ (3 = 3 /\ e.edit.length = e.edit.length /\ ∀ (i : Nat), i < e.edit.length -> chgF e.edit i = chgF e.edit i) /\ e.author
 = e.author /\ bs e.note = bs e.note /\ e.ck = e.ck /\ e.client = e.client /\ e.seq = e.seq /\ bs e.cbranch = bs e.cbranch /\ (IntKind.u8 = IntKind.u8 /\ 32 = 32 /\ ∀ (i
 : Nat), i < (32 : Nat) -> e.old i = e.old i) /\ (IntKind.u8 = IntKind.u8 /\ 32 = 32 /\ ∀ (i : Nat), i < (32 : Nat) -> e.new i = e.new i) /\ (1 = 1 /\ List.length e.data
 = List.length e.data /\ ∀ (i : Nat), i < List.length e.data -> byteF (bs e.data) i = byteF (bs e.data) i) /\ True) /\ True) /\ inv2 x) /\ ∀ (x : Nat), inv2 x -> (decide
 ((x : Int) < (↑e.edit.length : Int)) = true -> ((0 : Int) <= (x : Int) /\ (x : Int) + (1 : Int) <= (↑e.edit.length : Int)) /\ True /\ True /\ True /\ (((0 : Nat) + (2
 : Nat)).le (2 : Nat) /\ True) /\ ∃ (ls : List Bs), (IsTexts (AV.rows 1 2 fun (i : Nat) => rowOf [((0 : Nat), sl (e.edit.getD (x : Int).toNat ([], false,
 [])).fst), ((1 : Nat), sl (e.edit.getD (x : Int).toNat ([], false, [])).snd.snd)] ((0 : Nat) + i)) ls /\ ls.length.le (1000 : Nat)) /\ True /\ True /\ ((bif ls.any
 longB then true else bif ! (e.edit.getD (x : Int).toNat ([], false, [])).snd.fst then ! (bs (e.edit.getD (x : Int).toNat ([], false, [])).snd.snd).toList ==
 (ByteArray.mk #[]).toList else false) = true -> (True /\ True) /\ True /\ R (bl true) []) /\ ((bif ls.any longB then true else bif ! (e.edit.getD (x : Int).toNat
 ([], false, [])).snd.fst then ! (bs (e.edit.getD (x : Int).toNat ([], false, [])).snd.snd).toList == (ByteArray.mk #[]).toList else false) = false -> ∃ (y :
 Nat), ((True /\ 0 = 0 /\ 0 = 0 /\ 0 = 0) /\ Value.func (Fn.func (57 : Nat)) (Array.mk []) (Array.mk []) = Value.func (Fn.func (57 : Nat)) (Array.mk []) (Array.mk [])
 /\ (3 = 3 /\ e.edit.length = e.edit.length /\ ∀ (i : Nat), i < e.edit.length -> chgF e.edit i = chgF e.edit i) /\ (↑e.edit.length : Int) = (↑e.edit.length : Int) /\
 IntKind.i64.wrap ((x : Int) + (1 : Int)) = (y : Int) /\ True) /\ ((64 = 64 /\ e.kind = e.kind /\ e.node = e.node /\ e.to = e.to /\ e.n = e.n /\ (1 = 1 /\ e.keep.length
 = e.keep.length /\ ∀ (i : Nat), i < e.keep.length -> boolF e.keep i = boolF e.keep i) /\ (1 = 1 /\ e.conf.length = e.conf.length /\ ∀ (i : Nat), i < e.conf.length ->
 intF e.conf i = intF e.conf i) /\ bs e.branch = bs e.branch /\ (2 = 2 /\ e.map.length = e.map.length /\ ∀ (i : Nat), i < e.map.length -> rowF e.map i = rowF e.map i)
 /\ (3 = 3 /\ e.edit.length = e.edit.length /\ ∀ (i : Nat), i < e.edit.length -> chgF e.edit i = chgF e.edit i) /\ e.author = e.author /\ bs e.note = bs e.note /\ e.ck =
 e.ck /\ e.client = e.client /\ e.seq = e.seq /\ bs e.cbranch = bs e.cbranch /\ (IntKind.u8 = IntKind.u8 /\ 32 = 32 /\ ∀ (i : Nat), i < (32 : Nat) -> e.old i = e.old i)
 /\ (IntKind.u8 = IntKind.u8 /\ 32 = 32 /\ ∀ (i : Nat), i < (32 : Nat) -> e.new i = e.new i) /\ (1 = 1 /\ List.length e.data = List.length e.data /\ ∀ (i : Nat), i <
 List.length e.data -> byteF (bs e.data) i = byteF (bs e.data) i) /\ True) /\ True) /\ inv2 y /\ (e.edit.length - y).succ.le (e.edit.length - x))) /\ (decide ((↑x :
 Int) < (↑e.edit.length : Int)) = false -> (True /\ True) /\ True /\ R (bl false) [])))))) /\ (gEq (bif decide (e.kind < (1 : Int)) then true else decide (e.kind > (15
 : Int))) false = false -> true = true /\ (true = true -> (True /\ True) /\ True /\ R (bl true) []) /\ (true = false -> (gEq (bif decide ((↑e.keep.length : Int) > (2048 :
 Int)) then true else decide ((if (↑e.edit.length : Int) > if (↑e.map.length : Int) > (↑e.conf.length : Int) then (↑e.map.length : Int) else (↑e.conf.length :
 Int) then (↑e.edit.length : Int) else if (↑e.map.length : Int) > (↑e.conf.length : Int) then (↑e.map.length : Int) else (↑e.conf.length : Int)) > (40 : Int)))
 false = true -> True /\ (((0 : Nat) + (3 : Nat)).le (3 : Nat) /\ True) /\ ∃ (ls : List Bs), (IsTexts (AV.rows 1 3 fun (i : Nat) => rowOf [((0 : Nat), sl e.branch),
 ((1 : Nat), sl e.note), ((2 : Nat), sl e.cbranch)] ((0 : Nat) + i)) ls /\ ls.length.le (1000 : Nat)) /\ True /\ True /\ true = true /\ ((bif false then true else
 ls.any longB) = true -> (True /\ True) /\ True /\ R (bl true) []) /\ ((bif false then true else ls.any longB) = false -> (∃ (x : Nat), ((True /\ 0 = 0 /\ 0 = 0 /\ 0 = 0)
 /\ Value.func (Fn.func (57 : Nat)) (Array.mk []) (Array.mk []) = Value.func (Fn.func (57 : Nat)) (Array.mk []) (Array.mk []) /\ (2 = 2 /\ e.map.length =
 e.map.length /\ ∀ (i : Nat), i < e.map.length -> rowF e.map i = rowF e.map i) /\ (↑e.map.length : Int) = (↑e.map.length : Int) /\ (0 : Int) = (x : Int) /\ True) /\
 ((64 = 64 /\ e.kind = e.kind /\ e.node = e.node /\ e.to = e.to /\ e.n = e.n /\ (1 = 1 /\ e.keep.length = e.keep.length /\ ∀ (i : Nat), i < e.keep.length -> boolF e.keep
 i = boolF e.keep i) /\ (1 = 1 /\ e.conf.length = e.conf.length /\ ∀ (i : Nat), i < e.conf.length -> intF e.conf i = intF e.conf i) /\ bs e.branch = bs e.branch /\ (2 =
 2 /\ e.map.length = e.map.length /\ ∀ (i : Nat), i < e.map.length -> rowF e.map i = rowF e.map i) /\ (3 = 3 /\ e.edit.length = e.edit.length /\ ∀ (i : Nat), i <
 e.edit.length -> chgF e.edit i = chgF e.edit i) /\ e.author = e.author /\ bs e.note = bs e.note /\ e.ck = e.ck /\ e.client = e.client /\ e.seq = e.seq /\ bs e.cbranch =
 bs e.cbranch /\ (IntKind.u8 = IntKind.u8 /\ 32 = 32 /\ ∀ (i : Nat), i < (32 : Nat) -> e.old i = e.old i) /\ (IntKind.u8 = IntKind.u8 /\ 32 = 32 /\ ∀ (i : Nat), i < (32
 : Nat) -> e.new i = e.new i) /\ (1 = 1 /\ List.length e.data = List.length e.data /\ ∀ (i : Nat), i < List.length e.data -> byteF (bs e.data) i = byteF (bs e.data) i)
 /\ True) /\ True) /\ inv1 x) /\ ∀ (x : Nat), inv1 x -> (decide ((x : Int) < (↑e.map.length : Int)) = true -> ((0 : Int) <= (x : Int) /\ (x : Int) + (1 : Int) ≤
 (↑e.map.length : Int)) /\ True /\ True /\ True /\ (((0 : Nat) + (2 : Nat)).le (2 : Nat) /\ True) /\ ∃ (ls : List Bs), (IsTexts (AV.rows 1 2 fun (i : Nat) => rowOf [((0
 : Nat), sl (e.map.getD (x : Int).toNat ([], [])).fst), ((1 : Nat), sl (e.map.getD (x : Int).toNat ([], [])).snd)] ((0 : Nat) + i)) ls /\ ls.length.le (1000 :
 Nat)) /\ True /\ True /\ (ls.any longB = true -> (True /\ True) /\ True /\ R (bl true) []) /\ (ls.any longB = false -> ∃ (y : Nat), ((True /\ 0 = 0 /\ 0 = 0 /\ 0 = 0) /\
 Value.func (Fn.func (57 : Nat)) (Array.mk []) (Array.mk []) = Value.func (Fn.func (57 : Nat)) (Array.mk []) (Array.mk []) /\ (2 = 2 /\ e.map.length = e.map.length
 /\ ∀ (i : Nat), i < e.map.length -> rowF e.map i = rowF e.map i) /\ (↑e.map.length : Int) = (↑e.map.length : Int) /\ IntKind.i64.wrap ((x : Int) + (1 : Int)) = (↑y
 : Int) /\ True) /\ ((64 = 64 /\ e.kind = e.kind /\ e.node = e.node /\ e.to = e.to /\ e.n = e.n /\ (1 = 1 /\ e.keep.length = e.keep.length /\ ∀ (i : Nat), i <
 e.keep.length -> boolF e.keep i = boolF e.keep i) /\ (1 = 1 /\ e.conf.length = e.conf.length /\ ∀ (i : Nat), i < e.conf.length -> intF e.conf i = intF e.conf i) /\ bs
 e.branch = bs e.branch /\ (2 = 2 /\ e.map.length = e.map.length /\ ∀ (i : Nat), i < e.map.length -> rowF e.map i = rowF e.map i) /\ (3 = 3 /\ e.edit.length =
 e.edit.length /\ ∀ (i : Nat), i < e.edit.length -> chgF e.edit i = chgF e.edit i) /\ e.author = e.author /\ bs e.note = bs e.note /\ e.ck = e.ck /\ e.client = e.client
 /\ e.seq = e.seq /\ bs e.cbranch = bs e.cbranch /\ (IntKind.u8 = IntKind.u8 /\ 32 = 32 /\ ∀ (i : Nat), i < (32 : Nat) -> e.old i = e.old i) /\ (IntKind.u8 = IntKind.u8
 /\ 32 = 32 /\ ∀ (i : Nat), i < (32 : Nat) -> e.new i = e.new i) /\ (1 = 1 /\ List.length e.data = List.length e.data /\ ∀ (i : Nat), i < List.length e.data -> byteF (bs
 e.data) i = byteF (bs e.data) i) /\ True) /\ True) /\ inv1 y /\ (e.map.length - y).succ.le (e.map.length - x))) /\ (decide ((x : Int) < (↑e.map.length : Int)) =
 false -> (∃ (x : Nat), ((True /\ 0 = 0 /\ 0 = 0 /\ 0 = 0) /\ Value.func (Fn.func (57 : Nat)) (Array.mk []) (Array.mk []) = Value.func (Fn.func (57 : Nat)) (Array.mk
 []) (Array.mk []) /\ (3 = 3 /\ e.edit.length = e.edit.length /\ ∀ (i : Nat), i < e.edit.length -> chgF e.edit i = chgF e.edit i) /\ (↑e.edit.length : Int) =
 (↑e.edit.length : Int) /\ (0 : Int) = (x : Int) /\ True) /\ ((64 = 64 /\ e.kind = e.kind /\ e.node = e.node /\ e.to = e.to /\ e.n = e.n /\ (1 = 1 /\ e.keep.length =
 e.keep.length /\ ∀ (i : Nat), i < e.keep.length -> boolF e.keep i = boolF e.keep i) /\ (1 = 1 /\ e.conf.length = e.conf.length /\ ∀ (i : Nat), i < e.conf.length ->
 intF e.conf i = intF e.conf i) /\ bs e.branch = bs e.branch /\ (2 = 2 /\ e.map.length = e.map.length /\ ∀ (i : Nat), i < e.map.length -> rowF e.map i = rowF e.map i)
 /\ (3 = 3 /\ e.edit.length = e.edit.length /\ ∀ (i : Nat), i < e.edit.length -> chgF e.edit i = chgF e.edit i) /\ e.author = e.author /\ bs e.note = bs e.note /\ e.ck =
 e.ck /\ e.client = e.client /\ e.seq = e.seq /\ bs e.cbranch = bs e.cbranch /\ (IntKind.u8 = IntKind.u8 /\ 32 = 32 /\ ∀ (i : Nat), i < (32 : Nat) -> e.old i = e.old i)
 /\ (IntKind.u8 = IntKind.u8 /\ 32 = 32 /\ ∀ (i : Nat), i < (32 : Nat) -> e.new i = e.new i) /\ (1 = 1 /\ List.length e.data = List.length e.data /\ ∀ (i : Nat), i <
 List.length e.data -> byteF (bs e.data) i = byteF (bs e.data) i) /\ True) /\ True) /\ inv2 x) /\ ∀ (x : Nat), inv2 x -> (decide ((x : Int) < (↑e.edit.length : Int)) =
 true -> ((0 : Int) <= (x : Int) /\ (x : Int) + (1 : Int) <= (↑e.edit.length : Int)) /\ True /\ True /\ True /\ (((0 : Nat) + (2 : Nat)).le (2 : Nat) /\ True) /\ ∃ (ls :
 List Bs), (IsTexts (AV.rows 1 2 fun (i : Nat) => rowOf [((0 : Nat), sl (e.edit.getD (x : Int).toNat ([], false, [])).fst), ((1 : Nat), sl (e.edit.getD (↑x :
 Int).toNat ([], false, [])).snd.snd)] ((0 : Nat) + i)) ls /\ ls.length.le (1000 : Nat)) /\ True /\ True /\ ((bif ls.any longB then true else bif ! (e.edit.getD (↑x :
 Int).toNat ([], false, [])).snd.fst then ! (bs (e.edit.getD (x : Int).toNat ([], false, [])).snd.snd).toList == (ByteArray.mk #[]).toList else false) = true ->
 (True /\ True) /\ True /\ R (bl true) []) /\ ((bif ls.any longB then true else bif ! (e.edit.getD (x : Int).toNat ([], false, [])).snd.fst then ! (bs (e.edit.getD
 (x : Int).toNat ([], false, [])).snd.snd).toList == (ByteArray.mk #[]).toList else false) = false -> ∃ (y : Nat), ((True /\ 0 = 0 /\ 0 = 0 /\ 0 = 0) /\ Value.func
 (Fn.func (57 : Nat)) (Array.mk []) (Array.mk []) = Value.func (Fn.func (57 : Nat)) (Array.mk []) (Array.mk []) /\ (3 = 3 /\ e.edit.length = e.edit.length /\ ∀ (i :
 Nat), i < e.edit.length -> chgF e.edit i = chgF e.edit i) /\ (↑e.edit.length : Int) = (↑e.edit.length : Int) /\ IntKind.i64.wrap ((x : Int) + (1 : Int)) = (↑y :
 Int) /\ True) /\ ((64 = 64 /\ e.kind = e.kind /\ e.node = e.node /\ e.to = e.to /\ e.n = e.n /\ (1 = 1 /\ e.keep.length = e.keep.length /\ ∀ (i : Nat), i < e.keep.length
 -> boolF e.keep i = boolF e.keep i) /\ (1 = 1 /\ e.conf.length = e.conf.length /\ ∀ (i : Nat), i < e.conf.length -> intF e.conf i = intF e.conf i) /\ bs e.branch = bs
 e.branch /\ (2 = 2 /\ e.map.length = e.map.length /\ ∀ (i : Nat), i < e.map.length -> rowF e.map i = rowF e.map i) /\ (3 = 3 /\ e.edit.length = e.edit.length /\ ∀ (i :
 Nat), i < e.edit.length -> chgF e.edit i = chgF e.edit i) /\ e.author = e.author /\ bs e.note = bs e.note /\ e.ck = e.ck /\ e.client = e.client /\ e.seq = e.seq /\ bs
 e.cbranch = bs e.cbranch /\ (IntKind.u8 = IntKind.u8 /\ 32 = 32 /\ ∀ (i : Nat), i < (32 : Nat) -> e.old i = e.old i) /\ (IntKind.u8 = IntKind.u8 /\ 32 = 32 /\ ∀ (i :
 Nat), i < (32 : Nat) -> e.new i = e.new i) /\ (1 = 1 /\ List.length e.data = List.length e.data /\ ∀ (i : Nat), i < List.length e.data -> byteF (bs e.data) i = byteF
 (bs e.data) i) /\ True) /\ True) /\ inv2 y /\ (e.edit.length - y).succ.le (e.edit.length - x))) /\ (decide ((x : Int) < (↑e.edit.length : Int)) = false -> (True /\
 True) /\ True /\ R (bl false) [])))) /\ (gEq (bif decide ((↑e.keep.length : Int) > (2048 : Int)) then true else decide ((if (↑e.edit.length : Int) > if
 (↑e.map.length : Int) > (↑e.conf.length : Int) then (↑e.map.length : Int) else (↑e.conf.length : Int) then (↑e.edit.length : Int) else if (↑e.map.length : Int) >
 (↑e.conf.length : Int) then (↑e.map.length : Int) else (↑e.conf.length : Int)) > (40 : Int))) false = false -> true = true /\ (true = true -> (True /\ True) /\ True /\
 R (bl true) []) /\ (true = false -> (∃ (x : Nat), ((True /\ 0 = 0 /\ 0 = 0 /\ 0 = 0) /\ Value.func (Fn.func (57 : Nat)) (Array.mk []) (Array.mk []) = Value.func
 (Fn.func (57 : Nat)) (Array.mk []) (Array.mk []) /\ (2 = 2 /\ e.map.length = e.map.length /\ ∀ (i : Nat), i < e.map.length -> rowF e.map i = rowF e.map i) /\
 (↑e.map.length : Int) = (↑e.map.length : Int) /\ (0 : Int) = (x : Int) /\ True) /\ ((64 = 64 /\ e.kind = e.kind /\ e.node = e.node /\ e.to = e.to /\ e.n = e.n /\ (1 = 1
 /\ e.keep.length = e.keep.length /\ ∀ (i : Nat), i < e.keep.length -> boolF e.keep i = boolF e.keep i) /\ (1 = 1 /\ e.conf.length = e.conf.length /\ ∀ (i : Nat), i <
 e.conf.length -> intF e.conf i = intF e.conf i) /\ bs e.branch = bs e.branch /\ (2 = 2 /\ e.map.length = e.map.length /\ ∀ (i : Nat), i < e.map.length -> rowF e.map i
 = rowF e.map i) /\ (3 = 3 /\ e.edit.length = e.edit.length /\ ∀ (i : Nat), i < e.edit.length -> chgF e.edit i = chgF e.edit i) /\ e.author = e.author /\ bs e.note = bs
 e.note /\ e.ck = e.ck /\ e.client = e.client /\ e.seq = e.seq /\ bs e.cbranch = bs e.cbranch /\ (IntKind.u8 = IntKind.u8 /\ 32 = 32 /\ ∀ (i : Nat), i < (32 : Nat) ->
 e.old i = e.old i) /\ (IntKind.u8 = IntKind.u8 /\ 32 = 32 /\ ∀ (i : Nat), i < (32 : Nat) -> e.new i = e.new i) /\ (1 = 1 /\ List.length e.data = List.length e.data /\ ∀
 (i : Nat), i < List.length e.data -> byteF (bs e.data) i = byteF (bs e.data) i) /\ True) /\ True) /\ inv1 x) /\ ∀ (x : Nat), inv1 x -> (decide ((x : Int) <
 (↑e.map.length : Int)) = true -> ((0 : Int) <= (x : Int) /\ (x : Int) + (1 : Int) <= (↑e.map.length : Int)) /\ True /\ True /\ True /\ (((0 : Nat) + (2 : Nat)).le (2 :
 Nat) /\ True) /\ ∃ (ls : List Bs), (IsTexts (AV.rows 1 2 fun (i : Nat) => rowOf [((0 : Nat), sl (e.map.getD (x : Int).toNat ([], [])).fst), ((1 : Nat), sl
 (e.map.getD (x : Int).toNat ([], [])).snd)] ((0 : Nat) + i)) ls /\ ls.length.le (1000 : Nat)) /\ True /\ True /\ (ls.any longB = true -> (True /\ True) /\ True /\ R (bl
 true) []) /\ (ls.any longB = false -> ∃ (y : Nat), ((True /\ 0 = 0 /\ 0 = 0 /\ 0 = 0) /\ Value.func (Fn.func (57 : Nat)) (Array.mk []) (Array.mk []) = Value.func
 (Fn.func (57 : Nat)) (Array.mk []) (Array.mk []) /\ (2 = 2 /\ e.map.length = e.map.length /\ ∀ (i : Nat), i < e.map.length -> rowF e.map i = rowF e.map i) /\
 (↑e.map.length : Int) = (↑e.map.length : Int) /\ IntKind.i64.wrap ((x : Int) + (1 : Int)) = (y : Int) /\ True) /\ ((64 = 64 /\ e.kind = e.kind /\ e.node = e.node /\
 e.to = e.to /\ e.n = e.n /\ (1 = 1 /\ e.keep.length = e.keep.length /\ ∀ (i : Nat), i < e.keep.length -> boolF e.keep i = boolF e.keep i) /\ (1 = 1 /\ e.conf.length =
 e.conf.length /\ ∀ (i : Nat), i < e.conf.length -> intF e.conf i = intF e.conf i) /\ bs e.branch = bs e.branch /\ (2 = 2 /\ e.map.length = e.map.length /\ ∀ (i : Nat),
 i < e.map.length -> rowF e.map i = rowF e.map i) /\ (3 = 3 /\ e.edit.length = e.edit.length /\ ∀ (i : Nat), i < e.edit.length -> chgF e.edit i = chgF e.edit i) /\
 e.author = e.author /\ bs e.note = bs e.note /\ e.ck = e.ck /\ e.client = e.client /\ e.seq = e.seq /\ bs e.cbranch = bs e.cbranch /\ (IntKind.u8 = IntKind.u8 /\ 32 =
 32 /\ ∀ (i : Nat), i < (32 : Nat) -> e.old i = e.old i) /\ (IntKind.u8 = IntKind.u8 /\ 32 = 32 /\ ∀ (i : Nat), i < (32 : Nat) -> e.new i = e.new i) /\ (1 = 1 /\
 List.length e.data = List.length e.data /\ ∀ (i : Nat), i < List.length e.data -> byteF (bs e.data) i = byteF (bs e.data) i) /\ True) /\ True) /\ inv1 y /\
 (e.map.length - y).succ.le (e.map.length - x))) /\ (decide ((x : Int) < (↑e.map.length : Int)) = false -> (∃ (x : Nat), ((True /\ 0 = 0 /\ 0 = 0 /\ 0 = 0) /\
 Value.func (Fn.func (57 : Nat)) (Array.mk []) (Array.mk []) = Value.func (Fn.func (57 : Nat)) (Array.mk []) (Array.mk []) /\ (3 = 3 /\ e.edit.length =
 e.edit.length /\ ∀ (i : Nat), i < e.edit.length -> chgF e.edit i = chgF e.edit i) /\ (↑e.edit.length : Int) = (↑e.edit.length : Int) /\ (0 : Int) = (x : Int) /\
 True) /\ ((64 = 64 /\ e.kind = e.kind /\ e.node = e.node /\ e.to = e.to /\ e.n = e.n /\ (1 = 1 /\ e.keep.length = e.keep.length /\ ∀ (i : Nat), i < e.keep.length -> boolF
 e.keep i = boolF e.keep i) /\ (1 = 1 /\ e.conf.length = e.conf.length /\ ∀ (i : Nat), i < e.conf.length -> intF e.conf i = intF e.conf i) /\ bs e.branch = bs e.branch
 /\ (2 = 2 /\ e.map.length = e.map.length /\ ∀ (i : Nat), i < e.map.length -> rowF e.map i = rowF e.map i) /\ (3 = 3 /\ e.edit.length = e.edit.length /\ ∀ (i : Nat), i <
 e.edit.length -> chgF e.edit i = chgF e.edit i) /\ e.author = e.author /\ bs e.note = bs e.note /\ e.ck = e.ck /\ e.client = e.client /\ e.seq = e.seq /\ bs e.cbranch =
 bs e.cbranch /\ (IntKind.u8 = IntKind.u8 /\ 32 = 32 /\ ∀ (i : Nat), i < (32 : Nat) -> e.old i = e.old i) /\ (IntKind.u8 = IntKind.u8 /\ 32 = 32 /\ ∀ (i : Nat), i < (32
 : Nat) -> e.new i = e.new i) /\ (1 = 1 /\ List.length e.data = List.length e.data /\ ∀ (i : Nat), i < List.length e.data -> byteF (bs e.data) i = byteF (bs e.data) i)
 /\ True) /\ True) /\ inv2 x) /\ ∀ (x : Nat), inv2 x -> (decide ((x : Int) < (↑e.edit.length : Int)) = true -> ((0 : Int) <= (x : Int) /\ (x : Int) + (1 : Int) ≤
 (↑e.edit.length : Int)) /\ True /\ True /\ True /\ (((0 : Nat) + (2 : Nat)).le (2 : Nat) /\ True) /\ ∃ (ls : List Bs), (IsTexts (AV.rows 1 2 fun (i : Nat) => rowOf
 [((0 : Nat), sl (e.edit.getD (x : Int).toNat ([], false, [])).fst), ((1 : Nat), sl (e.edit.getD (x : Int).toNat ([], false, [])).snd.snd)] ((0 : Nat) + i)) ls
 /\ ls.length.le (1000 : Nat)) /\ True /\ True /\ ((bif ls.any longB then true else bif ! (e.edit.getD (x : Int).toNat ([], false, [])).snd.fst then ! (bs
 (e.edit.getD (x : Int).toNat ([], false, [])).snd.snd).toList == (ByteArray.mk #[]).toList else false) = true -> (True /\ True) /\ True /\ R (bl true) []) /\ ((bif
 ls.any longB then true else bif ! (e.edit.getD (x : Int).toNat ([], false, [])).snd.fst then ! (bs (e.edit.getD (x : Int).toNat ([], false,
 [])).snd.snd).toList == (ByteArray.mk #[]).toList else false) = false -> ∃ (y : Nat), ((True /\ 0 = 0 /\ 0 = 0 /\ 0 = 0) /\ Value.func (Fn.func (57 : Nat)) (Array.mk
 []) (Array.mk []) = Value.func (Fn.func (57 : Nat)) (Array.mk []) (Array.mk []) /\ (3 = 3 /\ e.edit.length = e.edit.length /\ ∀ (i : Nat), i < e.edit.length -> chgF
 e.edit i = chgF e.edit i) /\ (↑e.edit.length : Int) = (↑e.edit.length : Int) /\ IntKind.i64.wrap ((x : Int) + (1 : Int)) = (y : Int) /\ True) /\ ((64 = 64 /\ e.kind
 = e.kind /\ e.node = e.node /\ e.to = e.to /\ e.n = e.n /\ (1 = 1 /\ e.keep.length = e.keep.length /\ ∀ (i : Nat), i < e.keep.length -> boolF e.keep i = boolF e.keep i)
 /\ (1 = 1 /\ e.conf.length = e.conf.length /\ ∀ (i : Nat), i < e.conf.length -> intF e.conf i = intF e.conf i) /\ bs e.branch = bs e.branch /\ (2 = 2 /\ e.map.length =
 e.map.length /\ ∀ (i : Nat), i < e.map.length -> rowF e.map i = rowF e.map i) /\ (3 = 3 /\ e.edit.length = e.edit.length /\ ∀ (i : Nat), i < e.edit.length -> chgF
 e.edit i = chgF e.edit i) /\ e.author = e.author /\ bs e.note = bs e.note /\ e.ck = e.ck /\ e.client = e.client /\ e.seq = e.seq /\ bs e.cbranch = bs e.cbranch /\
 (IntKind.u8 = IntKind.u8 /\ 32 = 32 /\ ∀ (i : Nat), i < (32 : Nat) -> e.old i = e.old i) /\ (IntKind.u8 = IntKind.u8 /\ 32 = 32 /\ ∀ (i : Nat), i < (32 : Nat) -> e.new
 i = e.new i) /\ (1 = 1 /\ List.length e.data = List.length e.data /\ ∀ (i : Nat), i < List.length e.data -> byteF (bs e.data) i = byteF (bs e.data) i) /\ True) /\
 True) /\ inv2 y /\ (e.edit.length - y).succ.le (e.edit.length - x))) /\ (decide ((x : Int) < (↑e.edit.length : Int)) = false -> (True /\ True) /\ True /\ R (bl false)
 []))))))) := by kernel_rfl
theorem vIdxW (l : List Ev) (inv : Nat -> Prop) (R : AV -> List LObj -> Prop) :
  (vcA false false 0 [] Tryd.prog (mkTab [(38, .lend TWrong)]) (optC (Tryd.f54.body.getD .skip)) ([.loop 2 Nat inv (fun i => ⟨slotsOf 19 0 [(0, evsAV l), (1, fnWrong), (7, nm l.length), (8, nm i)], []⟩) (fun i => l.length - i) (fun _ => [])]) (finalK Tryd.prog Tryd.f54 (R)) (startSt Tryd.f54 ([evsAV l, fnWrong]))) = (
 (∃ (x : Nat), ((80 = 80 /\ l.length = l.length /\ ∀ (i : Nat), i < l.length -> evF l i = evF l i) /\ Value.func (Fn.func (38 : Nat)) (Array.mk []) (Array.mk []) =
 Value.func (Fn.func (38 : Nat)) (Array.mk []) (Array.mk []) /\ (l.length : Int) = (l.length : Int) /\ (0 : Int) = (x : Int) /\ True) /\ True /\ inv x) /\ ∀ (x :
 Nat), inv x -> (decide ((x : Int) < (l.length : Int)) = true -> ((0 : Int) <= (x : Int) /\ (x : Int) + (1 : Int) <= (l.length : Int)) /\ ∃ (e : Ev), IsEv (AV.agg
 [nm (evAt l (x : Int).toNat).kind, nm (evAt l (x : Int).toNat).node, nm (evAt l (x : Int).toNat).to, nm (evAt l (x : Int).toNat).n, AV.rows 1 (evAt l (↑x :
 Int).toNat).keep.length (boolF (evAt l (x : Int).toNat).keep), AV.rows 1 (evAt l (x : Int).toNat).conf.length (intF (evAt l (x : Int).toNat).conf), sl (evAt l
 (x : Int).toNat).branch, AV.rows 2 (evAt l (x : Int).toNat).map.length (rowF (evAt l (x : Int).toNat).map), AV.rows 3 (evAt l (x : Int).toNat).edit.length
 (chgF (evAt l (x : Int).toNat).edit), AV.pl (Value.int IntKind.u32 (evAt l (x : Int).toNat).author), sl (evAt l (x : Int).toNat).note, nm (evAt l (↑x :
 Int).toNat).ck, nm (evAt l (x : Int).toNat).client, AV.pl (Value.int IntKind.u32 (evAt l (x : Int).toNat).seq), sl (evAt l (x : Int).toNat).cbranch, AV.iarr
 IntKind.u8 32 (evAt l (x : Int).toNat).old, AV.iarr IntKind.u8 32 (evAt l (x : Int).toNat).new, AV.rows 1 (List.length (evAt l (x : Int).toNat).data) (byteF
 (bs (evAt l (x : Int).toNat).data))]) e /\ (wrongE e = true -> (True /\ True) /\ True /\ R (nm (x : Int)) []) /\ (wrongE e = false -> ∃ (y : Nat), ((80 = 80 /\
 l.length = l.length /\ ∀ (i : Nat), i < l.length -> evF l i = evF l i) /\ Value.func (Fn.func (38 : Nat)) (Array.mk []) (Array.mk []) = Value.func (Fn.func (38 :
 Nat)) (Array.mk []) (Array.mk []) /\ (l.length : Int) = (l.length : Int) /\ IntKind.i64.wrap ((x : Int) + (1 : Int)) = (y : Int) /\ True) /\ True /\ inv y /\
 (l.length - y).succ.le (l.length - x))) /\ (decide ((x : Int) < (l.length : Int)) = false -> (True /\ True) /\ True /\ R (nm (-1 : Int)) [])) := by kernel_rfl
theorem vContW (l : List Ev) (R : AV -> List LObj -> Prop) :
  (vcA false false 0 [] Tryd.prog (mkTab [(54, .lend TIdxW)]) (optC (Tryd.f37.body.getD .skip)) ([]) (finalK Tryd.prog Tryd.f37 (R)) (startSt Tryd.f37 ([evsAV l, fnWrong]))) = (
 ∃ (l_1 : List Ev), IsEvs (AV.rows 80 l.length (evF l)) l_1 /\ (True /\ True) /\ True /\ R (bl (decide (idxW l_1 ≥ (0 : Int)))) []) := by kernel_rfl
theorem vCheck (a b c : Int) (l : List Ev) (R : AV -> List LObj -> Prop) :
  (vcA false false 0 [] Tryd.prog (mkTab [(37, .lend TContW)]) (optC (Tryd.f25.body.getD .skip)) ([]) (finalK Tryd.prog Tryd.f25 (R)) (startSt Tryd.f25 ([.agg [nm a, nm b, nm c, evsAV l]]))) = (
 True /\ (gEq (decide ((l.length : Int) > (300 : Int))) false = true -> ∃ (l_1 : List Ev), IsEvs (AV.rows 80 l.length (evF l)) l_1 /\ true = true /\ ((bif false then
 true else l_1.any wrongE) = true -> (True /\ True) /\ True /\ R (nm 2) []) /\ ((bif false then true else l_1.any wrongE) = false -> (True /\ True) /\ True /\ R (nm 0)
 [])) /\ (gEq (decide ((l.length : Int) > (300 : Int))) false = false -> true = true /\ (true = true -> (True /\ True) /\ True /\ R (nm 2) []) /\ (true = false -> (True /\
 True) /\ True /\ R (nm 0) []))) := by kernel_rfl
end Go.Proofs.Sd
