/- Proved: whatever the input, ScriptBack returns true and each argument reads as it did (Rows.ScriptBackCardSaid); under no condition beside those of the row and the card: the listed package variables hold what the program's text lays, which the card ties. -/
import Derived.Test.YtbjhikadmmolfaaGreatDoorSE
import Derived.Test.YtbjhikadmmolfaaGreatDoorRows
import Derived.Stop.LaidErr
import Derived.LaidLaws
import Derived.Test.YtbjhikadmmolfaaGreatDoorCards
import Derived.Test.YtbjhikadmmolfaaGreatDoorTie
import Derived.SevenTiedAt
set_option linter.unusedSectionVars false
set_option linter.unusedVariables false
set_option linter.unusedSimpArgs false
set_option maxRecDepth 100000
set_option maxHeartbeats 4000000
namespace Go.Proofs.Sz
open Go Go.Am Go.SP
theorem vFew (a b c : Int) (l : List Ev) (inv : Nat -> Prop) (R : AV -> List LObj -> Prop) : (vcA false false 0 [2] Tryz.prog (mkTab [(17, .lend TShortE)]) (optC (Tryz.f7.body.getD .skip)) ([.loop 3 Nat inv (λ i =>
 ⟨slotsOf 30 0 [(2, .ptr 0 0 0 0), (3, .ptr 1 0 0 0), (15, evsAV (l.take 301)), (16, nm (l.take 301).length), (17, nm i)], [.box tySc [nm 0, nm 0, nm 0, nilS], scBox 2 ⟨a, b, c, (fewL l).take i⟩, rowE ((fewL l).take i)]⟩)
 (λ i => (l.take 301).length - i) (λ _ => [])]) (finalK Tryz.prog Tryz.f7 (λ y H => ∃ _ : Unit, leSt 0 ⟨[y], H⟩ ⟨[scAV ⟨a, b, c, fewL l⟩], []⟩ (R (scAV ⟨a, b, c, fewL l⟩) []))) (startSt Tryz.f7 ([.agg [nm a, nm b,
 nm c, evsAV l]]))) = ( True /\ True /\ True /\ True /\ ((0 : Int) <= 0 /\ ((0 : Int) <= if (301 : Int) < (l.length : Int) then (301 : Int) else (l.length : Int)) /\ (if (301 : Int) < (l.length : Int) then (301 : Int)
 else (l.length : Int)) <= (l.length : Int)) /\ (∃ (x : Nat), ((True /\ 0 = 0 /\ 0 = 0 /\ 0 = 0) /\ (True /\ 0 = 0 /\ 0 = 0 /\ 0 = 0) /\ (80 = 80 /\ (if (301 : Int) < (l.length : Int) then (301 : Int) else (↑l.length :
 Int)).toNat - Int.toNat 0 = (List.take (301 : Nat) l).length /\ ∀ (i : Nat), i < (if (301 : Int) < (l.length : Int) then (301 : Int) else (l.length : Int)).toNat - Int.toNat 0 -> (evAt l (Int.toNat 0 + i)).av = (evAt
 (List.take (301 : Nat) l) i).av) /\ (↑ ((if (301 : Int) < (l.length : Int) then (301 : Int) else (l.length : Int)).toNat - Int.toNat 0) : Int) = (↑ (List.take (301 : Nat) l).length : Int) /\ (0 : Int) = (x : Int) /\
 True) /\ ((28 = 28 /\ (0 : Int) = 0 /\ (0 : Int) = 0 /\ (0 : Int) = 0 /\ nQ = nQ /\ True) /\ (28 = 28 /\ a = (Sc.mk a b c (List.take x (fewL l))).servers /\ b = (Sc.mk a b c (List.take x (fewL l))).clients /\ c = (Sc.mk
 a b c (List.take x (fewL l))).area /\ (True /\ True /\ 0 = 0 /\ (Sc.mk a b c (List.take x (fewL l))).evs.length = 0) /\ True) /\ (List.take x (fewL l)).length = 0 /\ True) /\ inv x) /\ ∀ (x : Nat), inv x -> (decide ((↑x
 : Int) < (↑ (List.take (301 : Nat) l).length : Int)) = true -> ((0 : Int) <= (x : Int) /\ (x : Int) + 1 <= (↑ (List.take (301 : Nat) l).length : Int)) /\ True /\ True /\ ∃ (e : Ev), IsEv ((evAt (List.take (301 : Nat)
 l) (x : Int).toNat).av) e /\ True /\ (((0 : Nat) + 1).le (1 : Nat) /\ (Sc.mk a b c (List.take x (fewL l))).evs.length = (List.take x (fewL l)).length /\ ((List.take x (fewL l)).length + 1).le maxLen /\ (((List.take x
 (fewL l)).length + 1) * 296).le (140737488355328 : Nat)) /\ True /\ ∃ (y : Nat), ((True /\ 0 = 0 /\ 0 = 0 /\ 0 = 0) /\ (True /\ 0 = 0 /\ 0 = 0 /\ 0 = 0) /\ (80 = 80 /\ (List.take (301 : Nat) l).length = (List.take (301 :
 Nat) l).length /\ ∀ i < (List.take (301 : Nat) l).length, (evAt (List.take (301 : Nat) l) i).av = (evAt (List.take (301 : Nat) l) i).av) /\ (↑ (List.take (301 : Nat) l).length : Int) = (↑ (List.take (301 : Nat) l).length
 : Int) /\ k64Q.wrap ((x : Int) + 1) = (y : Int) /\ True) /\ ((28 = 28 /\ (0 : Int) = 0 /\ (0 : Int) = 0 /\ (0 : Int) = 0 /\ nQ = nQ /\ True) /\ (28 = 28 /\ (Sc.mk a b c (List.take x (fewL l))).servers = (Sc.mk a b c
 (List.take y (fewL l))).servers /\ (Sc.mk a b c (List.take x (fewL l))).clients = (Sc.mk a b c (List.take y (fewL l))).clients /\ (Sc.mk a b c (List.take x (fewL l))).area = (Sc.mk a b c (List.take y (fewL l))).area /\
 (True /\ 0 = 0 /\ (List.take x (fewL l)).length + 1 = (Sc.mk a b c (List.take y (fewL l))).evs.length) /\ True) /\ (80 = 80 /\ 62 = 62 /\ (List.take y (fewL l)).length.le ((List.take x (fewL l)).length + 1) /\ ∀ i <
 (List.take y (fewL l)).length, (if i < (List.take x (fewL l)).length then (evAt (List.take x (fewL l)) i).av else rowOf [((0 : Nat), (shortE e).av)] ((0 : Nat) + (i - (List.take x (fewL l)).length))) = (evAt (List.take y
 (fewL l)) i).av) /\ True) /\ inv y /\ ((List.take (301 : Nat) l).length - y).succ.le ((List.take (301 : Nat) l).length - x)) /\ (decide ((x : Int) < (↑ (List.take (301 : Nat) l).length : Int)) = false -> True /\ (True
 /\ True) /\ (True /\ True /\ True /\ ((0 : Nat) + (Sc.mk a b c (List.take x (fewL l))).evs.length).le (List.take x (fewL l)).length /\ True) /\ ∃ (x_1 : Unit), (((Sc.mk a b c (List.take x (fewL l))).servers = (Sc.mk a b
 c (fewL l)).servers /\ (Sc.mk a b c (List.take x (fewL l))).clients = (Sc.mk a b c (fewL l)).clients /\ (Sc.mk a b c (List.take x (fewL l))).area = (Sc.mk a b c (fewL l)).area /\ (80 = 80 /\ (Sc.mk a b c (List.take x
 (fewL l))).evs.length = (Sc.mk a b c (fewL l)).evs.length /\ ∀ (i : Nat), i < (Sc.mk a b c (List.take x (fewL l))).evs.length -> (evAt (List.take x (fewL l)) ((0 : Nat) + i)).av = (evAt (Sc.mk a b c (fewL l)).evs i).av)
 /\ True) /\ True) /\ True /\ R (AV.agg [nm (Sc.mk a b c (fewL l)).servers, nm (Sc.mk a b c (fewL l)).clients, nm (Sc.mk a b c (fewL l)).area, AV.rows 80 (Sc.mk a b c (fewL l)).evs.length (evF (Sc.mk a b c (fewL
 l)).evs)]) [])) := by kernel_rfl
theorem vBack (a b c : Int) (l : List Ev) (t : Bs) (R : AV -> List LObj -> Prop) : (vcA false false 0 [] Tryz.prog (mkTab [(6, .lend TWakes), (7, .lend TFew), (8, .lend TPrint), (14, .lend TParse), (13, .lend TSameSc),
 (9, .lend TCheck)]) (optC (Tryz.f5.body.getD .skip)) ([]) (finalK Tryz.prog Tryz.f5 (R)) (startSt Tryz.f5 ([.agg [nm a, nm b, nm c, evsAV l], sl t]))) = ( True /\ ((!true) = true -> (True /\ True) /\ True /\ R (bl false)
 []) /\ ((!true) = false -> ∃ (l_1 : List Ev), IsEvs (AV.rows 80 l.length (evF l)) l_1 /\ True /\ ∃ (l : List Ev), (IsEvs (AV.rows 80 (Sc.mk a b c (fewL l_1)).evs.length (evF (Sc.mk a b c (fewL l_1)).evs)) l /\
 ((-9223372036854775808 : Int) <= (Sc.mk a b c (fewL l_1)).servers /\ (Sc.mk a b c (fewL l_1)).servers <= 9223372036854775807) /\ ((-9223372036854775808 : Int) <= (Sc.mk a b c (fewL l_1)).clients /\ (Sc.mk a b c (fewL
 l_1)).clients <= 9223372036854775807) /\ ((-9223372036854775808 : Int) <= (Sc.mk a b c (fewL l_1)).area /\ (Sc.mk a b c (fewL l_1)).area ≤ 9223372036854775807) /\ ∀ (e : Ev), e ∈ l -> ((-9223372036854775808 : Int) <=
 e.kind /\ e.kind <= 9223372036854775807) /\ ((-9223372036854775808 : Int) <= e.node /\ e.node <= 9223372036854775807) /\ ((-9223372036854775808 : Int) <= e.to /\ e.to <= 9223372036854775807) /\ ((-9223372036854775808 :
 Int) ≤ e.n /\ e.n <= 9223372036854775807) /\ (∀ (x : Int), x ∈ e.conf -> (-9223372036854775808 : Int) <= x /\ x <= 9223372036854775807) /\ ((-9223372036854775808 : Int) <= e.ck /\ e.ck <= 9223372036854775807) /\ ((0 :
 Int) <= e.author /\ e.author + 1 <= 4294967296) /\ ∀ i < 32, (0 : Int) <= e.new i /\ e.new i + 1 <= 256) /\ (((printR (Sc.mk (Sc.mk a b c (fewL l_1)).servers (Sc.mk a b c (fewL l_1)).clients (Sc.mk a b c (fewL l_1)).area
 l)).2 == 0) = true -> True /\ True /\ (gEq (bif (parseR (printR (Sc.mk (Sc.mk a b c (fewL l_1)).servers (Sc.mk a b c (fewL l_1)).clients (Sc.mk a b c (fewL l_1)).area l)).1).2.2 != 0 then true else (↑ (parseR (printR
 (Sc.mk (Sc.mk a b c (fewL l_1)).servers (Sc.mk a b c (fewL l_1)).clients (Sc.mk a b c (fewL l_1)).area l)).1).2.1 : Int) != 0) false = true -> ∃ (l_2 : List Ev), ∃ (m : List Ev), (IsEvs (AV.rows 80 (Sc.mk a b c (fewL
 l_1)).evs.length (evF (Sc.mk a b c (fewL l_1)).evs)) l_2 /\ IsEvs (AV.rows 80 (parseR (printR (Sc.mk (Sc.mk a b c (fewL l_1)).servers (Sc.mk a b c (fewL l_1)).clients (Sc.mk a b c (fewL l_1)).area l)).1).1.evs.length
 (evF (parseR (printR (Sc.mk (Sc.mk a b c (fewL l_1)).servers (Sc.mk a b c (fewL l_1)).clients (Sc.mk a b c (fewL l_1)).area l)).1).1.evs)) m) /\ true = true /\ ((bif false then true else ! ((Sc.mk a b c (fewL
 l_1)).servers == (parseR (printR (Sc.mk (Sc.mk a b c (fewL l_1)).servers (Sc.mk a b c (fewL l_1)).clients (Sc.mk a b c (fewL l_1)).area l)).1).1.servers && (Sc.mk a b c (fewL l_1)).clients == (parseR (printR (Sc.mk
 (Sc.mk a b c (fewL l_1)).servers (Sc.mk a b c (fewL l_1)).clients (Sc.mk a b c (fewL l_1)).area l)).1).1.clients && (Sc.mk a b c (fewL l_1)).area == (parseR (printR (Sc.mk (Sc.mk a b c (fewL l_1)).servers (Sc.mk a b c
 (fewL l_1)).clients (Sc.mk a b c (fewL l_1)).area l)).1).1.area && sameEvs l_2 m)) = true -> (True /\ True) /\ True /\ R (bl false) []) /\ ((bif false then true else ! ((Sc.mk a b c (fewL l_1)).servers == (parseR (printR
 (Sc.mk (Sc.mk a b c (fewL l_1)).servers (Sc.mk a b c (fewL l_1)).clients (Sc.mk a b c (fewL l_1)).area l)).1).1.servers && (Sc.mk a b c (fewL l_1)).clients == (parseR (printR (Sc.mk (Sc.mk a b c (fewL l_1)).servers
 (Sc.mk a b c (fewL l_1)).clients (Sc.mk a b c (fewL l_1)).area l)).1).1.clients && (Sc.mk a b c (fewL l_1)).area == (parseR (printR (Sc.mk (Sc.mk a b c (fewL l_1)).servers (Sc.mk a b c (fewL l_1)).clients (Sc.mk a b c
 (fewL l_1)).area l)).1).1.area && sameEvs l_2 m)) = false -> ((0 : Int) <= 0 /\ ((0 : Int) <= if (262144 : Int) < (↑ t.length : Int) then (262144 : Int) else (↑ t.length : Int)) /\ (if (262144 : Int) < (↑ t.length : Int)
 then (262144 : Int) else (↑ t.length : Int)) <= (↑ t.length : Int)) /\ True /\ True /\ (((parseR ((bs t).extract (Int.toNat 0) (if (262144 : Int) < (↑ t.length : Int) then (262144 : Int) else (↑ t.length :
 Int)).toNat).data.toList).2.2 != 0) = true -> (True /\ True) /\ True /\ R (bl (bif bif bif bif (parseR ((bs t).extract (Int.toNat 0) (if (262144 : Int) < (↑ t.length : Int) then (262144 : Int) else (↑ t.length :
 Int)).toNat).data.toList).2.2 == 360 then decide ((↑ (parseR ((bs t).extract (Int.toNat 0) (if (262144 : Int) < (↑ t.length : Int) then (262144 : Int) else (↑ t.length : Int)).toNat).data.toList).2.1 : Int) ≥ 0) else
 false then decide ((↑ (parseR ((bs t).extract (Int.toNat 0) (if (262144 : Int) < (↑ t.length : Int) then (262144 : Int) else (↑ t.length : Int)).toNat).data.toList).2.1 : Int) <= (↑ ((bs t).extract (Int.toNat 0) (if
 (262144 : Int) < (↑ t.length : Int) then (262144 : Int) else (↑ t.length : Int)).toNat).size : Int)) else false then (↑ (parseR ((bs t).extract (Int.toNat 0) (if (262144 : Int) < (↑ t.length : Int) then (262144 : Int)
 else (↑ t.length : Int)).toNat).data.toList).1.evs.length : Int) == 0 else false then (parseR ((bs t).extract (Int.toNat 0) (if (262144 : Int) < (↑ t.length : Int) then (262144 : Int) else (↑ t.length :
 Int)).toNat).data.toList).1.servers == 0 && ((parseR ((bs t).extract (Int.toNat 0) (if (262144 : Int) < (↑ t.length : Int) then (262144 : Int) else (↑ t.length : Int)).toNat).data.toList).1.clients == 0 && ((parseR ((bs
 t).extract (Int.toNat 0) (if (262144 : Int) < (↑ t.length : Int) then (262144 : Int) else (↑ t.length : Int)).toNat).data.toList).1.area == 0 && true)) else false)) []) /\ (((parseR ((bs t).extract (Int.toNat 0) (if
 (262144 : Int) < (↑ t.length : Int) then (262144 : Int) else (↑ t.length : Int)).toNat).data.toList).2.2 != 0) = false -> ∃ (l : List Ev), (IsEvs (AV.rows 80 (parseR ((bs t).extract (Int.toNat 0) (if (262144 : Int) < (↑
 t.length : Int) then (262144 : Int) else (↑ t.length : Int)).toNat).data.toList).1.evs.length (evF (parseR ((bs t).extract (Int.toNat 0) (if (262144 : Int) < (↑ t.length : Int) then (262144 : Int) else (↑ t.length :
 Int)).toNat).data.toList).1.evs)) l /\ ((-9223372036854775808 : Int) <= (parseR ((bs t).extract (Int.toNat 0) (if (262144 : Int) < (↑ t.length : Int) then (262144 : Int) else (↑ t.length :
 Int)).toNat).data.toList).1.servers /\ (parseR ((bs t).extract (Int.toNat 0) (if (262144 : Int) < (↑ t.length : Int) then (262144 : Int) else (↑ t.length : Int)).toNat).data.toList).1.servers <= 9223372036854775807) /\
 ((-9223372036854775808 : Int) <= (parseR ((bs t).extract (Int.toNat 0) (if (262144 : Int) < (↑ t.length : Int) then (262144 : Int) else (↑ t.length : Int)).toNat).data.toList).1.clients /\ (parseR ((bs t).extract
 (Int.toNat 0) (if (262144 : Int) < (↑ t.length : Int) then (262144 : Int) else (↑ t.length : Int)).toNat).data.toList).1.clients <= 9223372036854775807) /\ ((-9223372036854775808 : Int) <= (parseR ((bs t).extract
 (Int.toNat 0) (if (262144 : Int) < (↑ t.length : Int) then (262144 : Int) else (↑ t.length : Int)).toNat).data.toList).1.area /\ (parseR ((bs t).extract (Int.toNat 0) (if (262144 : Int) < (↑ t.length : Int) then (262144
 : Int) else (↑ t.length : Int)).toNat).data.toList).1.area <= 9223372036854775807) /\ ∀ (e : Ev), e ∈ l -> ((-9223372036854775808 : Int) <= e.kind /\ e.kind <= 9223372036854775807) /\ ((-9223372036854775808 : Int) <=
 e.node /\ e.node ≤ 9223372036854775807) /\ ((-9223372036854775808 : Int) <= e.to /\ e.to <= 9223372036854775807) /\ ((-9223372036854775808 : Int) <= e.n /\ e.n ≤ 9223372036854775807) /\ (∀ (x : Int), x ∈ e.conf ->
 (-9223372036854775808 : Int) <= x /\ x <= 9223372036854775807) /\ ((-9223372036854775808 : Int) ≤ e.ck /\ e.ck <= 9223372036854775807) /\ ((0 : Int) <= e.author /\ e.author + 1 <= 4294967296) /\ ∀ i < 32, (0 : Int) <=
 e.new i /\ e.new i + 1 <= 256) /\ (gEq (bif (printR (Sc.mk (parseR ((bs t).extract (Int.toNat 0) (if (262144 : Int) < (↑ t.length : Int) then (262144 : Int) else (↑ t.length : Int)).toNat).data.toList).1.servers (parseR
 ((bs t).extract (Int.toNat 0) (if (262144 : Int) < (↑ t.length : Int) then (262144 : Int) else (↑ t.length : Int)).toNat).data.toList).1.clients (parseR ((bs t).extract (Int.toNat 0) (if (262144 : Int) < (↑ t.length :
 Int) then (262144 : Int) else (↑ t.length : Int)).toNat).data.toList).1.area l)).2 == 0 then (bs (printR (Sc.mk (parseR ((bs t).extract (Int.toNat 0) (if (262144 : Int) < (↑ t.length : Int) then (262144 : Int) else (↑
 t.length : Int)).toNat).data.toList).1.servers (parseR ((bs t).extract (Int.toNat 0) (if (262144 : Int) < (↑ t.length : Int) then (262144 : Int) else (↑ t.length : Int)).toNat).data.toList).1.clients (parseR ((bs
 t).extract (Int.toNat 0) (if (262144 : Int) < (↑ t.length : Int) then (262144 : Int) else (↑ t.length : Int)).toNat).data.toList).1.area l)).1).toList == ((bs t).extract (Int.toNat 0) (if (262144 : Int) < (↑ t.length :
 Int) then (262144 : Int) else (↑ t.length : Int)).toNat).toList else false) true = true -> ∃ (l : List Ev), IsEvs (AV.rows 80 (parseR ((bs t).extract (Int.toNat 0) (if (262144 : Int) < (↑ t.length : Int) then (262144 :
 Int) else (↑ t.length : Int)).toNat).data.toList).1.evs.length (evF (parseR ((bs t).extract (Int.toNat 0) (if (262144 : Int) < (↑ t.length : Int) then (262144 : Int) else (↑ t.length : Int)).toNat).data.toList).1.evs)) l
 /\ true = true /\ (True /\ True) /\ True /\ R (bl (bif true then checkE l == 0 else false)) []) /\ (gEq (bif (printR (Sc.mk (parseR ((bs t).extract (Int.toNat 0) (if (262144 : Int) < (↑ t.length : Int) then (262144 :
 Int) else (↑ t.length : Int)).toNat).data.toList).1.servers (parseR ((bs t).extract (Int.toNat 0) (if (262144 : Int) < (↑ t.length : Int) then (262144 : Int) else (↑ t.length : Int)).toNat).data.toList).1.clients (parseR
 ((bs t).extract (Int.toNat 0) (if (262144 : Int) < (↑ t.length : Int) then (262144 : Int) else (↑ t.length : Int)).toNat).data.toList).1.area l)).2 == 0 then (bs (printR (Sc.mk (parseR ((bs t).extract (Int.toNat 0) (if
 (262144 : Int) < (↑ t.length : Int) then (262144 : Int) else (↑ t.length : Int)).toNat).data.toList).1.servers (parseR ((bs t).extract (Int.toNat 0) (if (262144 : Int) < (↑ t.length : Int) then (262144 : Int) else (↑
 t.length : Int)).toNat).data.toList).1.clients (parseR ((bs t).extract (Int.toNat 0) (if (262144 : Int) < (↑ t.length : Int) then (262144 : Int) else (↑ t.length : Int)).toNat).data.toList).1.area l)).1).toList == ((bs
 t).extract (Int.toNat 0) (if (262144 : Int) < (↑ t.length : Int) then (262144 : Int) else (↑ t.length : Int)).toNat).toList else false) true = false -> true = true /\ (True /\ True) /\ True /\ R (bl false) [])))) /\ (gEq
 (bif (parseR (printR (Sc.mk (Sc.mk a b c (fewL l_1)).servers (Sc.mk a b c (fewL l_1)).clients (Sc.mk a b c (fewL l_1)).area l)).1).2.2 != 0 then true else (↑ (parseR (printR (Sc.mk (Sc.mk a b c (fewL l_1)).servers (Sc.mk
 a b c (fewL l_1)).clients (Sc.mk a b c (fewL l_1)).area l)).1).2.1 : Int) != 0) false = false -> true = true /\ (true = true -> (True /\ True) /\ True /\ R (bl false) []) /\ (true = false -> ((0 : Int) <= 0 /\ ((0 : Int)
 <= if (262144 : Int) < (↑ t.length : Int) then (262144 : Int) else (↑ t.length : Int)) /\ (if (262144 : Int) < (↑ t.length : Int) then (262144 : Int) else (↑ t.length : Int)) <= (↑ t.length : Int)) /\ True /\ True /\
 (((parseR ((bs t).extract (Int.toNat 0) (if (262144 : Int) < (↑ t.length : Int) then (262144 : Int) else (↑ t.length : Int)).toNat).data.toList).2.2 != 0) = true -> (True /\ True) /\ True /\ R (bl (bif bif bif bif
 (parseR ((bs t).extract (Int.toNat 0) (if (262144 : Int) < (↑ t.length : Int) then (262144 : Int) else (↑ t.length : Int)).toNat).data.toList).2.2 == 360 then decide ((↑ (parseR ((bs t).extract (Int.toNat 0) (if (262144
 : Int) < (↑ t.length : Int) then (262144 : Int) else (↑ t.length : Int)).toNat).data.toList).2.1 : Int) ≥ 0) else false then decide ((↑ (parseR ((bs t).extract (Int.toNat 0) (if (262144 : Int) < (↑ t.length : Int) then
 (262144 : Int) else (↑ t.length : Int)).toNat).data.toList).2.1 : Int) <= (↑ ((bs t).extract (Int.toNat 0) (if (262144 : Int) < (↑ t.length : Int) then (262144 : Int) else (↑ t.length : Int)).toNat).size : Int)) else
 false then (↑ (parseR ((bs t).extract (Int.toNat 0) (if (262144 : Int) < (↑ t.length : Int) then (262144 : Int) else (↑ t.length : Int)).toNat).data.toList).1.evs.length : Int) == 0 else false then (parseR ((bs
 t).extract (Int.toNat 0) (if (262144 : Int) < (↑ t.length : Int) then (262144 : Int) else (↑ t.length : Int)).toNat).data.toList).1.servers == 0 && ((parseR ((bs t).extract (Int.toNat 0) (if (262144 : Int) < (↑ t.length
 : Int) then (262144 : Int) else (↑ t.length : Int)).toNat).data.toList).1.clients == 0 && ((parseR ((bs t).extract (Int.toNat 0) (if (262144 : Int) < (↑ t.length : Int) then (262144 : Int) else (↑ t.length :
 Int)).toNat).data.toList).1.area == 0 && true)) else false)) []) /\ (((parseR ((bs t).extract (Int.toNat 0) (if (262144 : Int) < (↑ t.length : Int) then (262144 : Int) else (↑ t.length : Int)).toNat).data.toList).2.2 !=
 0) = false -> ∃ (l : List Ev), (IsEvs (AV.rows 80 (parseR ((bs t).extract (Int.toNat 0) (if (262144 : Int) < (↑ t.length : Int) then (262144 : Int) else (↑ t.length : Int)).toNat).data.toList).1.evs.length (evF (parseR
 ((bs t).extract (Int.toNat 0) (if (262144 : Int) < (↑ t.length : Int) then (262144 : Int) else (↑ t.length : Int)).toNat).data.toList).1.evs)) l /\ ((-9223372036854775808 : Int) <= (parseR ((bs t).extract (Int.toNat 0)
 (if (262144 : Int) < (↑ t.length : Int) then (262144 : Int) else (↑ t.length : Int)).toNat).data.toList).1.servers /\ (parseR ((bs t).extract (Int.toNat 0) (if (262144 : Int) < (↑ t.length : Int) then (262144 : Int) else
 (↑ t.length : Int)).toNat).data.toList).1.servers <= 9223372036854775807) /\ ((-9223372036854775808 : Int) <= (parseR ((bs t).extract (Int.toNat 0) (if (262144 : Int) < (↑ t.length : Int) then (262144 : Int) else (↑
 t.length : Int)).toNat).data.toList).1.clients /\ (parseR ((bs t).extract (Int.toNat 0) (if (262144 : Int) < (↑ t.length : Int) then (262144 : Int) else (↑ t.length : Int)).toNat).data.toList).1.clients <=
 9223372036854775807) /\ ((-9223372036854775808 : Int) <= (parseR ((bs t).extract (Int.toNat 0) (if (262144 : Int) < (↑ t.length : Int) then (262144 : Int) else (↑ t.length : Int)).toNat).data.toList).1.area /\ (parseR
 ((bs t).extract (Int.toNat 0) (if (262144 : Int) < (↑ t.length : Int) then (262144 : Int) else (↑ t.length : Int)).toNat).data.toList).1.area ≤ 9223372036854775807) /\ ∀ (e : Ev), e ∈ l -> ((-9223372036854775808 : Int)
 <= e.kind /\ e.kind <= 9223372036854775807) /\ ((-9223372036854775808 : Int) <= e.node /\ e.node <= 9223372036854775807) /\ ((-9223372036854775808 : Int) <= e.to /\ e.to <= 9223372036854775807) /\ ((-9223372036854775808
 : Int) ≤ e.n /\ e.n <= 9223372036854775807) /\ (∀ (x : Int), x ∈ e.conf -> (-9223372036854775808 : Int) <= x /\ x <= 9223372036854775807) /\ ((-9223372036854775808 : Int) <= e.ck /\ e.ck <= 9223372036854775807) /\ ((0 :
 Int) <= e.author /\ e.author + 1 <= 4294967296) /\ ∀ i < 32, (0 : Int) <= e.new i /\ e.new i + 1 <= 256) /\ (gEq (bif (printR (Sc.mk (parseR ((bs t).extract (Int.toNat 0) (if (262144 : Int) < (↑ t.length : Int) then
 (262144 : Int) else (↑ t.length : Int)).toNat).data.toList).1.servers (parseR ((bs t).extract (Int.toNat 0) (if (262144 : Int) < (↑ t.length : Int) then (262144 : Int) else (↑ t.length :
 Int)).toNat).data.toList).1.clients (parseR ((bs t).extract (Int.toNat 0) (if (262144 : Int) < (↑ t.length : Int) then (262144 : Int) else (↑ t.length : Int)).toNat).data.toList).1.area l)).2 == 0 then (bs (printR (Sc.mk
 (parseR ((bs t).extract (Int.toNat 0) (if (262144 : Int) < (↑ t.length : Int) then (262144 : Int) else (↑ t.length : Int)).toNat).data.toList).1.servers (parseR ((bs t).extract (Int.toNat 0) (if (262144 : Int) < (↑
 t.length : Int) then (262144 : Int) else (↑ t.length : Int)).toNat).data.toList).1.clients (parseR ((bs t).extract (Int.toNat 0) (if (262144 : Int) < (↑ t.length : Int) then (262144 : Int) else (↑ t.length :
 Int)).toNat).data.toList).1.area l)).1).toList == ((bs t).extract (Int.toNat 0) (if (262144 : Int) < (↑ t.length : Int) then (262144 : Int) else (↑ t.length : Int)).toNat).toList else false) true = true -> ∃ (l : List
 Ev), IsEvs (AV.rows 80 (parseR ((bs t).extract (Int.toNat 0) (if (262144 : Int) < (↑ t.length : Int) then (262144 : Int) else (↑ t.length : Int)).toNat).data.toList).1.evs.length (evF (parseR ((bs t).extract (Int.toNat
 0) (if (262144 : Int) < (↑ t.length : Int) then (262144 : Int) else (↑ t.length : Int)).toNat).data.toList).1.evs)) l /\ true = true /\ (True /\ True) /\ True /\ R (bl (bif true then checkE l == 0 else false)) []) /\
 (gEq (bif (printR (Sc.mk (parseR ((bs t).extract (Int.toNat 0) (if (262144 : Int) < (↑ t.length : Int) then (262144 : Int) else (↑ t.length : Int)).toNat).data.toList).1.servers (parseR ((bs t).extract (Int.toNat 0) (if
 (262144 : Int) < (↑ t.length : Int) then (262144 : Int) else (↑ t.length : Int)).toNat).data.toList).1.clients (parseR ((bs t).extract (Int.toNat 0) (if (262144 : Int) < (↑ t.length : Int) then (262144 : Int) else (↑
 t.length : Int)).toNat).data.toList).1.area l)).2 == 0 then (bs (printR (Sc.mk (parseR ((bs t).extract (Int.toNat 0) (if (262144 : Int) < (↑ t.length : Int) then (262144 : Int) else (↑ t.length :
 Int)).toNat).data.toList).1.servers (parseR ((bs t).extract (Int.toNat 0) (if (262144 : Int) < (↑ t.length : Int) then (262144 : Int) else (↑ t.length : Int)).toNat).data.toList).1.clients (parseR ((bs t).extract
 (Int.toNat 0) (if (262144 : Int) < (↑ t.length : Int) then (262144 : Int) else (↑ t.length : Int)).toNat).data.toList).1.area l)).1).toList == ((bs t).extract (Int.toNat 0) (if (262144 : Int) < (↑ t.length : Int) then
 (262144 : Int) else (↑ t.length : Int)).toNat).toList else false) true = false -> true = true /\ (True /\ True) /\ True /\ R (bl false) []))))) /\ (((printR (Sc.mk (Sc.mk a b c (fewL l_1)).servers (Sc.mk a b c (fewL
 l_1)).clients (Sc.mk a b c (fewL l_1)).area l)).2 == 0) = false -> ((0 : Int) <= 0 /\ ((0 : Int) <= if (262144 : Int) < (↑ t.length : Int) then (262144 : Int) else (↑ t.length : Int)) /\ (if (262144 : Int) < (↑ t.length
 : Int) then (262144 : Int) else (↑ t.length : Int)) <= (↑ t.length : Int)) /\ True /\ True /\ (((parseR ((bs t).extract (Int.toNat 0) (if (262144 : Int) < (↑ t.length : Int) then (262144 : Int) else (↑ t.length :
 Int)).toNat).data.toList).2.2 != 0) = true -> (True /\ True) /\ True /\ R (bl (bif bif bif bif (parseR ((bs t).extract (Int.toNat 0) (if (262144 : Int) < (↑ t.length : Int) then (262144 : Int) else (↑ t.length :
 Int)).toNat).data.toList).2.2 == 360 then decide ((↑ (parseR ((bs t).extract (Int.toNat 0) (if (262144 : Int) < (↑ t.length : Int) then (262144 : Int) else (↑ t.length : Int)).toNat).data.toList).2.1 : Int) ≥ 0) else
 false then decide ((↑ (parseR ((bs t).extract (Int.toNat 0) (if (262144 : Int) < (↑ t.length : Int) then (262144 : Int) else (↑ t.length : Int)).toNat).data.toList).2.1 : Int) <= (↑ ((bs t).extract (Int.toNat 0) (if
 (262144 : Int) < (↑ t.length : Int) then (262144 : Int) else (↑ t.length : Int)).toNat).size : Int)) else false then (↑ (parseR ((bs t).extract (Int.toNat 0) (if (262144 : Int) < (↑ t.length : Int) then (262144 : Int)
 else (↑ t.length : Int)).toNat).data.toList).1.evs.length : Int) == 0 else false then (parseR ((bs t).extract (Int.toNat 0) (if (262144 : Int) < (↑ t.length : Int) then (262144 : Int) else (↑ t.length :
 Int)).toNat).data.toList).1.servers == 0 && ((parseR ((bs t).extract (Int.toNat 0) (if (262144 : Int) < (↑ t.length : Int) then (262144 : Int) else (↑ t.length : Int)).toNat).data.toList).1.clients == 0 && ((parseR ((bs
 t).extract (Int.toNat 0) (if (262144 : Int) < (↑ t.length : Int) then (262144 : Int) else (↑ t.length : Int)).toNat).data.toList).1.area == 0 && true)) else false)) []) /\ (((parseR ((bs t).extract (Int.toNat 0) (if
 (262144 : Int) < (↑ t.length : Int) then (262144 : Int) else (↑ t.length : Int)).toNat).data.toList).2.2 != 0) = false -> ∃ (l : List Ev), (IsEvs (AV.rows 80 (parseR ((bs t).extract (Int.toNat 0) (if (262144 : Int) < (↑
 t.length : Int) then (262144 : Int) else (↑ t.length : Int)).toNat).data.toList).1.evs.length (evF (parseR ((bs t).extract (Int.toNat 0) (if (262144 : Int) < (↑ t.length : Int) then (262144 : Int) else (↑ t.length :
 Int)).toNat).data.toList).1.evs)) l /\ ((-9223372036854775808 : Int) <= (parseR ((bs t).extract (Int.toNat 0) (if (262144 : Int) < (↑ t.length : Int) then (262144 : Int) else (↑ t.length :
 Int)).toNat).data.toList).1.servers /\ (parseR ((bs t).extract (Int.toNat 0) (if (262144 : Int) < (↑ t.length : Int) then (262144 : Int) else (↑ t.length : Int)).toNat).data.toList).1.servers <= 9223372036854775807) /\
 ((-9223372036854775808 : Int) <= (parseR ((bs t).extract (Int.toNat 0) (if (262144 : Int) < (↑ t.length : Int) then (262144 : Int) else (↑ t.length : Int)).toNat).data.toList).1.clients /\ (parseR ((bs t).extract
 (Int.toNat 0) (if (262144 : Int) < (↑ t.length : Int) then (262144 : Int) else (↑ t.length : Int)).toNat).data.toList).1.clients <= 9223372036854775807) /\ ((-9223372036854775808 : Int) <= (parseR ((bs t).extract
 (Int.toNat 0) (if (262144 : Int) < (↑ t.length : Int) then (262144 : Int) else (↑ t.length : Int)).toNat).data.toList).1.area /\ (parseR ((bs t).extract (Int.toNat 0) (if (262144 : Int) < (↑ t.length : Int) then (262144
 : Int) else (↑ t.length : Int)).toNat).data.toList).1.area ≤ 9223372036854775807) /\ ∀ (e : Ev), e ∈ l -> ((-9223372036854775808 : Int) <= e.kind /\ e.kind <= 9223372036854775807) /\ ((-9223372036854775808 : Int) <=
 e.node /\ e.node <= 9223372036854775807) /\ ((-9223372036854775808 : Int) <= e.to /\ e.to <= 9223372036854775807) /\ ((-9223372036854775808 : Int) ≤ e.n /\ e.n <= 9223372036854775807) /\ (∀ (x : Int), x ∈ e.conf ->
 (-9223372036854775808 : Int) <= x /\ x <= 9223372036854775807) /\ ((-9223372036854775808 : Int) <= e.ck /\ e.ck <= 9223372036854775807) /\ ((0 : Int) <= e.author /\ e.author + 1 <= 4294967296) /\ ∀ i < 32, (0 : Int) <=
 e.new i /\ e.new i + 1 <= 256) /\ (gEq (bif (printR (Sc.mk (parseR ((bs t).extract (Int.toNat 0) (if (262144 : Int) < (↑ t.length : Int) then (262144 : Int) else (↑ t.length : Int)).toNat).data.toList).1.servers (parseR
 ((bs t).extract (Int.toNat 0) (if (262144 : Int) < (↑ t.length : Int) then (262144 : Int) else (↑ t.length : Int)).toNat).data.toList).1.clients (parseR ((bs t).extract (Int.toNat 0) (if (262144 : Int) < (↑ t.length :
 Int) then (262144 : Int) else (↑ t.length : Int)).toNat).data.toList).1.area l)).2 == 0 then (bs (printR (Sc.mk (parseR ((bs t).extract (Int.toNat 0) (if (262144 : Int) < (↑ t.length : Int) then (262144 : Int) else (↑
 t.length : Int)).toNat).data.toList).1.servers (parseR ((bs t).extract (Int.toNat 0) (if (262144 : Int) < (↑ t.length : Int) then (262144 : Int) else (↑ t.length : Int)).toNat).data.toList).1.clients (parseR ((bs
 t).extract (Int.toNat 0) (if (262144 : Int) < (↑ t.length : Int) then (262144 : Int) else (↑ t.length : Int)).toNat).data.toList).1.area l)).1).toList == ((bs t).extract (Int.toNat 0) (if (262144 : Int) < (↑ t.length :
 Int) then (262144 : Int) else (↑ t.length : Int)).toNat).toList else false) true = true -> ∃ (l : List Ev), IsEvs (AV.rows 80 (parseR ((bs t).extract (Int.toNat 0) (if (262144 : Int) < (↑ t.length : Int) then (262144 :
 Int) else (↑ t.length : Int)).toNat).data.toList).1.evs.length (evF (parseR ((bs t).extract (Int.toNat 0) (if (262144 : Int) < (↑ t.length : Int) then (262144 : Int) else (↑ t.length : Int)).toNat).data.toList).1.evs)) l
 /\ true = true /\ (True /\ True) /\ True /\ R (bl (bif true then checkE l == 0 else false)) []) /\ (gEq (bif (printR (Sc.mk (parseR ((bs t).extract (Int.toNat 0) (if (262144 : Int) < (↑ t.length : Int) then (262144 :
 Int) else (↑ t.length : Int)).toNat).data.toList).1.servers (parseR ((bs t).extract (Int.toNat 0) (if (262144 : Int) < (↑ t.length : Int) then (262144 : Int) else (↑ t.length : Int)).toNat).data.toList).1.clients (parseR
 ((bs t).extract (Int.toNat 0) (if (262144 : Int) < (↑ t.length : Int) then (262144 : Int) else (↑ t.length : Int)).toNat).data.toList).1.area l)).2 == 0 then (bs (printR (Sc.mk (parseR ((bs t).extract (Int.toNat 0) (if
 (262144 : Int) < (↑ t.length : Int) then (262144 : Int) else (↑ t.length : Int)).toNat).data.toList).1.servers (parseR ((bs t).extract (Int.toNat 0) (if (262144 : Int) < (↑ t.length : Int) then (262144 : Int) else (↑
 t.length : Int)).toNat).data.toList).1.clients (parseR ((bs t).extract (Int.toNat 0) (if (262144 : Int) < (↑ t.length : Int) then (262144 : Int) else (↑ t.length : Int)).toNat).data.toList).1.area l)).1).toList == ((bs
 t).extract (Int.toNat 0) (if (262144 : Int) < (↑ t.length : Int) then (262144 : Int) else (↑ t.length : Int)).toNat).toList else false) true = false -> true = true /\ (True /\ True) /\ True /\ R (bl false) []))))) := by
 kernel_rfl
end Go.Proofs.Sz

namespace Go.Proofs.Sz
open Go Go.Am Go.SP
theorem evI_of {e : Ev} (h : EvOk e) : EvI e := by
 obtain ⟨_, h2, h3, h4, h5, h6, h7, h8⟩ := h
 exact ⟨h2, h3, h4, h5, h6, h7, h8⟩
theorem short_ok {e : Ev} (h : EvOk e) : EvOk (shortE e) := by
 obtain ⟨h1, h2, h3, h4, h5, h6, h7, h8⟩ := h
 exact ⟨h1, h2, h3, h4, λ x hx => h5 x (List.mem_of_mem_take hx), h6, h7, h8⟩
theorem few_ok {l : List Ev} (h : ∀ e ∈ l, EvOk e) : ∀ e ∈ fewL l, EvOk e := λ e he => by
 obtain ⟨x, hx, rfl⟩ := List.mem_map.1 he
 exact short_ok (h x (List.mem_of_mem_take hx))
theorem sameEvs_of : ∀ {a b : List Ev}, SameL a b -> sameEvs a b = true := by
 intro a
 induction a with
 | nil =>
  intro b h
  cases b with
  | nil => rfl
  | cons y b => exact h.elim
 | cons x a ih =>
  intro b h
  cases b with
  | nil => exact h.elim
  | cons y b =>
   obtain ⟨h1, h2⟩ := h
   have h3 := ih h2
   rw [sameEvs, Bool.and_eq_true, List.all_eq_true, beq_iff_eq] at h3 ⊢
   refine ⟨by rw [List.length_cons, List.length_cons, h3.1], λ i hi => ?_⟩
   rw [List.mem_range, List.length_cons] at hi
   cases i with
   | zero => exact same_iff.2 h1
   | succ i => exact h3.2 i (List.mem_range.2 (by omega))
end Go.Proofs.Sz

namespace Go.Proofs.Sz
open Go Go.Am Go.SP
theorem evAt_take (l : List Ev) (k i : Nat) (h : i < min k l.length) : evAt l (Int.toNat (0 : Int) + i) = evAt (l.take k) i := take_getD l k i ev0 h
theorem XFew : EntOk Tryz.prog 7 (.lend TFew) := by
 refine ⟨Am.enters_of Tryz.func7 (by kernel_rfl) (by kernel_rfl), λ args R h => ?_⟩
 unfold TFew at h
 split at h
 ·rename_i a b c x
  obtain ⟨l, hx, h⟩ := h
  refine Spec.argsD (args' := [.agg [nm a, nm b, nm c, evsAV l]]) ⟨.cons (.pl _) rfl (.cons (.pl _) rfl (.cons (.pl _) rfl (.cons (.of_leR hx) (evs_cw hx) .nil))), trivial⟩ ?_
  refine Spec.weak (Z := Unit) (X := λ _ => scAV ⟨a, b, c, fewL l⟩) (HH := λ _ => []) (mkSo (vFew a b c l (λ i => i <= (l.take 301).length) R) (tb (ac XEvent az)) Tryz.func7 (by kernel_rfl) ?_)
  have hmx := maxLen_eq
  have hl1 : (l.take 301).length <= 301 := by simp; omega
  have hfl : (fewL l).length = (l.take 301).length := by simp [fewL]
  simp only [true_and, and_true, and_self, implies_true, forall_const, gEq_true, gEq_false, nonneg_iff, natle_iff, decide_eq_true_eq, decide_eq_false_iff_not, Int.toNat_natCast, cond_bt, cond_bf, Bool.cond_true, Bool.cond_false, Bool.not_true, Bool.not_false, reduceCtorEq, false_implies, implies_true, Bool.true_eq_false, Bool.false_eq_true, Bool.not_eq_true', Bool.not_eq_false', bs_size, bs_data, bs_toList, bs_extract, bs_append, bs_mk, byteF]
  refine ⟨cut_ok _ _ (by decide), ⟨0, ⟨⟨(cutLen _ 301 301 rfl).trans List.length_take.symm, λ i hi => congrArg Ev.av (evAt_take l 301 i (by rwa [cutLen _ 301 301 rfl] at hi))⟩, by rw [cutLen _ 301 301 rfl, List.length_take], rfl⟩, by simp, Nat.zero_le _⟩, λ x hx => ?_⟩
  have htx : ((fewL l).take x).length = x := by rw [List.length_take, hfl]; omega
  refine ⟨λ hlt => ?_, λ hge => ?_⟩
  ·have hstep : (fewL l).take (x + 1) = (fewL l).take x ++ [shortE (evAt (l.take 301) x)] := by
    rw [List.take_succ_eq_append_getElem (by omega)]
    congr 2
    simp only [fewL, List.getElem_map, evAt]
    rw [List.getD_eq_getElem?_getD, List.getElem?_eq_getElem (by omega)]
    rfl
   refine ⟨⟨by omega, by omega⟩, evAt (l.take 301) x, isEv_self _, ⟨by omega, by omega, by omega⟩, x + 1, by rw [wrap64] <;> omega, ⟨?_, ?_, λ i hi => ?_⟩, by omega, by omega⟩
   ·rw [hstep, List.length_append]; rfl
   ·rw [hstep, List.length_append]; exact Nat.le_refl _
   ·rw [hstep] at hi ⊢
    exact app_at Ev.av ((fewL l).take x) (shortE (evAt (l.take 301) x)) ev0 i hi
  ·have hxl : (fewL l).take x = fewL l := List.take_of_length_le (by omega)
   rw [hxl]
   refine ⟨by omega, (), ⟨rfl, λ i _ => congrArg Ev.av (by rw [Nat.zero_add])⟩, h⟩
 ·exact h.elim
theorem evOk_of {e : Ev} (hw : wrongE e = false) (hi : EvI e) : EvOk e := by
 obtain ⟨hk, _⟩ := not_wrong hw
 obtain ⟨h2, h3, h4, h5, h6, h7, h8⟩ := hi
 exact ⟨⟨by omega, by omega⟩, h2, h3, h4, h5, h6, h7, h8⟩
theorem back_rest {T : Bs} (hT : T.length <= 262144) {R : AV -> List LObj -> Prop} (h : R (bl true) []) :
  (((parseR T).2.2 != 0) = true -> R (bl ((parseR T).2.2 == 360 && decide (((parseR T).2.1 : Int) ≥ 0) && decide (((parseR T).2.1 : Int) <= (T.length : Int)) && (((parseR T).1.evs.length : Int) == 0) && ((parseR T).1.servers == 0 && ((parseR T).1.clients == 0 && ((parseR T).1.area == 0 && true))))) []) /\
  (((parseR T).2.2 != 0) = false -> ∃ l, (IsEvs (evsAV (parseR T).1.evs) l /\ Int64 (parseR T).1.servers /\ Int64 (parseR T).1.clients /\ Int64 (parseR T).1.area /\ ∀ e ∈ l, EvOk e) /\
   (((printR ⟨(parseR T).1.servers, (parseR T).1.clients, (parseR T).1.area, l⟩).2 == 0 && (printR ⟨(parseR T).1.servers, (parseR T).1.clients, (parseR T).1.area, l⟩).1 == T) = true -> ∃ l, IsEvs (evsAV (parseR T).1.evs) l /\ R (bl (checkE l == 0)) []) /\
   (((printR ⟨(parseR T).1.servers, (parseR T).1.clients, (parseR T).1.area, l⟩).2 == 0 && (printR ⟨(parseR T).1.servers, (parseR T).1.clients, (parseR T).1.area, l⟩).1 == T) = false -> R (bl false) [])) := by
 refine ⟨λ h1 => ?_, λ h1 => ?_⟩
 ·obtain ⟨h2, h3, h4⟩ := back_no hT (bne_iff_ne.1 h1)
  rw [h2, h4]
  have e1 : decide (((parseR T).2.1 : Int) ≥ 0) = true := decide_eq_true (by omega)
  have e2 : decide (((parseR T).2.1 : Int) <= (T.length : Int)) = true := decide_eq_true (by omega)
  rw [e1, e2]
  exact h
 ·obtain ⟨h2, ⟨i1, i2, i3, i4⟩, h3, h4⟩ := back_bwd (t := T) (by simpa using h1)
  refine ⟨(parseR T).1.evs, ⟨isEvs_self _, i1, i2, i3, λ e he => evOk_of ((check_ok h3).2 e he) (i4 e he)⟩, λ _ => ⟨(parseR T).1.evs, isEvs_self _, by rw [h3]; exact h⟩, λ h5 => ?_⟩
  have e1 : (⟨(parseR T).1.servers, (parseR T).1.clients, (parseR T).1.area, (parseR T).1.evs⟩ : Sc) = (parseR T).1 := rfl
  rw [e1, h2] at h5
  simp at h5
theorem XBack : EntOk Tryz.prog 5 (.lend TBack) := by
 refine ⟨Am.enters_of Tryz.func5 (by kernel_rfl) (by kernel_rfl), λ args R h => ?_⟩
 unfold TBack at h
 split at h
 ·rename_i a b c x t
  obtain ⟨t, rfl⟩ : ∃ l, t = bs l := ⟨_, bs_of t⟩
  obtain ⟨l, ⟨hx, ha, hb, hc, hl⟩, h⟩ := h
  refine Spec.argsD (args' := [.agg [nm a, nm b, nm c, evsAV l], sl t]) ⟨.cons (.pl _) rfl (.cons (.pl _) rfl (.cons (.pl _) rfl (.cons (.of_leR hx) (evs_cw hx) .nil))), .pl _, trivial⟩ ?_
  refine mkSo (vBack a b c l t R) (tb (ac XWakes (ac XFew (ac XPrint (ac XParse (ac XSameSc (ac XCheck az))))))) Tryz.func5 (by kernel_rfl) ?_
  simp only [true_and, and_true, and_self, implies_true, forall_const, gEq_true, gEq_false, nonneg_iff, natle_iff, decide_eq_true_eq, decide_eq_false_iff_not, Int.toNat_natCast, cond_bt, cond_bf, Bool.cond_true, Bool.cond_false, Bool.not_true, Bool.not_false, reduceCtorEq, false_implies, implies_true, Bool.true_eq_false, Bool.false_eq_true, Bool.not_eq_true', Bool.not_eq_false', bs_size, bs_data, bs_toList, bs_extract, bs_append, bs_mk, byteF]
  refine ⟨l, isEvs_self l, fewL l, ⟨isEvs_self _, ha, hb, hc, few_ok hl⟩, ?_⟩
  have hT : (List.drop (Int.toNat 0) (List.take (if (262144 : Int) < (List.length t : Int) then (262144 : Int) else (List.length t : Int)).toNat t)).length <= 262144 := by
   rw [List.length_drop, List.length_take]
   split <;> omega
  have hcut := cut_ok t.length 262144 (by decide)
  generalize List.drop (Int.toNat 0) (List.take (if (262144 : Int) < (List.length t : Int) then (262144 : Int) else (List.length t : Int)).toNat t) = T at hT ⊢
  refine ⟨λ h1 => ?_, λ _ => ⟨hcut, back_rest hT h⟩⟩
  have hP : printR ⟨a, b, c, fewL l⟩ = ((printR ⟨a, b, c, fewL l⟩).1, 0) := Prod.ext rfl (beq_iff_eq.1 h1)
  obtain ⟨ys, hys, hp⟩ := back_fwd (s := ⟨a, b, c, fewL l⟩) ⟨ha, hb, hc, λ e he => evI_of (few_ok hl e he)⟩ hP
  dsimp only at hys
  rw [hp]
  refine ⟨λ _ => ⟨fewL l, ys, ⟨isEvs_self _, isEvs_self _⟩, λ h2 => ?_, λ _ => ⟨hcut, back_rest hT h⟩⟩, λ h2 => by cases h2⟩
  rw [sameEvs_of hys] at h2
  simp at h2
 ·exact h.elim
end Go.Proofs.Sz

namespace Go.Proofs.Sz
open Go Go.Am Go.SP
theorem star : "*" ++ "errors.errorString" = "*errors.errorString" := by decide
theorem rowES (u : TypeId) (h : Tryz.prog.typeName? 3 u = some "*errors.errorString") : u = 177 :=
 typeName_ptr_named (nm := "errors.errorString") (by rw [star]; kernel_rfl) (by kernel_rfl) (by decide) u (by rw [star]; exact h)
def laidL : List (String × DataW Unit) := [("math/bits.deBruijn32tab", Go.Proofs.YtbjhikadmmolfaaGreatDoor.Rows.laid_math_bits_deBruijn32tab), ("math/bits.deBruijn64tab", Go.Proofs.YtbjhikadmmolfaaGreatDoor.Rows.laid_math_bits_deBruijn64tab), ("internal/strconv.uint64pow10", Go.Proofs.YtbjhikadmmolfaaGreatDoor.Rows.laid_internal_strconv_uint64pow10), ("strconv.ErrRange", Go.Proofs.YtbjhikadmmolfaaGreatDoor.Rows.laid_strconv_ErrRange), ("strconv.ErrSyntax", Go.Proofs.YtbjhikadmmolfaaGreatDoor.Rows.laid_strconv_ErrSyntax)]
def pow10s : List Int := (List.range 20).map λ i => (10 : Int) ^ i
theorem pow_data : (Go.Proofs.YtbjhikadmmolfaaGreatDoor.Rows.laid_internal_strconv_uint64pow10 : DataW Unit) = Lib.tabData .u64 pow10s := by kernel_rfl
theorem cell_lt {W : World} {g i : Nat} {v : Value} (h : W.cell? ⟨g, i, none⟩ = some v) : g < W.heap.size := by
 unfold World.cell? at h
 split at h
 ·rename_i hh
  exact (Array.getElem?_eq_some_iff.1 hh).1
 ·cases h
theorem glo_err {W : World} {g : Nat} {n : String} (hg : Tryz.prog.globalNamed n = some g) {a : Addr} (hv : W.var? Tryz.prog n = some #[.iface 177 (.pointer (some a))]) :
  (startE W).F g /\ ∃ us : List Value, Rep (startE W).imm us (.ifc 177 .any) /\ ∀ i, (startE W).w.cell? ⟨g, i, none⟩ = us[i]? := by
 have hc := World.var?_cell hg hv
 refine ⟨cell_lt (i := 0) (v := .iface 177 (.pointer (some a))) (by rw [hc 0]; rfl), [.iface 177 (.pointer (some a))], Rep.ifc rfl (.any _ rfl), λ i => ?_⟩
 show W.cell? _ = _
 rw [hc i]
 simp
theorem glo_of_laid {W : World} (h : laidMet Tryz.prog laidL W) : GloE (startE W) := by
 have h3 := h.tail.tail
 have h4 := h3.tail
 have h5 := h4.tail
 intro g x hx
 match g, hx with
 | 1, hx =>
  injection hx with hx
  subst hx
  rw [pow_data] at h3
  have ht := Lib.tabIs_of_head (k := .u64) (zs := pow10s) (g := 1) (by kernel_rfl) (by kernel_rfl) Tryz.underlying162 Tryz.underlying115 (by kernel_rfl) (by kernel_rfl) h3
  unfold Lib.TabIs at ht
  have hc := World.var?_cell (g := 1) (by kernel_rfl) ht
  refine ⟨cell_lt (i := 0) (v := .int .u64 1) (by rw [hc 0]; rfl), pow10s.map λ z => Value.int .u64 z, ?_, λ i => ?_⟩
  ·refine rep_one (by rfl) (.iarr (by rfl) λ i hi => ?_)
   rw [List.getElem?_map]
   simp [pow10s, hi, pow10]
  ·show W.cell? _ = _
   rw [hc i]
   simp
 | 2, hx =>
  injection hx with hx
  subst hx
  obtain ⟨a, _, hv, _⟩ := laid_sentinel h5 (g := 2) (by kernel_rfl) (ti := 73) (by kernel_rfl) Tryz.underlying73 rowES Tryz.underlying177 Tryz.underlying179 rfl rfl Tryz.underlying9 (by kernel_rfl) (by kernel_rfl)
  exact glo_err (by kernel_rfl) hv
 | 3, hx =>
  injection hx with hx
  subst hx
  obtain ⟨a, _, hv, _⟩ := laid_sentinel h4 (g := 3) (by kernel_rfl) (ti := 73) (by kernel_rfl) Tryz.underlying73 rowES Tryz.underlying177 Tryz.underlying179 rfl rfl Tryz.underlying9 (by kernel_rfl) (by kernel_rfl)
  exact glo_err (by kernel_rfl) hv
 | 0, hx => cases hx
 | _ + 4, hx => cases hx
end Go.Proofs.Sz

namespace Go.Proofs.Sz
open Go Go.Am Go.SP
set_option maxRecDepth 100000
def valsOf : DataW Unit -> Array Value
 | .agg ps => (ps.map λ d => match d with | .lit (.int k z) => Value.int k z | _ => Value.int .u8 0).toArray
 | _ => #[]
abbrev synS : ByteArray := { data := #[105, 110, 118, 97, 108, 105, 100, 32, 115, 121, 110, 116, 97, 120] }
abbrev rngS : ByteArray := { data := #[118, 97, 108, 117, 101, 32, 111, 117, 116, 32, 111, 102, 32, 114, 97, 110, 103, 101] }
noncomputable def low : Nat := (World.holding Tryz.prog default ⟨#[], #[], []⟩).heap.size
def putC (cs : Array Value) : Obj -> Obj
 | .cells _ t frozen => .cells cs t frozen
 | o => o
noncomputable def laidWorld (os : Os) : World :=
 let w0 := World.holding Tryz.prog os ⟨#[.cells #[.string rngS] 179, .cells #[.string synS] 179], #[], []⟩
 { w0 with heap := ((((w0.heap.modify 1 (putC (valsOf Go.Proofs.YtbjhikadmmolfaaGreatDoor.Rows.laid_internal_strconv_uint64pow10))).modify 2 (putC #[.iface 177 (.pointer (some ⟨low + 1, 0, none⟩))])).modify 3 (putC #[.iface 177 (.pointer (some ⟨low, 0, none⟩))])).modify 4 (putC (valsOf Go.Proofs.YtbjhikadmmolfaaGreatDoor.Rows.laid_math_bits_deBruijn32tab))).modify 5 (putC (valsOf Go.Proofs.YtbjhikadmmolfaaGreatDoor.Rows.laid_math_bits_deBruijn64tab)) }
theorem laidWorld_met (os : Os) (args : Array Value) : laidMet Tryz.prog laidL ((laidWorld os).forCall (λ _ _ => 0) ⟨#[], args, []⟩).memory :=
 laidMet_of_run' 8 (by kernel_rfl) (by kernel_rfl)
theorem own : ownKnob Tryz.prog.godebug = none := by kernel_rfl
theorem laidOut : laidOutB Tryz.prog = true := by kernel_rfl
theorem wf64 {z : Int} (h : (Lit.int .i64 z).wf = true) : Int64 z := by
 have e1 : IntKind.i64.min = -9223372036854775808 := rfl
 have e2 : IntKind.i64.max = 9223372036854775807 := rfl
 simp [Lit.wf, e1, e2] at h
 exact h
theorem wfu8 {z : Int} (h : (Lit.int .u8 z).wf = true) : 0 <= z /\ z < 256 := by
 have e1 : IntKind.u8.min = 0 := rfl
 have e2 : IntKind.u8.max = 255 := rfl
 simp [Lit.wf, e1, e2] at h
 omega
theorem wfu32 {z : Int} (h : (Lit.int .u32 z).wf = true) : 0 <= z /\ z < 4294967296 := by
 have e1 : IntKind.u32.min = 0 := rfl
 have e2 : IntKind.u32.max = 4294967295 := rfl
 simp [Lit.wf, e1, e2] at h
 omega
theorem pInt {n : Nat} {Xs : List AV} (h : Parts Tryz.prog (n + 1) 3 Xs) : ∃ z, Xs = [nm z] /\ Int64 z := by
 obtain ⟨z, rfl, hw⟩ := Parts.int Tryz.underlying3 h
 exact ⟨z, rfl, wf64 hw⟩
theorem pU32 {n : Nat} {Xs : List AV} (h : Parts Tryz.prog (n + 1) 53 Xs) : ∃ z, Xs = [.pl (.int .u32 z)] /\ 0 <= z /\ z < 4294967296 := by
 obtain ⟨z, rfl, hw⟩ := Parts.int Tryz.underlying53 h
 exact ⟨z, rfl, wfu32 hw⟩
theorem pStr {n : Nat} {Xs : List AV} (h : Parts Tryz.prog (n + 1) 9 Xs) : ∃ l : Bs, Xs = [sl l] /\ l.length <= maxLen := by
 obtain ⟨s, rfl, hs⟩ := Parts.string Tryz.underlying9 h
 exact ⟨s.data.toList, congrArg (λ v => [AV.pl (.string v)]) (bs_of s), by simpa using hs⟩
theorem pId {n : Nat} {Xs : List AV} (h : Parts Tryz.prog (n + 1) 57 Xs) : ∃ f, Xs = [.iarr .u8 32 f] /\ ∀ i, i < 32 -> 0 <= f i /\ f i < 256 := by
 obtain ⟨f, rfl, hf⟩ := Parts.array Tryz.underlying57 Tryz.underlying5 h
 exact ⟨f, rfl, λ i hi => wfu8 (hf i hi)⟩
theorem c5 : Tryz.prog.cellsOf 5 = 1 := by kernel_rfl
theorem pData {n : Nat} {Xs : List AV} (h : Parts Tryz.prog (n + 2) 58 Xs) : ∃ (l : Bs) (f : Nat -> AV), Xs = [.rows 1 l.length f] /\ ∀ i, i < l.length -> f i = byteF (bs l) i := by
 obtain ⟨m, f, rfl, _, h1⟩ := Parts.slice Tryz.underlying58 h
 obtain ⟨L, hl, hL⟩ := list_of (λ i (c : UInt8) => f i = u8 c) m (λ i hi => by
  obtain ⟨Ys, hp, hf⟩ := h1 i hi
  obtain ⟨z, rfl, hw⟩ := Parts.int Tryz.underlying5 hp
  rw [wrapE_int Tryz.underlying5] at hf
  have hz := wfu8 hw
  refine ⟨UInt8.ofNat z.toNat, ?_⟩
  rw [hf]
  have : ((UInt8.ofNat z.toNat).toNat : Int) = z := by
   rw [UInt8.toNat_ofNat']
   omega
  show AV.pl (.int .u8 z) = AV.pl (.int .u8 _)
  rw [this])
 refine ⟨L, f, by rw [c5, hl], λ i hi => ?_⟩
 rw [hL i hi, byteF, bs_data, List.getD_eq_getElem?_getD, List.getElem?_eq_getElem hi]
 rfl
end Go.Proofs.Sz

namespace Go.Proofs.Sz
open Go Go.Am Go.SP
set_option maxRecDepth 100000
theorem getD_of {α : Type} {L : List α} {i : Nat} (h : i < L.length) (d : α) : L.getD i d = L[i] := by
 rw [List.getD_eq_getElem?_getD, List.getElem?_eq_getElem h]
 rfl
theorem cB : Tryz.prog.cellsOf 4 = 1 := by kernel_rfl
theorem cI : Tryz.prog.cellsOf 3 = 1 := by kernel_rfl
theorem cR : Tryz.prog.cellsOf 96 = 2 := by kernel_rfl
theorem cC : Tryz.prog.cellsOf 64 = 3 := by kernel_rfl
theorem cE : Tryz.prog.cellsOf 62 = 80 := by kernel_rfl
theorem pBools {n : Nat} {Xs : List AV} (h : Parts Tryz.prog (n + 2) 46 Xs) : ∃ (l : List Bool) (f : Nat -> AV), Xs = [.rows 1 l.length f] /\ ∀ i, i < l.length -> f i = boolF l i := by
 obtain ⟨m, f, rfl, _, h1⟩ := Parts.slice Tryz.underlying46 h
 obtain ⟨L, hl, hL⟩ := list_of (λ i (c : Bool) => f i = bl c) m (λ i hi => by
  obtain ⟨Ys, hp, hf⟩ := h1 i hi
  obtain ⟨z, rfl⟩ := Parts.bool Tryz.underlying4 hp
  exact ⟨z, by rw [hf]; simp only [wrapE, Tryz.underlying4]; rfl⟩)
 exact ⟨L, f, by rw [cB, hl], λ i hi => by rw [hL i hi, boolF, getD_of hi]⟩
theorem pIntsS {n : Nat} {Xs : List AV} (h : Parts Tryz.prog (n + 2) 47 Xs) : ∃ (l : List Int) (f : Nat -> AV), Xs = [.rows 1 l.length f] /\ (∀ i, i < l.length -> f i = intF l i) /\ ∀ z ∈ l, Int64 z := by
 obtain ⟨m, f, rfl, _, h1⟩ := Parts.slice Tryz.underlying47 h
 obtain ⟨L, hl, hL⟩ := list_of (λ i (c : Int) => f i = nm c /\ Int64 c) m (λ i hi => by
  obtain ⟨Ys, hp, hf⟩ := h1 i hi
  obtain ⟨z, rfl, hz⟩ := pInt hp
  rw [wrapE_int Tryz.underlying3] at hf
  exact ⟨z, hf, hz⟩)
 refine ⟨L, f, by rw [cI, hl], λ i hi => by rw [(hL i hi).1, intF, getD_of hi], λ z hz => ?_⟩
 obtain ⟨i, hi, rfl⟩ := List.mem_iff_getElem.1 hz
 exact (hL i hi).2
theorem pRows {n : Nat} {Xs : List AV} (h : Parts Tryz.prog (n + 3) 50 Xs) : ∃ (l : List (Bs × Bs)) (f : Nat -> AV), Xs = [.rows 2 l.length f] /\ ∀ i, i < l.length -> f i = rowF l i := by
 obtain ⟨m, f, rfl, _, h1⟩ := Parts.slice Tryz.underlying50 h
 obtain ⟨L, hl, hL⟩ := list_of (λ i (c : Bs × Bs) => f i = .agg [sl c.1, sl c.2]) m (λ i hi => by
  obtain ⟨Ys, hp, hf⟩ := h1 i hi
  obtain ⟨_, _, rfl, a1, _, _, rfl, a2, rfl⟩ := Parts.struct Tryz.underlying96 hp
  obtain ⟨p, rfl, _⟩ := pStr a1
  obtain ⟨q, rfl, _⟩ := pStr a2
  rw [wrapE_struct Tryz.underlying96] at hf
  exact ⟨(p, q), hf⟩)
 exact ⟨L, f, by rw [cR, hl], λ i hi => by rw [hL i hi, rowF, getD_of hi]⟩
theorem pChgs {n : Nat} {Xs : List AV} (h : Parts Tryz.prog (n + 3) 43 Xs) : ∃ (l : List (Bs × Bool × Bs)) (f : Nat -> AV), Xs = [.rows 3 l.length f] /\ ∀ i, i < l.length -> f i = chgF l i := by
 obtain ⟨m, f, rfl, _, h1⟩ := Parts.slice Tryz.underlying43 h
 obtain ⟨L, hl, hL⟩ := list_of (λ i (c : Bs × Bool × Bs) => f i = .agg [sl c.1, bl c.2.1, sl c.2.2]) m (λ i hi => by
  obtain ⟨Ys, hp, hf⟩ := h1 i hi
  obtain ⟨_, _, rfl, a1, _, _, rfl, a2, _, _, rfl, a3, rfl⟩ := Parts.struct Tryz.underlying64 hp
  obtain ⟨p, rfl, _⟩ := pStr a1
  obtain ⟨b, rfl⟩ := Parts.bool Tryz.underlying4 a2
  obtain ⟨q, rfl, _⟩ := pStr a3
  rw [wrapE_struct Tryz.underlying64] at hf
  exact ⟨(p, b, q), hf⟩)
 exact ⟨L, f, by rw [cC, hl], λ i hi => by rw [hL i hi, chgF, getD_of hi]⟩
theorem pEvent {n : Nat} {Xs : List AV} (h : Parts Tryz.prog (n + 5) 62 Xs) : ∃ e : Ev, leA [] (.agg Xs) e.av /\ EvOk e := by
 obtain ⟨_, _, rfl, h1, _, _, rfl, h2, _, _, rfl, h3, _, _, rfl, h4, _, _, rfl, h5, _, _, rfl, h6, _, _, rfl, h7, _, _, rfl, h8, _, _, rfl, h9, _, _, rfl, h10, _, _, rfl, h11, rfl⟩ := Parts.struct Tryz.underlying62 h
 obtain ⟨_, _, rfl, a1, _, _, rfl, a2, _, _, rfl, a3, _, _, rfl, a4, _, _, rfl, a5, _, _, rfl, a6, _, _, rfl, a7, rfl⟩ := Parts.struct Tryz.underlying60 h11
 obtain ⟨_, _, rfl, b1, _, _, rfl, b2, rfl⟩ := Parts.struct Tryz.underlying55 h10
 obtain ⟨_, _, rfl, c1, rfl⟩ := Parts.struct Tryz.underlying49 h6
 obtain ⟨_, _, rfl, d1, rfl⟩ := Parts.struct Tryz.underlying52 h8
 obtain ⟨_, _, rfl, e1, rfl⟩ := Parts.struct Tryz.underlying45 h9
 obtain ⟨kd, rfl, w1⟩ := pInt h1
 obtain ⟨nd, rfl, w2⟩ := pInt h2
 obtain ⟨to, rfl, w3⟩ := pInt h3
 obtain ⟨nn, rfl, w4⟩ := pInt h4
 obtain ⟨kp, fk, rfl, w5⟩ := pBools h5
 obtain ⟨cf, fc, rfl, w6, w7⟩ := pIntsS c1
 obtain ⟨br, rfl, _⟩ := pStr h7
 obtain ⟨mp, fm, rfl, w8⟩ := pRows d1
 obtain ⟨ed, fe, rfl, w9⟩ := pChgs e1
 obtain ⟨au, rfl, w10⟩ := pU32 b1
 obtain ⟨no, rfl, _⟩ := pStr b2
 obtain ⟨ck, rfl, w11⟩ := pInt a1
 obtain ⟨cl, rfl, _⟩ := pInt a2
 obtain ⟨sq, rfl, _⟩ := pU32 a3
 obtain ⟨cb, rfl, _⟩ := pStr a4
 obtain ⟨o, rfl, _⟩ := pId a5
 obtain ⟨w, rfl, w12⟩ := pId a6
 obtain ⟨dt, fd, rfl, w13⟩ := pData a7
 exact ⟨⟨kd, nd, to, nn, kp, cf, br, mp, ed, au, no, ck, cl, sq, cb, o, w, dt⟩, ⟨rfl, rfl, rfl, rfl, ⟨rfl, rfl, w5⟩, ⟨rfl, rfl, w6⟩, rfl, ⟨rfl, rfl, w8⟩, ⟨rfl, rfl, w9⟩, rfl, rfl, rfl, rfl, rfl, rfl, ⟨rfl, rfl, λ _ _ => rfl⟩, ⟨rfl, rfl, λ _ _ => rfl⟩, ⟨rfl, rfl, w13⟩, trivial⟩, w1, w2, w3, w4, w7, w11, w10, w12⟩
theorem pEvents {n : Nat} {Xs : List AV} (h : Parts Tryz.prog (n + 6) 26 Xs) : ∃ (x : AV) (l : List Ev), Xs = [x] /\ IsEvs x l /\ ∀ e ∈ l, EvOk e := by
 obtain ⟨m, f, rfl, _, h3⟩ := Parts.slice Tryz.underlying26 h
 obtain ⟨L, hl, hL⟩ := list_of (λ i (d : Ev) => leA [] (f i) d.av /\ EvOk d) m (λ i hi => by
  obtain ⟨Ys, hp, hf⟩ := h3 i hi
  obtain ⟨d, hd, ok⟩ := pEvent hp
  rw [wrapE_struct Tryz.underlying62] at hf
  exact ⟨d, by rw [hf]; exact hd, ok⟩)
 refine ⟨_, L, rfl, ?_, λ d hd => ?_⟩
 ·rw [cE]
  refine ⟨rfl, hl.symm, λ i hi => ?_⟩
  have := (hL i hi).1
  show leA [] (f i) (evAt L i).av
  rw [evAt, getD_of hi]
  exact this
 ·obtain ⟨i, hi, rfl⟩ := List.mem_iff_getElem.1 hd
  exact (hL i hi).2
theorem pScript {n : Nat} {Xs : List AV} (h : Parts Tryz.prog (n + 7) 28 Xs) : ∃ (a b c : Int) (x : AV) (l : List Ev), Xs = [nm a, nm b, nm c, x] /\ IsEvs x l /\ Int64 a /\ Int64 b /\ Int64 c /\ ∀ e ∈ l, EvOk e := by
 obtain ⟨_, _, rfl, h1, _, _, rfl, h2, rfl⟩ := Parts.struct Tryz.underlying28 h
 obtain ⟨_, _, rfl, a1, _, _, rfl, a2, _, _, rfl, a3, rfl⟩ := Parts.struct Tryz.underlying25 h1
 obtain ⟨a, rfl, w1⟩ := pInt a1
 obtain ⟨b, rfl, w2⟩ := pInt a2
 obtain ⟨c, rfl, w3⟩ := pInt a3
 obtain ⟨x, l, rfl, hx, hl⟩ := pEvents h2
 exact ⟨a, b, c, x, l, rfl, hx, w1, w2, w3, hl⟩
end Go.Proofs.Sz

namespace Go.Proofs.Sz
open Go Go.Am Go.SP
set_option maxRecDepth 100000
theorem back_spec (xs : List AV) (h : ArgsOf Tryz.prog 8 Tryz.f5.params.toList xs) : Am.Spec Tryz.prog 5 xs λ y _ => y = .pl (.bool true) := by
 rw [Tryz.params5] at h
 obtain ⟨Ys, xs, rfl, hp, h⟩ := args_cons h
 obtain ⟨Zs, xs, rfl, hq, h⟩ := args_cons h
 obtain rfl := args_nil h
 obtain ⟨a, b, c, x, l, rfl, hl, ha, hb, hc, hd⟩ := pScript hp
 obtain ⟨s, rfl, _⟩ := pStr hq
 rw [wrapV_struct Tryz.underlying28]
 have e : wrapV Tryz.prog 9 [sl s] = sl s := by
  simp only [wrapV, Tryz.underlying9]
  rfl
 rw [e]
 exact XBack.2 _ _ ⟨l, ⟨hl, ha, hb, hc, hd⟩, rfl⟩
end Go.Proofs.Sz
namespace Go.Proofs.YtbjhikadmmolfaaGreatDoor
open Go Go.Am Go.ChangeShapes Go.WideShapes Go.ChangeAt Go.RowKit Go.Proofs.Sz
set_option maxRecDepth 100000
theorem back_types : ∀ t ∈ Tryz.f5.params.toList, goodT Tryz.prog 8 t = true /\ Tryz.prog.readableRec t = true /\ t < Tryz.prog.types.size := by
 rw [Tryz.params5]
 intro t ht
 rcases List.mem_cons.1 ht with rfl | ht
 ·exact ⟨by kernel_rfl, by kernel_rfl, of_decide_eq_true (by kernel_rfl)⟩
 rcases List.mem_cons.1 ht with rfl | ht
 ·exact ⟨by kernel_rfl, by kernel_rfl, of_decide_eq_true (by kernel_rfl)⟩
 cases ht
theorem back_fn {H : Type} (ds : List (DataW H)) (h : ds.length = Tryz.f5.params.toList.length) : Rows.scriptBackSpec.fn H (ds ++ []) = { results := [.lit (.bool true)], args := ds, vars := [] } := by
 rw [Tryz.params5] at h
 match ds, h with
 | [d1, d2], _ => rfl
theorem back_lifted (os : Os) (started : os.Started) (H : Type) (enc : TypeId × Value -> H) :
  ReturnsInHanded {} Tryz.checked os 5 .any (λ w args => (Rows.scriptBackSpec.pre enc Tryz.prog Tryz.f5 Rows.scriptBackRow.domain false w args /\ laidMet Tryz.prog laidL w) /\ sizedMet enc Tryz.prog Tryz.f5 (OpenSpec.ofChange Rows.scriptBackSpec) false w args)
   (Rows.scriptBackSpec.post enc Tryz.prog Tryz.f5 false true false false) := by
 refine returnsInHanded_of_change_and (C := Tryz.checked) (X := λ w _ => laidMet Tryz.prog laidL w) (λ _ _ _ hh h => h.of_heap hh) own started (by kernel_rfl) Tryz.func5
  (ChangeSpec.witness_at (enc := enc) (C := Tryz.checked) (os := os) (X := λ w _ => laidMet Tryz.prog laidL w) false (laidWorld os) #[.agg #[.int .i64 0, .int .i64 0, .int .i64 0, .slice none 0 0], .string ByteArray.empty] 8 rfl (by kernel_rfl) (by kernel_rfl) (by kernel_rfl) (by kernel_rfl) (by kernel_rfl) (laidWorld_met os _)) ?_
 intro W base args ds gs before hval hW _ _ hL _
 exact law_post (tb := 4) (n := 8) laidOut back_types rfl (λ ds h => back_fn ds h) rfl (by kernel_rfl) back_spec hval hW (glo_of_laid hL)
theorem back_said : Rows.ScriptBackSaid :=
 OpenClaim.holds_of_wide 5 Tryz.f5 rfl rfl rfl rfl rfl rfl rfl ⟨rfl, rfl, rfl, rfl, rfl⟩ rfl rfl rfl rfl rfl (by kernel_rfl) Tryz.func5 (by kernel_rfl)
  (of_decide_eq_true (by kernel_rfl)) (by unfold Func.isWrapper; first | (rw [if_pos (by decide +kernel)]; kernel_rfl) | (rw [if_neg (by decide +kernel)]; exact ⟨rfl, rfl⟩))
  (λ os started H enc _ => back_lifted os started H enc)
theorem scriptBack_holds : Rows.ScriptBackCardSaid :=
 Claim7.holds_tied_plain_at .later [] [.data, .data, .data, .sentinel, .sentinel] true (true, "2d04775125214b8113d4c6c0e9782569a6f98b726a884e79399530077250a89c") true
  back_said (λ _ h => by cases h) (by kernel_rfl) (λ _ h => by cases h) scriptBack_row_tie rfl ⟨rfl, rfl⟩ (by kernel_rfl) rfl
  (λ f fn hf hfn => by
   obtain rfl : f = 5 := Option.some.inj ((show Tryz.prog.funcNamed "confluence/confluencelaw26.ScriptBack" = some 5 by kernel_rfl).symm.trans hf) |>.symm
   obtain rfl : fn = Tryz.f5 := (Option.some.inj (Tryz.func5.symm.trans hfn)).symm
   exact ⟨by kernel_rfl, λ j t ht => by
    rw [Tryz.params5] at ht
    have h3 : t = 28 ∨ t = 9 := by
     rcases j with _ | _ | j
     ·exact .inl (by simpa using ht.symm)
     ·exact .inr (by simpa using ht.symm)
     ·simp at ht
    rcases h3 with rfl | rfl
    ·exact (show Tryz.prog.wantsStandIn 28 = false by kernel_rfl)
    ·exact (show Tryz.prog.wantsStandIn 9 = false by kernel_rfl)⟩)
  (by kernel_rfl)
end Go.Proofs.YtbjhikadmmolfaaGreatDoor
