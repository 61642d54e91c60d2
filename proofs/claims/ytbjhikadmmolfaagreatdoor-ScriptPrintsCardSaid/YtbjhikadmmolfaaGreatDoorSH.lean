/- A seat of the scripts: condition of the writer of events. -/
import Derived.Test.YtbjhikadmmolfaaGreatDoorSG
import Derived.Test.YtbjhikadmmolfaaGreatDoorRows
import Derived.Stop.LaidErr
import Derived.LaidLaws
set_option linter.unusedSectionVars false
set_option linter.unusedVariables false
set_option linter.unusedSimpArgs false
set_option maxRecDepth 100000
set_option maxHeartbeats 4000000
namespace Go.Proofs.Sz
open Go Go.Am Go.SP
theorem vWEvent (l : Bs) (e : Ev) (f : Nat -> AV) (inv7 inv10 inv24 inv30 : Bs -> Prop) (inv14 inv26 inv31 : Bs -> Nat -> Prop) (R : AV -> List LObj -> Prop) : (vcA false false (List.length ([wBox 1 l.length, .row 1 tyU8
 l.length f] : List LObj)) [0, 1] Tryz.prog (mkTab [(42, .lend TWords), (43, .hand tkR TFields), (44, .lend TStamped), (18, .hand tkW TWrS), (20, .hand tkW TWrB), (19, .hand tkW TNums), (45, .hand tkW TTexts), (46, .lend
 TIdT)]) (optC (Tryz.f21.body.getD .skip)) ([.unroll 3 3 true (λ _ => []), .cut 7 Bs inv7 (λ t => ⟨slotsOf 143 0 [(0, .ptr 0 0 0 0), (3, .ptr 3 0 0 0)], WR (l ++ t) ++ [.box tyEv e.cells]⟩) (λ _ => [.cut 10 Bs inv10
 (λ t => ⟨slotsOf 143 0 [(0, .ptr 0 0 0 0), (3, .ptr 3 0 0 0)], WR (l ++ t) ++ [.box tyEv e.cells]⟩) (λ t0 => [.loop 14 Nat (inv14 t0) (λ i => ⟨slotsOf 143 0 [(0, .ptr 0 0 0 0), (3, .ptr 3 0 0 0), (61, .rows 1
 e.keep.length (boolF e.keep)), (62, nm e.keep.length), (63, nm i)], WR (l ++ (t0 ++ ([32, 61] ++ bitsL (e.keep.take i)))) ++ [.box tyEv e.cells]⟩) (λ i => e.keep.length - i) (λ _ => []), .cut 24 Bs inv24 (λ t =>
 ⟨slotsOf 143 0 [(0, .ptr 0 0 0 0), (3, .ptr 3 0 0 0)], WR (l ++ t) ++ [.box tyEv e.cells]⟩) (λ t => [.loop 26 Nat (inv26 t) (λ i => ⟨slotsOf 143 0 [(0, .ptr 0 0 0 0), (3, .ptr 3 0 0 0), (100, mapAV e.map), (101, nm
 e.map.length), (102, nm i)], WR (l ++ (t ++ nums e.conf ++ (e.map.take i).flatMap (λ r => txts [r.1, r.2]))) ++ [.box tyEv e.cells]⟩) (λ i => e.map.length - i) (λ _ => []), .cut 30 Bs inv30 (λ t => ⟨slotsOf 143 0
 [(0, .ptr 0 0 0 0), (3, .ptr 3 0 0 0)], WR (l ++ t) ++ [.box tyEv e.cells]⟩) (λ t => [.loop 31 Nat (inv31 t) (λ i => ⟨slotsOf 143 0 [(0, .ptr 0 0 0 0), (3, .ptr 3 0 0 0), (116, editAV e.edit), (117, nm
 e.edit.length), (118, nm i)], WR (l ++ (t ++ (e.edit.take i).flatMap chgL)) ++ [.box tyEv e.cells]⟩) (λ i => e.edit.length - i) (λ _ => [])])])])])]) (finalKH Tryz.prog Tryz.f21 (λ y H => ∃ _ : Unit, leSt 2 ⟨[y],
 H⟩ ⟨[.tup []], WR (l ++ evL e)⟩ (R (.tup []) (WR (l ++ evL e))))) (startStH Tryz.f21 ([wBox 1 l.length, .row 1 tyU8 l.length f]) ([.ptr 0 0 0 0, e.av]))) = (let Q16 := ((0 : Int) <= 0 /\ (0 : Int) + 1 <= (↑ (1 : Nat) :
 Int)); let Q15 := (AV.rows 1 1 λ (i : Nat) => rowOf [((0 : Nat), nm e.n)] ((0 : Nat) + i)); let Q14 := ((0 : Int) <= 0 /\ (0 : Int) + 1 <= (↑ (2 : Nat) : Int)); let Q13 := (True /\ True /\ True); let Q12 :=
 (ByteArray.mk #[32] ++ bs (idL e.new)); let Q11 := (↑e.edit.length : Int); let Q10 := (↑e.keep.length : Int); let Q9 := (2 = 2 /\ e.map.length = e.map.length /\ ∀ i < e.map.length, rowF e.map i = rowF e.map i);
 let Q8 := ((0 : Int) <= k64Q.wrap ((0 : Int) + 1) /\ k64Q.wrap ((0 : Int) + 1) + 1 <= (↑ (2 : Nat) : Int)); let Q7 := (-9223372036854775808 : Int); let Q6 := (AV.rows 1 1 λ (i : Nat) => rowOf [((0 : Nat), nm e.node)]
 ((0 : Nat) + i)); let Q5 := (3 = 3 /\ e.edit.length = e.edit.length /\ ∀ i < e.edit.length, chgF e.edit i = chgF e.edit i); let Q4 := (1 = 1 /\ e.keep.length = e.keep.length /\ ∀ i < e.keep.length, boolF e.keep i = boolF
 e.keep i); let Q3 := (True /\ ((0 : Nat) + 1).le (1 : Nat) /\ True); let Q2 := (wordsL.getD ((0 : Nat) + e.kind.toNat) []); let Q1 := (True /\ 0 = 0 /\ 0 = 0 /\ 0 = 0); let Q0 := (62 = 62 /\ e.kind = e.kind /\ e.node =
 e.node /\ e.to = e.to /\ e.n = e.n /\ Q4 /\ (1 = 1 /\ e.conf.length = e.conf.length /\ ∀ i < e.conf.length, intF e.conf i = intF e.conf i) /\ bs e.branch = bs e.branch /\ Q9 /\ Q5 /\ e.author = e.author /\ bs e.note = bs
 e.note /\ e.ck = e.ck /\ e.client = e.client /\ e.seq = e.seq /\ bs e.cbranch = bs e.cbranch /\ (k8Q = k8Q /\ 32 = 32 /\ ∀ i < 32, e.old i = e.old i) /\ (k8Q = k8Q /\ 32 = 32 /\ ∀ i < 32, e.new i = e.new i) /\ (1 = 1 /\
 e.data.length = e.data.length /\ ∀ i < e.data.length, byteF (bs e.data) i = byteF (bs e.data) i) /\ True); True /\ ((0 : Int) <= e.kind /\ e.kind + 1 <= (↑ (16 : Nat) : Int)) /\ (((0 : Nat) + e.kind.toNat).succ.le (16 :
 Nat) /\ True) /\ Q13 /\ ∃ (l_1 : Bs), let Q18 := (byteF (bs (l_1 ++ Q2))); let Q17 := (List.length (l_1 ++ Q2)); (71 = 71 /\ IsBytes (1 : Nat) (5 : Nat) l.length l.length f l_1 /\ (l_1.length + (List.length Q2)).le lim)
 /\ ((True /\ True) /\ 62 = 62 /\ (clsK e.kind = 1 -> Q14 /\ True /\ True /\ Q3 /\ ∃ (l_2 : Bs), ∃ (ns : List Int), let Q19 := (List.length (l_2 ++ nums ns)); (71 = 71 /\ IsBytes (1 : Nat) (5 : Nat) Q17 Q17 Q18 l_2 /\
 IsInts Q6 ns /\ (l_2.length + 22 * ns.length).le lim /\ ∀ (n : Int), n ∈ ns -> Q7 <= n /\ n <= 9223372036854775807) /\ nflB (AV.tup []) = true /\ (nflL [AV.ptr 0 0 0 0, AV.own 2 0 Q19] = true /\ True /\ (∀ (i : Nat), i <
 List.length (l_2 ++ nums ns) -> flatB (byteF (bs (l_2 ++ nums ns)) i) = true) /\ True) /\ Q8 /\ True /\ True /\ Q3 /\ ∃ (l_3 : Bs), ∃ (ns_1 : List Int), (71 = 71 /\ IsBytes (1 : Nat) (5 : Nat) Q19 Q19 (byteF (bs (l_2 ++
 nums ns))) l_3 /\ IsInts Q15 ns_1 /\ (l_3.length + 22 * ns_1.length).le lim /\ ∀ (n : Int), n ∈ ns_1 -> Q7 <= n /\ n <= 9223372036854775807) /\ nflB (AV.tup []) = true /\ (nflL [AV.ptr 0 0 0 0, AV.own 2 0 (List.length
 (l_3 ++ nums ns_1))] = true /\ True /\ (∀ (i : Nat), i < List.length (l_3 ++ nums ns_1) -> flatB (byteF (bs (l_3 ++ nums ns_1)) i) = true) /\ True) /\ ∃ (x : Bs), (Q1 /\ Q1 /\ True) /\ ((71 = 71 /\ Q1 /\ (True /\ 0 = 0
 /\ List.length (l_3 ++ nums ns_1) = List.length (l ++ x)) /\ True) /\ True /\ (1 = 1 /\ 5 = 5 /\ (List.length (l ++ x)).le (List.length (l_3 ++ nums ns_1)) /\ ∀ (i : Nat), i < List.length (l ++ x) -> AV.pl (Value.int k8Q
 (↑ ((l_3 ++ nums ns_1).getD i (0 : UInt8)).toNat : Int)) = AV.pl (Value.int k8Q (↑ ((l ++ x).getD i (0 : UInt8)).toNat : Int))) /\ Q0 /\ True) /\ inv7 x) /\ (clsK e.kind = 2 -> Q16 /\ True /\ True /\ Q3 /\ ∃ (l_2 : Bs),
 ∃ (ns : List Int), (71 = 71 /\ IsBytes (1 : Nat) (5 : Nat) Q17 Q17 Q18 l_2 /\ IsInts Q15 ns /\ (l_2.length + 22 * ns.length).le lim /\ ∀ (n : Int), n ∈ ns -> Q7 <= n /\ n <= 9223372036854775807) /\ nflB (AV.tup []) =
 true /\ (nflL [AV.ptr 0 0 0 0, AV.own 2 0 (List.length (l_2 ++ nums ns))] = true /\ True /\ (∀ (i : Nat), i < List.length (l_2 ++ nums ns) -> flatB (byteF (bs (l_2 ++ nums ns)) i) = true) /\ True) /\ ∃ (x : Bs), (Q1 /\
 Q1 /\ True) /\ ((71 = 71 /\ Q1 /\ (True /\ 0 = 0 /\ List.length (l_2 ++ nums ns) = List.length (l ++ x)) /\ True) /\ True /\ (1 = 1 /\ 5 = 5 /\ (List.length (l ++ x)).le (List.length (l_2 ++ nums ns)) /\ ∀ (i : Nat), i <
 List.length (l ++ x) -> AV.pl (Value.int k8Q (↑ ((l_2 ++ nums ns).getD i (0 : UInt8)).toNat : Int)) = AV.pl (Value.int k8Q (↑ ((l ++ x).getD i (0 : UInt8)).toNat : Int))) /\ Q0 /\ True) /\ inv7 x) /\ (clsK e.kind = 3 ->
 Q14 /\ True /\ True /\ Q3 /\ ∃ (l_2 : Bs), ∃ (ns : List Int), let Q20 := (List.length (l_2 ++ nums ns)); (71 = 71 /\ IsBytes (1 : Nat) (5 : Nat) Q17 Q17 Q18 l_2 /\ IsInts Q6 ns /\ (l_2.length + 22 * ns.length).le lim /\
 ∀ (n : Int), n ∈ ns -> Q7 <= n /\ n <= 9223372036854775807) /\ nflB (AV.tup []) = true /\ (nflL [AV.ptr 0 0 0 0, AV.own 2 0 Q20] = true /\ True /\ (∀ (i : Nat), i < List.length (l_2 ++ nums ns) -> flatB (byteF (bs (l_2
 ++ nums ns)) i) = true) /\ True) /\ Q8 /\ True /\ True /\ Q3 /\ ∃ (l_3 : Bs), ∃ (ns_1 : List Int), (71 = 71 /\ IsBytes (1 : Nat) (5 : Nat) Q20 Q20 (byteF (bs (l_2 ++ nums ns))) l_3 /\ IsInts (AV.rows 1 1 λ (i : Nat) =>
 rowOf [((0 : Nat), nm e.to)] ((0 : Nat) + i)) ns_1 /\ (l_3.length + 22 * ns_1.length).le lim /\ ∀ (n : Int), n ∈ ns_1 -> Q7 <= n /\ n <= 9223372036854775807) /\ nflB (AV.tup []) = true /\ (nflL [AV.ptr 0 0 0 0, AV.own 2
 0 (List.length (l_3 ++ nums ns_1))] = true /\ True /\ (∀ (i : Nat), i < List.length (l_3 ++ nums ns_1) -> flatB (byteF (bs (l_3 ++ nums ns_1)) i) = true) /\ True) /\ ∃ (x : Bs), (Q1 /\ Q1 /\ True) /\ ((71 = 71 /\ Q1 /\
 (True /\ 0 = 0 /\ List.length (l_3 ++ nums ns_1) = List.length (l ++ x)) /\ True) /\ True /\ (1 = 1 /\ 5 = 5 /\ (List.length (l ++ x)).le (List.length (l_3 ++ nums ns_1)) /\ ∀ (i : Nat), i < List.length (l ++ x) -> AV.pl
 (Value.int k8Q (↑ ((l_3 ++ nums ns_1).getD i (0 : UInt8)).toNat : Int)) = AV.pl (Value.int k8Q (↑ ((l ++ x).getD i (0 : UInt8)).toNat : Int))) /\ Q0 /\ True) /\ inv7 x) /\ (clsK e.kind = 4 -> Q16 /\ True /\ True /\ Q3 /\
 ∃ (l_2 : Bs), ∃ (ns : List Int), (71 = 71 /\ IsBytes (1 : Nat) (5 : Nat) Q17 Q17 Q18 l_2 /\ IsInts Q6 ns /\ (l_2.length + 22 * ns.length).le lim /\ ∀ (n : Int), n ∈ ns -> Q7 <= n /\ n <= 9223372036854775807) /\ nflB
 (AV.tup []) = true /\ (nflL [AV.ptr 0 0 0 0, AV.own 2 0 (List.length (l_2 ++ nums ns))] = true /\ True /\ (∀ (i : Nat), i < List.length (l_2 ++ nums ns) -> flatB (byteF (bs (l_2 ++ nums ns)) i) = true) /\ True) /\ ∃ (x :
 Bs), (Q1 /\ Q1 /\ True) /\ ((71 = 71 /\ Q1 /\ (True /\ 0 = 0 /\ List.length (l_2 ++ nums ns) = List.length (l ++ x)) /\ True) /\ True /\ (1 = 1 /\ 5 = 5 /\ (List.length (l ++ x)).le (List.length (l_2 ++ nums ns)) /\ ∀ (i
 : Nat), i < List.length (l ++ x) -> AV.pl (Value.int k8Q (↑ ((l_2 ++ nums ns).getD i (0 : UInt8)).toNat : Int)) = AV.pl (Value.int k8Q (↑ ((l ++ x).getD i (0 : UInt8)).toNat : Int))) /\ Q0 /\ True) /\ inv7 x) /\ (clsK
 e.kind = 5 -> Q14 /\ True /\ True /\ Q3 /\ ∃ (l_2 : Bs), ∃ (ns : List Int), let Q21 := (List.length (l_2 ++ nums ns)); (71 = 71 /\ IsBytes (1 : Nat) (5 : Nat) Q17 Q17 Q18 l_2 /\ IsInts Q6 ns /\ (l_2.length + 22 *
 ns.length).le lim /\ ∀ (n : Int), n ∈ ns -> Q7 <= n /\ n <= 9223372036854775807) /\ nflB (AV.tup []) = true /\ (nflL [AV.ptr 0 0 0 0, AV.own 2 0 Q21] = true /\ True /\ (∀ (i : Nat), i < List.length (l_2 ++ nums ns) ->
 flatB (byteF (bs (l_2 ++ nums ns)) i) = true) /\ True) /\ Q8 /\ True /\ True /\ Q3 /\ ∃ (l_3 : Bs), ∃ (ns_1 : List Int), (71 = 71 /\ IsBytes (1 : Nat) (5 : Nat) Q21 Q21 (byteF (bs (l_2 ++ nums ns))) l_3 /\ IsInts
 (AV.rows 1 1 λ (i : Nat) => rowOf [((0 : Nat), nm e.ck)] ((0 : Nat) + i)) ns_1 /\ (l_3.length + 22 * ns_1.length).le lim /\ ∀ (n : Int), n ∈ ns_1 -> Q7 <= n /\ n <= 9223372036854775807) /\ nflB (AV.tup []) = true /\
 (nflL [AV.ptr 0 0 0 0, AV.own 2 0 (List.length (l_3 ++ nums ns_1))] = true /\ True /\ (∀ (i : Nat), i < List.length (l_3 ++ nums ns_1) -> flatB (byteF (bs (l_3 ++ nums ns_1)) i) = true) /\ True) /\ ∃ (x : Bs), (Q1 /\ Q1
 /\ True) /\ ((71 = 71 /\ Q1 /\ (True /\ 0 = 0 /\ List.length (l_3 ++ nums ns_1) = List.length (l ++ x)) /\ True) /\ True /\ (1 = 1 /\ 5 = 5 /\ (List.length (l ++ x)).le (List.length (l_3 ++ nums ns_1)) /\ ∀ (i : Nat), i
 < List.length (l ++ x) -> AV.pl (Value.int k8Q (↑ ((l_3 ++ nums ns_1).getD i (0 : UInt8)).toNat : Int)) = AV.pl (Value.int k8Q (↑ ((l ++ x).getD i (0 : UInt8)).toNat : Int))) /\ Q0 /\ True) /\ inv7 x) /\ (clsK e.kind = 0
 -> ∃ (x : Bs), (Q1 /\ Q1 /\ True) /\ ((71 = 71 /\ Q1 /\ (True /\ 0 = 0 /\ List.length (l_1 ++ Q2) = List.length (l ++ x)) /\ True) /\ True /\ (1 = 1 /\ 5 = 5 /\ (List.length (l ++ x)).le Q17 /\ ∀ (i : Nat), i <
 List.length (l ++ x) -> AV.pl (Value.int k8Q (↑ ((l_1 ++ Q2).getD i (0 : UInt8)).toNat : Int)) = AV.pl (Value.int k8Q (↑ ((l ++ x).getD i (0 : UInt8)).toNat : Int))) /\ Q0 /\ True) /\ inv7 x)) /\ ∀ (x : Bs), inv7 x ->
 ((stampedK e.kind = true -> True /\ Q3 /\ ∃ (l_2 : Bs), ∃ (ns : List Int), let Q22 := (List.length (l_2 ++ nums ns)); (71 = 71 /\ IsBytes (1 : Nat) (5 : Nat) (List.length (l ++ x)) (List.length (l ++ x)) (byteF (bs (l ++
 x))) l_2 /\ IsInts (AV.rows 1 1 λ (i : Nat) => rowOf [((0 : Nat), nm (k64Q.wrap e.author))] ((0 : Nat) + i)) ns /\ (l_2.length + 22 * ns.length).le lim /\ ∀ (n : Int), n ∈ ns -> Q7 <= n /\ n <= 9223372036854775807) /\
 nflB (AV.tup []) = true /\ (nflL [AV.ptr 0 0 0 0, AV.own 2 0 Q22] = true /\ True /\ (∀ (i : Nat), i < List.length (l_2 ++ nums ns) -> flatB (byteF (bs (l_2 ++ nums ns)) i) = true) /\ True) /\ True /\ (True /\ ((0 : Nat)
 + 2).le (2 : Nat) /\ True) /\ ∃ (l_3 : Bs), ∃ (ls : List Bs), (71 = 71 /\ IsBytes (1 : Nat) (5 : Nat) Q22 Q22 (byteF (bs (l_2 ++ nums ns))) l_3 /\ IsTexts (AV.rows 1 2 λ (i : Nat) => rowOf [((0 : Nat), sl e.branch),
 ((1 : Nat), sl e.note)] ((0 : Nat) + i)) ls /\ (l_3.length + txtLen ls).le lim) /\ nflB (AV.tup []) = true /\ (nflL [AV.ptr 0 0 0 0, AV.own 2 0 (List.length (l_3 ++ txts ls))] = true /\ True /\ (∀ (i : Nat), i <
 List.length (l_3 ++ txts ls) -> flatB (byteF (bs (l_3 ++ txts ls)) i) = true) /\ True) /\ ∃ (x : Bs), (Q1 /\ Q1 /\ True) /\ ((71 = 71 /\ Q1 /\ (True /\ 0 = 0 /\ List.length (l_3 ++ txts ls) = List.length (l ++ x)) /\
 True) /\ True /\ (1 = 1 /\ 5 = 5 /\ (List.length (l ++ x)).le (List.length (l_3 ++ txts ls)) /\ ∀ (i : Nat), i < List.length (l ++ x) -> AV.pl (Value.int k8Q (↑ ((l_3 ++ txts ls).getD i (0 : UInt8)).toNat : Int)) = AV.pl
 (Value.int k8Q (↑ ((l ++ x).getD i (0 : UInt8)).toNat : Int))) /\ Q0 /\ True) /\ inv10 x) /\ (stampedK e.kind = false -> ∃ (x_1 : Bs), (Q1 /\ Q1 /\ True) /\ ((71 = 71 /\ Q1 /\ (True /\ 0 = 0 /\ List.length (l ++ x) =
 List.length (l ++ x_1)) /\ True) /\ True /\ (1 = 1 /\ 5 = 5 /\ (List.length (l ++ x_1)).le (List.length (l ++ x)) /\ ∀ (i : Nat), i < List.length (l ++ x_1) -> AV.pl (Value.int k8Q (↑ ((l ++ x).getD i (0 : UInt8)).toNat
 : Int)) = AV.pl (Value.int k8Q (↑ ((l ++ x_1).getD i (0 : UInt8)).toNat : Int))) /\ Q0 /\ True) /\ inv10 x_1)) /\ ∀ (x : Bs), inv10 x -> (((e.kind == 8) = true -> Q13 /\ ∃ (l_2 : Bs), (71 = 71 /\ IsBytes (1 : Nat) (5 :
 Nat) (List.length (l ++ x)) (List.length (l ++ x)) (byteF (bs (l ++ x))) l_2 /\ (l_2.length + (ByteArray.mk #[32, 61]).size).le lim) /\ (∃ (x_1 : Nat), let Q23 := (l ++ (x ++ ([(32 : UInt8), (61 :
 UInt8)] ++ bitsL (List.take x_1 e.keep)))); (Q1 /\ Q1 /\ Q4 /\ Q10 = Q10 /\ (0 : Int) = (x_1 : Int) /\ True) /\ ((71 = 71 /\ Q1 /\ (True /\ 0 = 0 /\ List.length (l_2 ++ ([32, 61] : Bs)) = List.length Q23) /\ True) /\
 True /\ (1 = 1 /\ 5 = 5 /\ (List.length Q23).le (List.length (l_2 ++ ([32, 61] : Bs))) /\ ∀ (i : Nat), i < List.length Q23 -> AV.pl (Value.int k8Q (↑ ((l_2 ++ ([32, 61] : Bs)).getD i (0 : UInt8)).toNat : Int)) = AV.pl
 (Value.int k8Q (↑ (Q23.getD i (0 : UInt8)).toNat : Int))) /\ Q0 /\ True) /\ inv14 x x_1) /\ ∀ (x_1 : Nat), let Q24 := (l ++ (x ++ ([(32 : UInt8), (61 : UInt8)] ++ bitsL (List.take x_1 e.keep)))); inv14 x x_1 -> (decide
 ((x_1 : Int) < Q10) = true -> ((0 : Int) <= (x_1 : Int) /\ (x_1 : Int) + 1 <= Q10) /\ (e.keep.getD (x_1 : Int).toNat false = true -> Q13 /\ ∃ (l_3 : Bs), let Q25 := (l_3 ++ [UInt8.ofNat (k8Q.wrap ((48 : Int) +
 1)).toNat]); (71 = 71 /\ IsBytes (1 : Nat) (5 : Nat) (List.length Q24) (List.length Q24) (byteF (bs Q24)) l_3 /\ (l_3.length + 1).le lim /\ (0 : Int) <= k8Q.wrap ((48 : Int) + 1) /\ k8Q.wrap ((48 : Int) + 1) + 1 <= 256)
 /\ ∃ (y : Nat), let Q26 := (l ++ (x ++ ([(32 : UInt8), (61 : UInt8)] ++ bitsL (List.take y e.keep)))); (Q1 /\ Q1 /\ Q4 /\ Q10 = Q10 /\ k64Q.wrap ((x_1 : Int) + 1) = (y : Int) /\ True) /\ ((71 = 71 /\ Q1 /\ (True /\ 0 =
 0 /\ List.length Q25 = List.length Q26) /\ True) /\ True /\ (1 = 1 /\ 5 = 5 /\ (List.length Q26).le (List.length Q25) /\ ∀ (i : Nat), i < List.length Q26 -> AV.pl (Value.int k8Q (↑ (Q25.getD i (0 : UInt8)).toNat : Int))
 = AV.pl (Value.int k8Q (↑ (Q26.getD i (0 : UInt8)).toNat : Int))) /\ Q0 /\ True) /\ inv14 x y /\ (e.keep.length - y).succ.le (e.keep.length - x_1)) /\ (e.keep.getD (x_1 : Int).toNat false = false -> Q13 /\ ∃ (l_3 : Bs),
 let Q27 := (l_3 ++ [UInt8.ofNat (Int.toNat 48)]); (71 = 71 /\ IsBytes (1 : Nat) (5 : Nat) (List.length Q24) (List.length Q24) (byteF (bs Q24)) l_3 /\ (l_3.length + 1).le lim /\ (0 : Int) <= 48 /\ (48 : Int) + 1 <= 256)
 /\ ∃ (y : Nat), let Q28 := (l ++ (x ++ ([(32 : UInt8), (61 : UInt8)] ++ bitsL (List.take y e.keep)))); (Q1 /\ Q1 /\ Q4 /\ Q10 = Q10 /\ k64Q.wrap ((x_1 : Int) + 1) = (y : Int) /\ True) /\ ((71 = 71 /\ Q1 /\ (True /\ 0 =
 0 /\ List.length Q27 = List.length Q28) /\ True) /\ True /\ (1 = 1 /\ 5 = 5 /\ (List.length Q28).le (List.length Q27) /\ ∀ (i : Nat), i < List.length Q28 -> AV.pl (Value.int k8Q (↑ (Q27.getD i (0 : UInt8)).toNat : Int))
 = AV.pl (Value.int k8Q (↑ (Q28.getD i (0 : UInt8)).toNat : Int))) /\ Q0 /\ True) /\ inv14 x y /\ (e.keep.length - y).succ.le (e.keep.length - x_1))) /\ (decide ((x_1 : Int) < Q10) = false -> ∃ (x_2 : Bs), (Q1 /\ Q1 /\
 True) /\ ((71 = 71 /\ Q1 /\ (True /\ 0 = 0 /\ List.length Q24 = List.length (l ++ x_2)) /\ True) /\ True /\ (1 = 1 /\ 5 = 5 /\ (List.length (l ++ x_2)).le (List.length Q24) /\ ∀ (i : Nat), i < List.length (l ++ x_2) ->
 AV.pl (Value.int k8Q (↑ (Q24.getD i (0 : UInt8)).toNat : Int)) = AV.pl (Value.int k8Q (↑ ((l ++ x_2).getD i (0 : UInt8)).toNat : Int))) /\ Q0 /\ True) /\ inv24 x_2)) /\ ((e.kind == 8) = false -> ((e.kind == 14) = true ->
 True /\ Q3 /\ ∃ (l_2 : Bs), ∃ (ls : List Bs), let Q29 := (List.length (l_2 ++ txts ls)); (71 = 71 /\ IsBytes (1 : Nat) (5 : Nat) (List.length (l ++ x)) (List.length (l ++ x)) (byteF (bs (l ++ x))) l_2 /\ IsTexts (AV.rows
 1 1 λ (i : Nat) => rowOf [((0 : Nat), sl e.cbranch)] ((0 : Nat) + i)) ls /\ (l_2.length + txtLen ls).le lim) /\ nflB (AV.tup []) = true /\ (nflL [AV.ptr 0 0 0 0, AV.own 2 0 Q29] = true /\ True /\ (∀ (i : Nat), i <
 List.length (l_2 ++ txts ls) -> flatB (byteF (bs (l_2 ++ txts ls)) i) = true) /\ True) /\ (∀ i < 32, (0 : Int) <= e.new i /\ e.new i + 1 <= 256) /\ ((ByteArray.mk #[32]).size + (List.length (idL e.new))).le
 (9223372036854775807 : Nat) /\ Q13 /\ ∃ (l_3 : Bs), (71 = 71 /\ IsBytes (1 : Nat) (5 : Nat) Q29 Q29 (byteF (bs (l_2 ++ txts ls))) l_3 /\ (l_3.length + Q12.size).le lim) /\ ∃ (x : Bs), (Q1 /\ Q1 /\ True) /\ ((71 = 71 /\
 Q1 /\ (True /\ 0 = 0 /\ List.length (l_3 ++ Q12.data.toList) = List.length (l ++ x)) /\ True) /\ True /\ (1 = 1 /\ 5 = 5 /\ (List.length (l ++ x)).le (List.length (l_3 ++ Q12.data.toList)) /\ ∀ (i : Nat), i < List.length
 (l ++ x) -> AV.pl (Value.int k8Q (↑ ((l_3 ++ Q12.data.toList).getD i (0 : UInt8)).toNat : Int)) = AV.pl (Value.int k8Q (↑ ((l ++ x).getD i (0 : UInt8)).toNat : Int))) /\ Q0 /\ True) /\ inv24 x) /\ ((e.kind == 14) = false
 -> ∃ (x_1 : Bs), (Q1 /\ Q1 /\ True) /\ ((71 = 71 /\ Q1 /\ (True /\ 0 = 0 /\ List.length (l ++ x) = List.length (l ++ x_1)) /\ True) /\ True /\ (1 = 1 /\ 5 = 5 /\ (List.length (l ++ x_1)).le (List.length (l ++ x)) /\ ∀ (i
 : Nat), i < List.length (l ++ x_1) -> AV.pl (Value.int k8Q (↑ ((l ++ x).getD i (0 : UInt8)).toNat : Int)) = AV.pl (Value.int k8Q (↑ ((l ++ x_1).getD i (0 : UInt8)).toNat : Int))) /\ Q0 /\ True) /\ inv24 x_1))) /\ ∀ (x :
 Bs), inv24 x -> Q13 /\ ∃ (l_2 : Bs), ∃ (ns : List Int), (71 = 71 /\ IsBytes (1 : Nat) (5 : Nat) (List.length (l ++ x)) (List.length (l ++ x)) (byteF (bs (l ++ x))) l_2 /\ IsInts (AV.rows 1 e.conf.length (intF e.conf)) ns
 /\ (l_2.length + 22 * ns.length).le lim /\ ∀ (n : Int), n ∈ ns -> Q7 <= n /\ n <= 9223372036854775807) /\ ((∃ (x_1 : Nat), let Q30 := (l ++ (x ++ nums e.conf ++ List.flatMap (λ (r : Bs × Bs) => txts [r.1, r.2])
 (List.take x_1 e.map))); (Q1 /\ Q1 /\ Q9 /\ (↑e.map.length : Int) = (↑e.map.length : Int) /\ (0 : Int) = (x_1 : Int) /\ True) /\ ((71 = 71 /\ Q1 /\ (True /\ 0 = 0 /\ List.length (l_2 ++ nums ns) = List.length Q30) /\
 True) /\ True /\ (1 = 1 /\ 5 = 5 /\ (List.length Q30).le (List.length (l_2 ++ nums ns)) /\ ∀ (i : Nat), i < List.length Q30 -> AV.pl (Value.int k8Q (↑ ((l_2 ++ nums ns).getD i (0 : UInt8)).toNat : Int)) = AV.pl
 (Value.int k8Q (↑ (Q30.getD i (0 : UInt8)).toNat : Int))) /\ Q0 /\ True) /\ inv26 x x_1) /\ ∀ (x_1 : Nat), let Q31 := (l ++ (x ++ nums e.conf ++ List.flatMap (λ (r : Bs × Bs) => txts [r.1, r.2]) (List.take x_1
 e.map))); inv26 x x_1 -> (decide ((x_1 : Int) < (↑e.map.length : Int)) = true -> ((0 : Int) <= (x_1 : Int) /\ (x_1 : Int) + 1 <= (↑e.map.length : Int)) /\ True /\ True /\ True /\ (True /\ ((0 : Nat) + 2).le (2 : Nat)
 /\ True) /\ ∃ (l_3 : Bs), ∃ (ls : List Bs), (71 = 71 /\ IsBytes (1 : Nat) (5 : Nat) (List.length Q31) (List.length Q31) (byteF (bs Q31)) l_3 /\ IsTexts (AV.rows 1 2 λ (i : Nat) => rowOf [((0 : Nat), sl (e.map.getD
 (x_1 : Int).toNat ([], [])).1), ((1 : Nat), sl (e.map.getD (x_1 : Int).toNat ([], [])).2)] ((0 : Nat) + i)) ls /\ (l_3.length + txtLen ls).le lim) /\ nflB (AV.tup []) = true /\ (nflL [AV.ptr 0 0 0 0, AV.own 2 0
 (List.length (l_3 ++ txts ls))] = true /\ True /\ (∀ (i : Nat), i < List.length (l_3 ++ txts ls) -> flatB (byteF (bs (l_3 ++ txts ls)) i) = true) /\ True) /\ ∃ (y : Nat), let Q32 := (l ++ (x ++ nums e.conf ++
 List.flatMap (λ (r : Bs × Bs) => txts [r.1, r.2]) (List.take y e.map))); (Q1 /\ Q1 /\ Q9 /\ (↑e.map.length : Int) = (↑e.map.length : Int) /\ k64Q.wrap ((x_1 : Int) + 1) = (y : Int) /\ True) /\ ((71 = 71 /\ Q1 /\
 (True /\ 0 = 0 /\ List.length (l_3 ++ txts ls) = List.length Q32) /\ True) /\ True /\ (1 = 1 /\ 5 = 5 /\ (List.length Q32).le (List.length (l_3 ++ txts ls)) /\ ∀ (i : Nat), i < List.length Q32 -> AV.pl (Value.int k8Q (↑
 ((l_3 ++ txts ls).getD i (0 : UInt8)).toNat : Int)) = AV.pl (Value.int k8Q (↑ (Q32.getD i (0 : UInt8)).toNat : Int))) /\ Q0 /\ True) /\ inv26 x y /\ (e.map.length - y).succ.le (e.map.length - x_1)) /\ (decide ((↑x_1 :
 Int) < (↑e.map.length : Int)) = false -> ∃ (x_2 : Bs), (Q1 /\ Q1 /\ True) /\ ((71 = 71 /\ Q1 /\ (True /\ 0 = 0 /\ List.length Q31 = List.length (l ++ x_2)) /\ True) /\ True /\ (1 = 1 /\ 5 = 5 /\ (List.length (l ++
 x_2)).le (List.length Q31) /\ ∀ (i : Nat), i < List.length (l ++ x_2) -> AV.pl (Value.int k8Q (↑ (Q31.getD i (0 : UInt8)).toNat : Int)) = AV.pl (Value.int k8Q (↑ ((l ++ x_2).getD i (0 : UInt8)).toNat : Int))) /\ Q0 /\
 True) /\ inv30 x_2)) /\ ∀ (x : Bs), inv30 x -> (∃ (x_1 : Nat), let Q33 := (l ++ (x ++ List.flatMap chgL (List.take x_1 e.edit))); (Q1 /\ Q1 /\ Q5 /\ Q11 = Q11 /\ (0 : Int) = (x_1 : Int) /\ True) /\ ((71 = 71 /\ Q1 /\
 (True /\ 0 = 0 /\ List.length (l ++ x) = List.length Q33) /\ True) /\ True /\ (1 = 1 /\ 5 = 5 /\ (List.length Q33).le (List.length (l ++ x)) /\ ∀ (i : Nat), i < List.length Q33 -> AV.pl (Value.int k8Q (↑ ((l ++ x).getD i
 (0 : UInt8)).toNat : Int)) = AV.pl (Value.int k8Q (↑ (Q33.getD i (0 : UInt8)).toNat : Int))) /\ Q0 /\ True) /\ inv31 x x_1) /\ ∀ (x_1 : Nat), let Q35 := (e.edit.getD (x_1 : Int).toNat ([], false, [])); let Q34 := (l ++
 (x ++ List.flatMap chgL (List.take x_1 e.edit))); inv31 x x_1 -> (decide ((x_1 : Int) < Q11) = true -> ((0 : Int) <= (x_1 : Int) /\ (x_1 : Int) + 1 <= Q11) /\ True /\ True /\ True /\ Q3 /\ ∃ (l_3 : Bs), ∃ (ls : List
 Bs), let Q36 := (List.length (l_3 ++ txts ls)); (71 = 71 /\ IsBytes (1 : Nat) (5 : Nat) (List.length Q34) (List.length Q34) (byteF (bs Q34)) l_3 /\ IsTexts (AV.rows 1 1 λ (i : Nat) => rowOf [((0 : Nat), sl Q35.1)] ((0
 : Nat) + i)) ls /\ (l_3.length + txtLen ls).le lim) /\ nflB (AV.tup []) = true /\ (nflL [AV.ptr 0 0 0 0, AV.own 2 0 Q36] = true /\ True /\ (∀ (i : Nat), i < List.length (l_3 ++ txts ls) -> flatB (byteF (bs (l_3 ++ txts
 ls)) i) = true) /\ True) /\ (Q35.2.1 = true -> True /\ Q3 /\ ∃ (l_4 : Bs), ∃ (ls_1 : List Bs), (71 = 71 /\ IsBytes (1 : Nat) (5 : Nat) Q36 Q36 (byteF (bs (l_3 ++ txts ls))) l_4 /\ IsTexts (AV.rows 1 1 λ (i : Nat) =>
 rowOf [((0 : Nat), sl Q35.2.2)] ((0 : Nat) + i)) ls_1 /\ (l_4.length + txtLen ls_1).le lim) /\ nflB (AV.tup []) = true /\ (nflL [AV.ptr 0 0 0 0, AV.own 2 0 (List.length (l_4 ++ txts ls_1))] = true /\ True /\ (∀ (i :
 Nat), i < List.length (l_4 ++ txts ls_1) -> flatB (byteF (bs (l_4 ++ txts ls_1)) i) = true) /\ True) /\ ∃ (y : Nat), let Q37 := (l ++ (x ++ List.flatMap chgL (List.take y e.edit))); (Q1 /\ Q1 /\ Q5 /\ Q11 = Q11 /\
 k64Q.wrap ((x_1 : Int) + 1) = (y : Int) /\ True) /\ ((71 = 71 /\ Q1 /\ (True /\ 0 = 0 /\ List.length (l_4 ++ txts ls_1) = List.length Q37) /\ True) /\ True /\ (1 = 1 /\ 5 = 5 /\ (List.length Q37).le (List.length (l_4
 ++ txts ls_1)) /\ ∀ (i : Nat), i < List.length Q37 -> AV.pl (Value.int k8Q (↑ ((l_4 ++ txts ls_1).getD i (0 : UInt8)).toNat : Int)) = AV.pl (Value.int k8Q (↑ (Q37.getD i (0 : UInt8)).toNat : Int))) /\ Q0 /\ True) /\
 inv31 x y /\ (e.edit.length - y).succ.le (e.edit.length - x_1)) /\ (Q35.2.1 = false -> Q13 /\ ∃ (l_4 : Bs), (71 = 71 /\ IsBytes (1 : Nat) (5 : Nat) Q36 Q36 (byteF (bs (l_3 ++ txts ls))) l_4 /\ (l_4.length + (ByteArray.mk
 #[(32 : UInt8), (45 : UInt8)]).size).le lim) /\ ∃ (y : Nat), let Q38 := (l ++ (x ++ List.flatMap chgL (List.take y e.edit))); (Q1 /\ Q1 /\ Q5 /\ Q11 = Q11 /\ k64Q.wrap ((x_1 : Int) + 1) = (y : Int) /\ True) /\ ((71 =
 71 /\ Q1 /\ (True /\ 0 = 0 /\ List.length (l_4 ++ ([32, 45] : Bs)) = List.length Q38) /\ True) /\ True /\ (1 = 1 /\ 5 = 5 /\ (List.length Q38).le (List.length (l_4 ++ ([32, 45] : Bs))) /\ ∀ (i : Nat), i < List.length Q38
 -> AV.pl (Value.int k8Q (↑ ((l_4 ++ ([32, 45] : Bs)).getD i (0 : UInt8)).toNat : Int)) = AV.pl (Value.int k8Q (↑ (Q38.getD i (0 : UInt8)).toNat : Int))) /\ Q0 /\ True) /\ inv31 x y /\ (e.edit.length - y).succ.le
 (e.edit.length - x_1))) /\ (decide ((x_1 : Int) < Q11) = false -> Q13 /\ ∃ (l_3 : Bs), let Q39 := (l_3 ++ [UInt8.ofNat (Int.toNat 10)]); (71 = 71 /\ IsBytes (1 : Nat) (5 : Nat) (List.length Q34) (List.length Q34) (byteF
 (bs Q34)) l_3 /\ (l_3.length + 1).le lim /\ (0 : Int) <= 10 /\ (10 : Int) + 1 <= 256) /\ True /\ ∃ (x : Unit), (True /\ True) /\ ((71 = 71 /\ Q1 /\ (True /\ 0 = 0 /\ List.length Q39 = List.length (l ++ evL e)) /\ True)
 /\ True /\ (1 = 1 /\ 5 = 5 /\ (List.length (l ++ evL e)).le (List.length Q39) /\ ∀ (i : Nat), i < List.length (l ++ evL e) -> AV.pl (Value.int k8Q (↑ (Q39.getD i (0 : UInt8)).toNat : Int)) = AV.pl (Value.int k8Q (↑ ((l
 ++ evL e).getD i (0 : UInt8)).toNat : Int))) /\ True) /\ R (AV.tup []) [LObj.box 71 [AV.ptr 0 0 0 0, AV.own 2 0 (List.length (l ++ evL e))], LObj.dead, LObj.row 1 5 (List.length (l ++ evL e)) (byteF (bs (l ++ evL e)))]))
 := by kernel_rfl
end Go.Proofs.Sz

namespace Go.Proofs.Sz
open Go Go.Am Go.SP
theorem isEv_ids {x : AV} {e : Ev} (h : IsEv x e) (ks : Names) : leA ks x e.av := by
 cases x <;> simp only [IsEv, Ev.av, leA] at h ⊢
 rename_i cs
 match cs with
 | [a0, a1, a2, a3, a4, a5, a6, a7, a8, a9, a10, a11, a12, a13, a14, a15, a16, a17] =>
  have key : ∀ {k k' : Names} {a : AV} {v : Value}, leA k a (.pl v) -> leA k' a (.pl v) := fun {k k' a v} h => by cases a <;> simp only [leA] at h ⊢; exact h
  have keyr : ∀ {k k' : Names} {a : AV} {x n : Nat} {f : Nat -> AV}, leA k a (.rows x n f) -> leA k' a (.rows x n f) := fun {k k' a x n f} h => by cases a <;> simp only [leA] at h ⊢ <;> exact h
  have keyi : ∀ {k k' : Names} {a : AV} {x : IntKind} {n : Nat} {f : Nat -> Int}, leA k a (.iarr x n f) -> leA k' a (.iarr x n f) := fun {k k' a x n f} h => by cases a <;> simp only [leA] at h ⊢; exact h
  obtain ⟨h0, h1, h2, h3, h4, h5, h6, h7, h8, h9, h10, h11, h12, h13, h14, h15, h16, h17, _⟩ := h
  exact ⟨key h0, key h1, key h2, key h3, keyr h4, keyr h5, key h6, keyr h7, keyr h8, key h9, key h10, key h11, key h12, key h13, key h14, keyi h15, keyi h16, keyr h17, trivial⟩
 | [] | [_] | [_, _] | [_, _, _] | [_, _, _, _] | [_, _, _, _, _] | [_, _, _, _, _, _] | [_, _, _, _, _, _, _] | [_, _, _, _, _, _, _, _] | [_, _, _, _, _, _, _, _, _] | [_, _, _, _, _, _, _, _, _, _] | [_, _, _, _, _, _, _, _, _, _, _] | [_, _, _, _, _, _, _, _, _, _, _, _] | [_, _, _, _, _, _, _, _, _, _, _, _, _] | [_, _, _, _, _, _, _, _, _, _, _, _, _, _] | [_, _, _, _, _, _, _, _, _, _, _, _, _, _, _] | [_, _, _, _, _, _, _, _, _, _, _, _, _, _, _, _] | [_, _, _, _, _, _, _, _, _, _, _, _, _, _, _, _, _] | _ :: _ :: _ :: _ :: _ :: _ :: _ :: _ :: _ :: _ :: _ :: _ :: _ :: _ :: _ :: _ :: _ :: _ :: _ :: _ => simp [Ev.cells, leL] at h
theorem ints1 (a : Int) : IsInts (.rows 1 1 λ i => rowOf [(0, nm a)] i) [a] := ⟨rfl, rfl, λ i hi => by
 have : i = 0 := by simpa using hi
 subst this
 rfl⟩
theorem in1 {a : Int} (h : Int64 a) : ∀ n, n ∈ [a] -> -9223372036854775808 <= n /\ n <= 9223372036854775807 := λ n hn => by
 have : n = a := by simpa using hn
 rw [this]; exact h
theorem texts1 (a : Bs) : IsTexts (.rows 1 1 λ i => rowOf [(0, sl a)] i) [a] := ⟨rfl, rfl, λ i hi => by
 have : i = 0 := by simpa using hi
 subst this
 rfl⟩
theorem texts2 (a b : Bs) : IsTexts (.rows 1 2 λ i => rowOf [(0, sl a), (1, sl b)] i) [a, b] := ⟨rfl, rfl, λ i hi => by
 have : i = 0 ∨ i = 1 := by simp at hi; omega
 rcases this with rfl | rfl <;> rfl⟩
theorem word_len (i : Nat) : (wordsL.getD i []).length <= 7 := by
 rcases Nat.lt_or_ge i 16 with h | h
 ·have : ∀ j : Fin 16, (wordsL.getD j.val []).length <= 7 := by decide
  exact this ⟨i, h⟩
 ·rw [List.getD_eq_getElem?_getD, List.getElem?_eq_none (by simpa [wordsL] using h)]
  simp
def evL0 (e : Ev) : Bs := (wordsL.getD e.kind.toNat []) ++ nums (fieldsV e)
structure Fit (v : Ev) : Prop where
 k1 : 1 <= v.kind
 k2 : v.kind <= 15
 keep : v.keep.length <= 2048
 conf : v.conf.length <= 40
 map : v.map.length <= 40
 edit : v.edit.length <= 40
 branch : v.branch.length <= 1024
 note : v.note.length <= 1024
 cbranch : v.cbranch.length <= 1024
 maps : ∀ r ∈ v.map, r.1.length <= 1024 /\ r.2.length <= 1024
 edits : ∀ r ∈ v.edit, r.1.length <= 1024 /\ r.2.2.length <= 1024
theorem long_no {s : Bs} (h : longB s = false) : s.length <= 1024 := by
 unfold longB at h
 simpa using h
theorem fit_of {v : Ev} (h : wrongE v = false) : Fit v := by
 rw [wrongE_eq] at h
 simp only [Bool.or_eq_false_iff, decide_eq_false_iff_not, List.any_eq_false] at h
 obtain ⟨⟨h1, h2⟩, _, ⟨h3, ⟨h4, h5⟩, h6⟩, ⟨h7, h8, h9⟩, h10, h11⟩ := h
 refine ⟨by omega, by omega, by omega, by omega, by omega, by omega, long_no h7, long_no h8, long_no h9, λ r hr => ?_, λ r hr => ?_⟩
 ·have := h10 r hr
  simp only [mapLong, Bool.not_eq_true, Bool.or_eq_false_iff] at this
  exact ⟨long_no this.1, long_no this.2⟩
 ·have := h11 r hr
  simp only [editLong, Bool.not_eq_true, Bool.or_eq_false_iff] at this
  exact ⟨long_no this.1.1, long_no this.1.2⟩
theorem txt_len (s : Bs) : (txt s).length <= 4 * s.length + 3 := by
 have := quote_len s
 simp [txt]
 omega
theorem txts1 (a : Bs) : txts [a] = txt a := by simp [txts]
theorem txts2 (a b : Bs) : txts [a, b] = txt a ++ txt b := by simp [txts]
theorem rows_len {α : Type} (l : List α) (f : α -> Bs) (n : Nat) (h : ∀ r ∈ l, (f r).length <= n) : (l.flatMap f).length <= n * l.length := by
 induction l with
 | nil => simp
 | cons a l ih =>
  have h1 := h a List.mem_cons_self
  have h2 := ih (λ r hr => h r (List.mem_cons_of_mem _ hr))
  simp only [List.flatMap_cons, List.length_append, List.length_cons, Nat.mul_add] at h2 ⊢
  omega
theorem num_len {n : Int} (h : Int64 n) : (numL n).length <= 22 := by
 have := itoa_len n h
 simp [numL]
 omega
theorem nums1 (a : Int) : nums [a] = numL a := by simp [nums]
theorem nums2 (a b : Int) : nums [a, b] = nums [a] ++ nums [b] := by simp [nums]
theorem fields_cls (e : Ev) : (clsK e.kind = 1 -> fieldsV e = [e.node, e.n]) /\ (clsK e.kind = 2 -> fieldsV e = [e.n]) /\ (clsK e.kind = 3 -> fieldsV e = [e.node, e.to]) /\ (clsK e.kind = 4 -> fieldsV e = [e.node]) /\ (clsK e.kind = 5 -> fieldsV e = [e.node, e.ck]) /\ (clsK e.kind = 0 -> fieldsV e = []) := by
 refine ⟨λ h => ?_, λ h => ?_, λ h => ?_, λ h => ?_, λ h => ?_, λ h => ?_⟩
 ·simp only [fieldsV, cls_1 h, cond_true]
 ·simp only [fieldsV, cls_2 h, cond_true, cond_false]
 ·simp only [fieldsV, cls_3 h, cond_true, cond_false]
 ·simp only [fieldsV, cls_4 h, cond_true, cond_false]
 ·simp only [fieldsV, (cls_5 h).1, (cls_5 h).2.1, (cls_5 h).2.2.1, (cls_5 h).2.2.2.1, (cls_5 h).2.2.2.2, cond_true, cond_false]
 ·simp only [fieldsV, (cls_0 h).1, (cls_0 h).2.1, (cls_0 h).2.2.1, (cls_0 h).2.2.2.1, (cls_0 h).2.2.2.2, cond_false]
theorem fields_ok {e : Ev} (h : EvOk e) : ∀ x ∈ fieldsV e, Int64 x := by
 obtain ⟨_, h1, h2, h3, _, h5, _⟩ := h
 unfold fieldsV
 cases kNN e.kind <;> cases kN e.kind <;> cases kNT e.kind <;> cases k1 e.kind <;> cases e.kind == 14 <;> simp [*]
theorem fields_len (e : Ev) : (fieldsV e).length <= 2 := by
 unfold fieldsV
 cases kNN e.kind <;> cases kN e.kind <;> cases kNT e.kind <;> cases k1 e.kind <;> cases e.kind == 14 <;> simp
theorem evL0_len {e : Ev} (h : EvOk e) : (evL0 e).length <= 60 := by
 have h1 := word_len e.kind.toNat
 have h2 := nums_len (fieldsV e) (fields_ok h)
 have h3 := fields_len e
 simp only [evL0, List.length_append]
 omega
theorem evL1_eq (e : Ev) : evL1 e = evL0 e ++ (bif stampedK e.kind then numL e.author ++ txts [e.branch, e.note] else []) := rfl
theorem auth64 {e : Ev} (h : EvOk e) : Int64 e.author := by
 obtain ⟨_, _, _, _, _, _, h, _⟩ := h
 exact ⟨by omega, by omega⟩
theorem evL1_len {e : Ev} (h : EvOk e) (hf : Fit e) : (evL1 e).length <= 9000 := by
 have h1 := evL0_len h
 have h2 := num_len (auth64 h)
 have h3 := txt_len e.branch
 have h4 := txt_len e.note
 have h5 := hf.branch
 have h6 := hf.note
 rw [evL1_eq, txts2]
 cases stampedK e.kind <;> simp <;> omega
theorem idL_len (f : Idv) : (idL f).length = 64 := idTk_len f 32
theorem evL2_len {e : Ev} (hf : Fit e) : (evL2 e).length <= 5000 := by
 have h3 := txt_len e.cbranch
 have h4 := hf.cbranch
 have h5 := hf.keep
 have h6 := idL_len e.new
 unfold evL2
 cases e.kind == 8 <;> cases e.kind == 14 <;> simp [bitsL] <;> omega
theorem map_len {e : Ev} (hf : Fit e) (i : Nat) : ((e.map.take i).flatMap λ r => txts [r.1, r.2]).length <= 400000 := by
 have h1 := rows_len (e.map.take i) (λ r => txts [r.1, r.2]) 8198 (λ r hr => by
  obtain ⟨h1, h2⟩ := hf.maps r (List.mem_of_mem_take hr)
  have h3 := txt_len r.1
  have h4 := txt_len r.2
  rw [txts2]
  simp
  omega)
 have h2 := hf.map
 have h3 : (e.map.take i).length <= 40 := by simp; omega
 omega
theorem chg_len {r : Bs × Bool × Bs} (h : r.1.length <= 1024 /\ r.2.2.length <= 1024) : (chgL r).length <= 8198 := by
 have h3 := txt_len r.1
 have h4 := txt_len r.2.2
 unfold chgL
 cases r.2.1 <;> simp <;> omega
theorem edit_len {e : Ev} (hf : Fit e) (i : Nat) : ((e.edit.take i).flatMap chgL).length <= 400000 := by
 have h1 := rows_len (e.edit.take i) chgL 8198 (λ r hr => chg_len (hf.edits r (List.mem_of_mem_take hr)))
 have h2 := hf.edit
 have h3 : (e.edit.take i).length <= 40 := by simp; omega
 omega
theorem flat_take {α : Type} (l : List α) (d : α) (f : α -> Bs) (i : Nat) (h : i < l.length) : (l.take (i + 1)).flatMap f = (l.take i).flatMap f ++ f (l.getD i d) := by
 rw [List.take_succ_eq_append_getElem h, List.flatMap_append]
 simp [List.getD_eq_getElem?_getD, h]
theorem XWEvent : EntOk Tryz.prog 21 (.hand tkW TWEvent) := by
 refine ⟨Am.enters_of Tryz.func21 (by kernel_rfl) (by kernel_rfl), λ H0 args R h => ?_⟩
 unfold TWEvent at h
 split at h
 ·rename_i t n k e m f x
  obtain ⟨l, v, ⟨rfl, ⟨rfl, rfl, rfl, rfl, hf⟩, hx, hok, hw, h1⟩, h⟩ := h
  refine SpecH.args 2 (args' := [.ptr 0 0 0 0, v.av]) ⟨⟨trivial, rfl, rfl, rfl⟩, isEv_ids hx _, trivial⟩ (SpecH.weak (Z := Unit) (X := λ _ => .tup []) (HH := λ _ => WR (l ++ evL v)) ?_)
  refine mkHo (vWEvent l v f (λ t => t = evL0 v) (λ t => t = evL1 v) (λ t => t = evL1 v ++ evL2 v) (λ t => t = evL1 v ++ evL2 v ++ nums v.conf ++ v.map.flatMap (λ r => txts [r.1, r.2])) (λ t i => v.kind = 8 /\ i <= v.keep.length) (λ t i => i <= v.map.length) (λ t i => i <= v.edit.length) R) (tb (ac XWords (ac XFields (ac XStamped (ac XWrS (ac XWrB (ac XNums (ac XTexts (ac XIdT az))))))))) Tryz.func21 (by kernel_rfl) ?_
  have hft := fit_of hw
  have hmx := maxLen_eq
  have hlm : lim = 140737488355328 := rfl
  have hk1 := hft.k1
  have hk2 := hft.k2
  have hwl := word_len v.kind.toNat
  have hL0 := evL0_len hok
  have hL1 := evL1_len hok hft
  have hL2 := evL2_len hft
  have z0 : Int.toNat 0 = 0 := rfl
  simp only [true_and, and_true, and_self, implies_true, forall_const, gEq_true, gEq_false, nonneg_iff, natle_iff, decide_eq_true_eq, decide_eq_false_iff_not, Int.toNat_natCast, cond_bt, cond_bf, Bool.cond_true, Bool.cond_false, Bool.not_true, Bool.not_false, reduceCtorEq, false_implies, implies_true, Bool.true_eq_false, Bool.false_eq_true, Bool.not_eq_true', Bool.not_eq_false', bs_size, bs_data, bs_toList, bs_extract, bs_append, bs_mk, byteF, w01, w12, Nat.zero_add]
  obtain ⟨c1, c2, c3, c4, c5, c0⟩ := fields_cls v
  have two : ∀ a b, fieldsV v = [a, b] -> evL0 v = wordsL.getD v.kind.toNat [] ++ nums [a] ++ nums [b] := λ a b e => by rw [evL0, e, nums2, List.append_assoc]
  have one : ∀ a, fieldsV v = [a] -> evL0 v = wordsL.getD v.kind.toNat [] ++ nums [a] := λ a e => by rw [evL0, e]
  have l22 : ∀ a, Int64 a -> (nums [a]).length <= 22 := λ a ha => by rw [nums1]; exact num_len ha
  obtain ⟨o1, o2, o3, o4, o5, o6, o7, o8⟩ := id hok
  refine ⟨⟨by omega, by omega⟩, by omega, l, ⟨⟨rfl, rfl, rfl, rfl, hf⟩, by omega⟩, ⟨λ hc => ⟨by omega, by omega, _, [v.node], ⟨isBytes_self _, ints1 _, by simp only [List.length_append, List.length_cons, List.length_nil]; omega, in1 o2⟩, rfl, ⟨rfl, λ _ _ => rfl⟩, by omega, by omega, _, [v.n], ⟨isBytes_self _, ints1 _, by have := l22 v.node o2; simp only [List.length_append, List.length_cons, List.length_nil]; omega, in1 o4⟩, rfl, ⟨rfl, λ _ _ => rfl⟩, evL0 v, rowLe (by rw [two _ _ (c1 hc)]; simp), rfl⟩, λ hc => ⟨by omega, by omega, _, [v.n], ⟨isBytes_self _, ints1 _, by simp only [List.length_append, List.length_cons, List.length_nil]; omega, in1 o4⟩, rfl, ⟨rfl, λ _ _ => rfl⟩, evL0 v, rowLe (by rw [one _ (c2 hc)]; simp), rfl⟩, λ hc => ⟨by omega, by omega, _, [v.node], ⟨isBytes_self _, ints1 _, by simp only [List.length_append, List.length_cons, List.length_nil]; omega, in1 o2⟩, rfl, ⟨rfl, λ _ _ => rfl⟩, by omega, by omega, _, [v.to], ⟨isBytes_self _, ints1 _, by have := l22 v.node o2; simp only [List.length_append, List.length_cons, List.length_nil]; omega, in1 o3⟩, rfl, ⟨rfl, λ _ _ => rfl⟩, evL0 v, rowLe (by rw [two _ _ (c3 hc)]; simp), rfl⟩, λ hc => ⟨by omega, by omega, _, [v.node], ⟨isBytes_self _, ints1 _, by simp only [List.length_append, List.length_cons, List.length_nil]; omega, in1 o2⟩, rfl, ⟨rfl, λ _ _ => rfl⟩, evL0 v, rowLe (by rw [one _ (c4 hc)]; simp), rfl⟩, λ hc => ⟨by omega, by omega, _, [v.node], ⟨isBytes_self _, ints1 _, by simp only [List.length_append, List.length_cons, List.length_nil]; omega, in1 o2⟩, rfl, ⟨rfl, λ _ _ => rfl⟩, by omega, by omega, _, [v.ck], ⟨isBytes_self _, ints1 _, by have := l22 v.node o2; simp only [List.length_append, List.length_cons, List.length_nil]; omega, in1 o6⟩, rfl, ⟨rfl, λ _ _ => rfl⟩, evL0 v, rowLe (by rw [two _ _ (c5 hc)]; simp), rfl⟩, λ hc => ⟨evL0 v, rowLe (by rw [evL0, c0 hc]; simp [nums]), rfl⟩⟩, ?_⟩
  rintro t rfl
  have hau : IntKind.i64.wrap v.author = v.author := wrap64 (by omega) (by omega)
  have ha := l22 v.author (auth64 hok)
  have hbr := hft.branch
  have hno := hft.note
  have hcb := hft.cbranch
  have hke := hft.keep
  have hco := hft.conf
  have hma := hft.map
  have hed := hft.edit
  have t1 : ∀ a : Bs, txtLen [a] = 4 * a.length + 3 := λ a => by simp [txtLen]
  have t2 : ∀ a b : Bs, txtLen [a, b] = 4 * a.length + 3 + (4 * b.length + 3) := λ a b => by simp [txtLen]
  have hcn : (nums v.conf).length <= 880 := Nat.le_trans (nums_len v.conf o5) (by omega)
  have hidl := idL_len v.new
  rw [hau]
  refine ⟨⟨λ hs => ⟨by omega, _, [v.author], ⟨isBytes_self _, ints1 _, by simp only [List.length_append, List.length_cons, List.length_nil]; omega, in1 (auth64 hok)⟩, rfl, ⟨rfl, λ _ _ => rfl⟩, by omega, _, [v.branch, v.note], ⟨isBytes_self _, texts2 _ _, by rw [t2]; simp only [List.length_append]; omega⟩, rfl, ⟨rfl, λ _ _ => rfl⟩, evL1 v, rowLe (by rw [evL1_eq, hs, nums1]; simp), rfl⟩, λ hs => ⟨evL1 v, rowLe (by rw [evL1_eq, hs]; simp), rfl⟩⟩, ?_⟩
  rintro t rfl
  have hbl : ∀ i, (bitsL (v.keep.take i)).length <= 2048 := λ i => by simp [bitsL]; omega
  have hbt : ∀ i, i < v.keep.length -> bitsL (v.keep.take (i + 1)) = bitsL (v.keep.take i) ++ [bitB (v.keep.getD i false)] := λ i hi => by
   rw [List.take_succ_eq_append_getElem hi, List.getD_eq_getElem?_getD, List.getElem?_eq_getElem hi]
   simp only [bitsL, List.map_append, List.map_cons, List.map_nil, Option.getD_some]
  have u49 : UInt8.ofNat (IntKind.u8.wrap (48 + 1)).toNat = 49 := by decide
  have u48 : UInt8.ofNat (Int.toNat 48) = 48 := by decide
  refine ⟨⟨λ k8 => ⟨_, ⟨isBytes_self _, by simp only [List.length_append, List.length_cons, List.length_nil]; omega⟩, ⟨0, rfl, rowLe (by simp [bitsL]), beq_iff_eq.1 k8, Nat.zero_le _⟩, λ i hi => ⟨λ hlt => ⟨⟨by omega, by omega⟩, λ hb => ⟨_, ⟨isBytes_self _, by have := hbl i; simp only [List.length_append, List.length_cons, List.length_nil]; omega, by decide, by decide⟩, i + 1, by rw [wrap64] <;> omega, rowLe (by rw [hbt i (by omega), hb, u49]; simp [bitB]), ⟨hi.1, by omega⟩, by omega⟩, λ hb => ⟨_, ⟨isBytes_self _, by have := hbl i; simp only [List.length_append, List.length_cons, List.length_nil]; omega, by decide, by decide⟩, i + 1, by rw [wrap64] <;> omega, rowLe (by rw [hbt i (by omega), hb, u48]; simp [bitB]), ⟨hi.1, by omega⟩, by omega⟩⟩, λ hge => ⟨evL1 v ++ evL2 v, rowLe (by rw [show i = v.keep.length by omega, List.take_length, evL2, k8, cond_true]), rfl⟩⟩⟩, λ k8 => ⟨λ k14 => ⟨by omega, _, [v.cbranch], ⟨isBytes_self _, texts1 _, by rw [t1]; simp only [List.length_append]; omega⟩, rfl, ⟨rfl, λ _ _ => rfl⟩, λ i hi => by have := o8 i hi; omega, by simp only [List.length_cons, List.length_nil]; omega, _, ⟨isBytes_self _, by have := txt_len v.cbranch; simp only [txts, List.flatMap_cons, List.flatMap_nil, List.length_append, List.length_cons, List.length_nil]; omega⟩, evL1 v ++ evL2 v, rowLe (by rw [evL2, k8, k14, cond_false, cond_true]; simp [txts]), rfl⟩, λ k14 => ⟨evL1 v ++ evL2 v, rowLe (by rw [evL2, k8, k14, cond_false, cond_false, List.append_nil]), rfl⟩⟩⟩, ?_⟩
  rintro t rfl
  have hml := map_len hft
  have hel := edit_len hft
  have hmt : v.map.flatMap (λ r => txts [r.1, r.2]) = (v.map.take v.map.length).flatMap (λ r => txts [r.1, r.2]) := by rw [List.take_length]
  have hmm := hml v.map.length
  rw [<- hmt] at hmm
  refine ⟨_, v.conf, ⟨isBytes_self _, ⟨rfl, rfl, λ _ _ => rfl⟩, by simp only [List.length_append]; omega, λ n hn => o5 n hn⟩, ⟨⟨0, rfl, rowLe (by simp), Nat.zero_le _⟩, λ i hi => ⟨λ hlt => ⟨⟨by omega, by omega⟩, by omega, _, [(v.map.getD i ([], [])).1, (v.map.getD i ([], [])).2], ⟨isBytes_self _, texts2 _ _, ?_⟩, rfl, ⟨rfl, λ _ _ => rfl⟩, i + 1, by rw [wrap64] <;> omega, rowLe (by rw [flat_take v.map ([], []) _ i (by omega)]; simp), by omega, by omega⟩, λ hge => ⟨_, rowLe (by rw [hmt, show i = v.map.length by omega]), rfl⟩⟩⟩, ?_⟩
  ·obtain ⟨g1, g2⟩ := hft.maps (v.map.getD i ([], [])) (by rw [List.getD_eq_getElem?_getD, List.getElem?_eq_getElem (by omega)]; exact List.getElem_mem _)
   have := hml i
   rw [t2]
   simp only [List.length_append]
   omega
  rintro t rfl
  have u10 : UInt8.ofNat (Int.toNat 10) = 10 := by decide
  refine ⟨⟨0, rfl, rowLe (by simp), Nat.zero_le _⟩, λ i hi => ⟨λ hlt => ?_, λ hge => ⟨_, ⟨isBytes_self _, ?_, by decide, by decide⟩, (), rowLe ?_, h⟩⟩⟩
  ·obtain ⟨g1, g2⟩ := hft.edits (v.edit.getD i ([], false, [])) (by rw [List.getD_eq_getElem?_getD, List.getElem?_eq_getElem (by omega)]; exact List.getElem_mem _)
   have := hel i
   have g3 := txt_len (v.edit.getD i ([], false, [])).1
   refine ⟨⟨by omega, by omega⟩, by omega, _, [(v.edit.getD i ([], false, [])).1], ⟨isBytes_self _, texts1 _, ?_⟩, rfl, ⟨rfl, λ _ _ => rfl⟩, λ hb => ⟨by omega, _, [(v.edit.getD i ([], false, [])).2.2], ⟨isBytes_self _, texts1 _, ?_⟩, rfl, ⟨rfl, λ _ _ => rfl⟩, i + 1, by rw [wrap64] <;> omega, rowLe ?_, by omega, by omega⟩, λ hb => ⟨_, ⟨isBytes_self _, ?_⟩, i + 1, by rw [wrap64] <;> omega, rowLe ?_, by omega, by omega⟩⟩
   ·rw [t1]
    simp only [List.length_append]
    omega
   ·rw [t1, txts1]
    simp only [List.length_append]
    omega
   ·rw [flat_take v.edit ([], false, []) chgL i (by omega), chgL, hb, cond_true]
    simp [txts]
   ·rw [txts1]
    simp only [List.length_append, List.length_cons, List.length_nil]
    omega
   ·rw [flat_take v.edit ([], false, []) chgL i (by omega), chgL, hb, cond_false]
    simp [txts]
  ·have := hel i
   simp only [List.length_append]
   omega
  ·rw [show i = v.edit.length by omega, List.take_length, u10, evL, evL3]
   simp
 ·exact h.elim
end Go.Proofs.Sz

namespace Go.Proofs.Sz
open Go Go.Am Go.SP
theorem ints3 (a b c : Int) : IsInts (.rows 1 3 λ i => rowOf [(0, nm a), (1, nm b), (2, nm c)] (0 + i)) [a, b, c] := ⟨rfl, rfl, λ i hi => by
 have : i = 0 ∨ i = 1 ∨ i = 2 := by simp at hi; omega
 rcases this with rfl | rfl | rfl <;> rfl⟩
theorem XPrint : EntOk Tryz.prog 8 (.lend TPrint) := by
 refine ⟨Am.enters_of Tryz.func8 (by kernel_rfl) (by kernel_rfl), λ args R h => ?_⟩
 unfold TPrint at h
 split at h
 ·rename_i a b c x
  obtain ⟨l, ⟨hx, ha, hb, hc, hev⟩, h⟩ := h
  refine Spec.argsD (args' := [.agg [nm a, nm b, nm c, evsAV l]]) ⟨.cons (.pl _) rfl (.cons (.pl _) rfl (.cons (.pl _) rfl (.cons (.of_leR hx) (evs_cw hx) .nil))), trivial⟩ ?_
  refine mkSo (vPrint a b c l (λ i => i <= l.length /\ checkE l = 0) R) (tb (ac XCheck (ac XWrS (ac XWrB (ac XNums (ac XWEvent (ac XBLen (ac XBStr az)))))))) Tryz.func8 (by kernel_rfl) ?_
  simp only [true_and, and_true, and_self, implies_true, forall_const, gEq_true, gEq_false, nonneg_iff, natle_iff, decide_eq_true_eq, decide_eq_false_iff_not, Int.toNat_natCast, cond_bt, cond_bf, Bool.cond_true, Bool.cond_false, Bool.not_true, Bool.not_false, reduceCtorEq, false_implies, implies_true, Bool.true_eq_false, Bool.false_eq_true, Bool.not_eq_true', Bool.not_eq_false', bs_size, bs_data, bs_toList, bs_extract, bs_append, bs_mk, byteF]
  have hmx := maxLen_eq
  have hlm : lim = 140737488355328 := rfl
  have u10 : UInt8.ofNat (Int.toNat 10) = 10 := by decide
  have hns : ∀ n ∈ [a, b, c], Int64 n := by simp [ha, hb, hc]
  have hnl := nums_len [a, b, c] hns
  simp only [List.length_cons, List.length_nil] at hnl
  refine ⟨l, isEvs_self l, λ q => ?_, λ q => ?_⟩
  ·have e : (checkE l == 0) = false := by simpa using q
   rw [printR, e, cond_false] at h
   exact h
  have q0 : checkE l = 0 := by simpa using q
  have hall : l.length <= 300 /\ ∀ v ∈ l, wrongE v = false := by
   unfold checkE at q0
   cases hc : decide (300 < l.length) || l.any wrongE with
   | true => rw [hc] at q0; cases q0
   | false =>
    rw [Bool.or_eq_false_iff] at hc
    refine ⟨by simpa using hc.1, λ v hv => ?_⟩
    have := hc.2
    rw [List.any_eq_false] at this
    simpa using this v hv
  have hfl : ∀ i, ((l.take i).flatMap evL).length <= 900000 * (l.take i).length := λ i => rows_len _ _ _ λ v hv => by
   have hv' := List.mem_of_mem_take hv
   have hf := fit_of (hall.2 v hv')
   have h1 := evL1_len (hev v hv') hf
   have h2 := evL2_len hf
   have h3 := map_len hf v.map.length
   have h4 := edit_len hf v.edit.length
   have h5 := nums_len v.conf (hev v hv').2.2.2.2.1
   have h6 := hf.conf
   rw [List.take_length] at h3 h4
   simp only [evL, evL3, List.length_append, List.length_cons, List.length_nil]
   omega
  have hpl : ∀ i, (printL ⟨a, b, c, l.take i⟩).length <= 270000100 := λ i => by
   have h1 := hfl i
   have h2 : (l.take i).length <= 300 := by simp; omega
   simp only [printL, worldL, List.length_append, List.length_cons, List.length_nil]
   omega
  have hwl : worldL = [119, 111, 114, 108, 100] := rfl
  refine ⟨by decide, by omega, _, [a, b, c], ⟨isBytes_self ([119, 111, 114, 108, 100] : Bs), ints3 a b c, by simp only [List.length_cons, List.length_nil]; omega, λ n hn => hns n hn⟩, rfl, ⟨rfl, λ _ _ => rfl⟩, _, ⟨isBytes_self _, by simp only [List.length_append, List.length_cons, List.length_nil]; omega, by decide, by decide⟩, ⟨0, rfl, rowLe (by rw [u10, printL, hwl]; simp), Nat.zero_le _, q0⟩, λ i hi => ⟨λ hlt => ?_, λ hge => ?_⟩⟩
  ·have hmem : evAt l i ∈ l := by
    rw [evAt, List.getD_eq_getElem?_getD, List.getElem?_eq_getElem (by omega)]
    exact List.getElem_mem _
   refine ⟨⟨by omega, by omega⟩, _, evAt l i, ⟨isBytes_self _, isEv_self _, hev _ hmem, hall.2 _ hmem, by have := hpl i; omega⟩, i + 1, by rw [wrap64] <;> omega, rowLe ?_, ⟨by omega, q0⟩, by omega⟩
   simp only [printL]
   rw [flat_take l ev0 evL i (by omega)]
   simp [evAt]
  ·rw [show i = l.length by omega, List.take_length]
   rw [printR, q0] at h
   have hp := hpl l.length
   rw [List.take_length] at hp
   refine ⟨λ hb => ?_, λ hb => ⟨_, ⟨isBytes_self _, by simp only [printL, worldL, List.length_append, List.length_cons, List.length_nil]; omega, by omega⟩, ?_⟩⟩
   ·have : decide (262144 < (printL ⟨a, b, c, l⟩).length) = true := by rw [decide_eq_true_eq]; omega
    rw [this] at h
    exact h
   ·have : decide (262144 < (printL ⟨a, b, c, l⟩).length) = false := by rw [decide_eq_false_iff_not]; omega
    rw [this] at h
    exact h
 ·exact h.elim
end Go.Proofs.Sz

namespace Go.Proofs.Sz
open Go Go.Am Go.SP
theorem XJoin : EntOk Tryz.prog 15 (.lend TJoin) := by
 refine ⟨Am.enters_of Tryz.func15 (by kernel_rfl) (by kernel_rfl), λ args R h => ?_⟩
 unfold TJoin at h
 split at h
 ·rename_i x p
  obtain ⟨ls, ⟨hx, h0, h1, h2⟩, h⟩ := h
  refine spec_of_calls λ E0 vs hG hF hl hr => ?_
  match vs, hl with
  | [v, u], _ =>
   obtain rfl := repV_pl (hr 1 u _ rfl rfl)
   unfold IsTexts at hx
   split at hx
   ·rename_i k n f _
    obtain ⟨rfl, rfl, hf⟩ := hx
    obtain ⟨A, cap, ws, a, hc, hm, ha, hl, hcell, hrep, rfl⟩ := Rep.rows_inv (show Rep E0 [v] (.rows 1 ls.length f) from hr 0 v _ rfl rfl)
    obtain ⟨rfl, hFa⟩ := ha h0
    have hws : ∀ i, i < ls.length -> ws i = [.string (bs (ls.getD i []))] := λ i hi => by
     have := hrep i hi
     rw [hf i hi] at this
     exact this.pl_inv'
    have hcells : ∀ j, j < ls.length -> E0.w.cell? (a.add (j * 1 + 0)) = some (.string (bs (ls.getD j []))) := λ j hj => hcell j hj 0 _ (by rw [hws j hj]; rfl)
    have hsp : a.spot = none := by
     have := hcells 0 h0
     simp only [Nat.zero_mul, Nat.add_zero, Addr.add, if_true] at this
     unfold World.cell? at this
     split at this
     ·split at this
      ·cases this
      ·rename_i hn; simpa using hn
     ·cases this
    obtain ⟨bk, o, sp⟩ := a
    dsimp only at hsp
    subst hsp
    have e1 : (ls.map bs).map (·.data.toList) = ls := by rw [List.map_map]; exact (List.map_congr_left λ a _ => bs_data a).trans (List.map_id _)
    have hcl : ∀ (j : Nat) x, (ls.map bs)[j]? = some x -> E0.w.cell? ⟨bk, o + j, none⟩ = some (.string x) := λ j x hj => by
     rw [List.getElem?_map, Option.map_eq_some_iff] at hj
     obtain ⟨y, hy, rfl⟩ := hj
     have hlt := (List.getElem?_eq_some_iff.1 hy).1
     have := hcells j hlt
     rw [List.getD_eq_getElem?_getD, hy, Option.getD_some] at this
     rw [<- this]
     congr 1
     simp only [Addr.add, Nat.mul_one, Nat.add_zero]
     split
     ·rename_i hz; rw [hz]; rfl
     ·rfl
    have key := Tryz.strings_Join bk o cap (ls.map bs) p E0.w hcl (hF _ hFa) (by simp; omega) (by simpa using hc) (by rw [e1]; omega)
    rw [e1, List.length_map] at key
    refine key.mono ?_
    rintro e w' ⟨rfl, hb⟩
    exact ⟨_, _, rfl, h, hb, λ E => Rep.pl _ rfl⟩
   ·exact hx.elim
 ·exact h.elim
instance (e : Ev) : Decidable (EvOk e) := by unfold EvOk Int64; infer_instance
def wls : List Bs := [[119, 111, 114, 108, 100, 32, 49, 32, 49, 32, 51, 48, 48], [99, 111, 109, 109, 105, 116, 32, 54, 32, 55, 32, 34, 109, 34, 32, 34, 34, 32, 34, 97, 34, 32, 34, 49, 92, 110, 34, 32, 34, 98, 34, 32, 45], [99, 104, 97, 110, 103, 101, 32, 49, 32, 49, 32, 50], [99, 114, 97, 115, 104, 32, 54, 32, 61, 49, 48], []]
def wtx : Bs := Lib.join wls [10]
theorem w1 : (parseR wtx).2.2 = 0 := by decide +kernel
theorem w2 : (parseR wtx).2.1 = 0 := by decide +kernel
theorem w3 : (parseR wtx).1.evs.length = 3 := by decide +kernel
theorem w4 : (printR (parseR wtx).1) = (wtx, 0) := by decide +kernel
theorem w5 : ∀ e ∈ (parseR wtx).1.evs, EvOk e := by decide +kernel
theorem w6 : Int64 (parseR wtx).1.servers /\ Int64 (parseR wtx).1.clients /\ Int64 (parseR wtx).1.area := by unfold Int64; decide +kernel
theorem w7 : (evAt (parseR wtx).1.evs 0).edit = [([97], true, [49, 10]), ([98], false, [])] := by decide +kernel
theorem w8 : (evAt (parseR wtx).1.evs 2).keep = [true, false] := by decide +kernel
theorem w9 : (parseR (wtx ++ [115, 111, 10])).2 = (wtx.length, 360) := by decide +kernel
theorem w4' : printR (Sc.mk (parseR wtx).1.servers (parseR wtx).1.clients (parseR wtx).1.area (parseR wtx).1.evs) = (wtx, 0) := w4
theorem w10 : (wtx).length <= 1000000 := by decide +kernel
theorem XWakes : EntOk Tryz.prog 6 (.lend TWakes) := by
 refine ⟨Am.enters_of Tryz.func6 (by kernel_rfl) (by kernel_rfl), λ args R h => ?_⟩
 unfold TWakes at h
 split at h
 ·refine mkSo (vWakes R) (tb (ac XJoin (ac XParse (ac XPrint (ac XEqBool az))))) Tryz.func6 (by kernel_rfl) ?_
  simp only [true_and, and_true, and_self, implies_true, forall_const, gEq_true, gEq_false, nonneg_iff, natle_iff, decide_eq_true_eq, decide_eq_false_iff_not, Int.toNat_natCast, cond_bt, cond_bf, Bool.cond_true, Bool.cond_false, Bool.not_true, Bool.not_false, reduceCtorEq, false_implies, implies_true, Bool.true_eq_false, Bool.false_eq_true, Bool.not_eq_true', Bool.not_eq_false', bs_size, bs_data, bs_toList, bs_extract, bs_append, bs_mk, byteF]
  refine ⟨Nat.le_refl _, wls, ⟨⟨rfl, rfl, λ i hi => ?_⟩, by decide, by decide, by decide⟩, ?_⟩
  ·match i, hi with
   | 0, _ => rfl
   | 1, _ => rfl
   | 2, _ => rfl
   | 3, _ => rfl
   | 4, _ => rfl
  simp only [show Lib.join wls [10] = wtx from rfl, w1, w2, w3, true_and, and_true, and_self, implies_true, forall_const, gEq_true, gEq_false, nonneg_iff, natle_iff, decide_eq_true_eq, decide_eq_false_iff_not, Int.toNat_natCast, cond_bt, cond_bf, Bool.cond_true, Bool.cond_false, Bool.not_true, Bool.not_false, reduceCtorEq, false_implies, implies_true, Bool.true_eq_false, Bool.false_eq_true, Bool.not_eq_true', Bool.not_eq_false', bs_size, bs_data, bs_toList, bs_extract, bs_append, bs_mk, byteF]
  refine ⟨λ h => absurd h (by decide), λ _ => ⟨by decide, by decide, by decide, by decide, (parseR wtx).1.evs, ⟨⟨rfl, w3.symm, (isEvs_self _).2.2⟩, w6.1, w6.2.1, w6.2.2, w5⟩, by decide, ?_⟩⟩
  simp only [w4', show (evAt (parseR wtx).1.evs (Int.toNat 0)).edit = _ from w7, show (evAt (parseR wtx).1.evs (Int.toNat 2)).keep = _ from w8, w9]
  refine ⟨λ _ => by decide, λ _ => by decide, λ _ => by decide, λ _ => ⟨by decide, [true, false], [true, false], ⟨⟨rfl, rfl, λ i hi => ?_⟩, ⟨rfl, rfl, λ i hi => ?_⟩⟩, ?_⟩, λ h => absurd h (by decide)⟩
  ·match i, hi with
   | 0, _ => rfl
   | 1, _ => rfl
  ·match i, hi with
   | 0, _ => rfl
   | 1, _ => rfl
  ·have e1 : (bl ([true, false] == [true, false] && (360 : Int) == 360 && (wtx.length : Int) == (wtx.length : Int))) = bl true := by
    rw [beq_self_eq_true (wtx.length : Int)]; rfl
   rw [e1]
   exact h
 ·exact h.elim
theorem enc_dig (x : Nat) : Utf8.encode (IntKind.i32.wrap (IntKind.u64.wrap (48 + (x : Int).tmod (Int.ofNat (9 + 1))))) = bs [UInt8.ofNat (48 + x % 10)] := by
 have e : (x : Int).tmod (Int.ofNat (9 + 1)) = ((x % 10 : Nat) : Int) := rfl
 rw [e]
 have h : x % 10 < 10 := Nat.mod_lt _ (by omega)
 match x % 10, h with
 | 0, _ => rfl
 | 1, _ => rfl
 | 2, _ => rfl
 | 3, _ => rfl
 | 4, _ => rfl
 | 5, _ => rfl
 | 6, _ => rfl
 | 7, _ => rfl
 | 8, _ => rfl
 | 9, _ => rfl
theorem u64_of {x : Int} (h0 : 0 <= x) (h1 : x < 18446744073709551616) : IntKind.u64.wrap x = x := by
 show x % 18446744073709551616 = x
 exact Int.emod_eq_of_lt h0 h1
theorem quo_dig {x : Nat} (h : x < 18446744073709551616) : IntKind.u64.wrap ((x : Int).tdiv (Int.ofNat (9 + 1))) = ((x / 10 : Nat) : Int) := by
 have e : (x : Int).tdiv (Int.ofNat (9 + 1)) = ((x / 10 : Nat) : Int) := rfl
 rw [e]
 exact u64_of (by omega) (by omega)
def NumInv (n : Int) (x : Nat × Bs) : Prop := x.1 < 18446744073709551616 /\ Lib.decDigits x.1 ++ x.2 = Lib.decDigits n.natAbs
theorem XNum : EntOk Tryz.prog 27 (.lend TNum) := by
 refine ⟨Am.enters_of Tryz.func27 (by kernel_rfl) (by kernel_rfl), λ args R h => ?_⟩
 unfold TNum at h
 split at h
 ·obtain ⟨h0, h⟩ := h
  rename_i n
  have hlen : (Lib.itoa n).length <= 21 := itoa_len n h0
  have hN : (Lib.decDigits n.natAbs).length <= 21 := by
   unfold Lib.itoa at hlen
   split at hlen
   ·rw [List.length_cons] at hlen; omega
   ·rw [show n.natAbs = n.toNat by omega]; exact hlen
  have hn := h0
  unfold Int64 at hn
  have inv0 : NumInv n (n.natAbs, []) := ⟨by dsimp only; omega, List.append_nil _⟩
  refine mkSo (vNum n (NumInv n) R) (tb az) Tryz.func27 (by kernel_rfl) ?_
  simp only [true_and, and_true, and_self, implies_true, forall_const, gEq_true, gEq_false, nonneg_iff, natle_iff, decide_eq_true_eq, decide_eq_false_iff_not, Int.toNat_natCast, cond_bt, cond_bf, Bool.cond_true, Bool.cond_false, Bool.not_true, Bool.not_false, reduceCtorEq, false_implies, implies_true, Bool.true_eq_false, Bool.false_eq_true, Bool.not_eq_true', Bool.not_eq_false', bs_size, bs_data, bs_toList, bs_extract, bs_append, bs_mk, byteF, enc_dig]
  have hb : ∀ x, NumInv n x -> List.length x.2 <= 21 := λ x hx => by
   have := congrArg List.length hx.2
   rw [List.length_append] at this
   omega
  have hfin : ∀ x, NumInv n x -> x.1 / 10 = 0 -> [UInt8.ofNat (48 + x.1 % 10)] ++ x.2 = Lib.decDigits n.natAbs := λ x hx hz => by
   have h10 : x.1 < 10 := by omega
   rw [<- hx.2, Lib.decDigits_one h10, Nat.mod_eq_of_lt h10]
  have hstep : ∀ x, NumInv n x -> ¬ x.1 / 10 = 0 -> NumInv n (x.1 / 10, [UInt8.ofNat (48 + x.1 % 10)] ++ x.2) := λ x hx hz => by
   refine ⟨by have := hx.1; dsimp only; omega, ?_⟩
   rw [<- hx.2]
   conv => rhs; rw [Lib.decDigits, dif_neg (by omega)]
   rw [List.append_assoc]
  refine ⟨λ hs => ⟨⟨(n.natAbs, []), ⟨?_, rfl⟩, inv0⟩, λ x hx => ?_⟩, λ hs => ⟨⟨(n.natAbs, []), ⟨?_, rfl⟩, inv0⟩, λ x hx => ?_⟩⟩
  ·have e1 : IntKind.u64.wrap n = n + 18446744073709551616 := by
    show n % 18446744073709551616 = _
    omega
   rw [e1]
   show (0 - (n + 18446744073709551616)) % 18446744073709551616 = ((n.natAbs : Nat) : Int)
   omega
  rotate_left 1
  ·rw [u64_of (by omega) (by omega)]
   show n = ((n.natAbs : Nat) : Int)
   omega
  all_goals
   rw [quo_dig hx.1]
   have hl := hb x hx
   refine ⟨by rw [List.length_singleton]; omega, λ hz => ?_, λ hz => ⟨(x.1 / 10, [UInt8.ofNat (48 + x.1 % 10)] ++ x.2), ⟨rfl, rfl⟩, ?_⟩⟩
   ·have hz : x.1 / 10 = 0 := by have := eq_of_beq hz; omega
    rw [hfin x hx hz]
    refine ⟨λ hs => ⟨by rw [List.length_singleton]; omega, ?_⟩, λ hs => ?_⟩
    ·have : Lib.itoa n = [45] ++ Lib.decDigits n.natAbs := by unfold Lib.itoa; rw [if_pos hs]; rfl
     rw [this] at h; exact h
    ·have : Lib.itoa n = Lib.decDigits n.natAbs := by unfold Lib.itoa; rw [if_neg hs, show n.toNat = n.natAbs by omega]
     rw [this] at h; exact h
   ·have hz : ¬ x.1 / 10 = 0 := λ hc => by rw [hc] at hz; cases hz
    exact ⟨hstep x hx hz, by show x.1 / 10 + 1 <= x.1; omega⟩
 ·exact h.elim
theorem sign_lo : ∀ k : Fin 16, (k.1 : Int) < 10 -> IntKind.u8.wrap (48 + (k.1 : Int)) = ((hexD k.1).toNat : Int) := by decide +kernel
theorem sign_hi : ∀ k : Fin 16, ¬ (k.1 : Int) < 10 -> IntKind.u8.wrap (IntKind.u8.wrap (97 + (k.1 : Int)) - 10) = ((hexD k.1).toNat : Int) := by decide +kernel
theorem XSign : EntOk Tryz.prog 74 (.lend TSign) := by
 refine ⟨Am.enters_of Tryz.func74 (by kernel_rfl) (by kernel_rfl), λ args R h => ?_⟩
 unfold TSign at h
 split at h
 ·obtain ⟨⟨h0, h1⟩, h⟩ := h
  rename_i c
  refine mkSo (vSign c R) (tb az) Tryz.func74 (by kernel_rfl) ?_
  simp only [true_and, and_true, and_self, implies_true, forall_const, gEq_true, gEq_false, nonneg_iff, natle_iff, decide_eq_true_eq, decide_eq_false_iff_not, Int.toNat_natCast, cond_bt, cond_bf, Bool.cond_true, Bool.cond_false, Bool.not_true, Bool.not_false, reduceCtorEq, false_implies, implies_true, Bool.true_eq_false, Bool.false_eq_true, Bool.not_eq_true', Bool.not_eq_false', bs_size, bs_data, bs_toList, bs_extract, bs_append, bs_mk, byteF]
  obtain ⟨k, rfl⟩ := Int.eq_ofNat_of_zero_le h0
  have hk : k < 16 := by omega
  rw [Int.toNat_natCast] at h
  refine ⟨λ hc => ?_, λ hc => ?_⟩
  ·rw [sign_lo ⟨k, hk⟩ hc]; exact h
  ·rw [sign_hi ⟨k, hk⟩ hc]; exact h
 ·exact h.elim
theorem XIdT3 : EntOk Tryz.prog 57 (.lend TIdT) := by
 refine ⟨Am.enters_of Tryz.func57 (by kernel_rfl) (by kernel_rfl), λ args R h => ?_⟩
 unfold TIdT at h
 split at h
 ·rename_i f
  obtain ⟨hf, h⟩ := h
  refine mkSo (vIdT3 f R (λ i => i <= 32)) (tb (ac XSign az)) Tryz.func57 (by kernel_rfl) ?_
  have t2 : Int.ofNat (nat_lit 15 + 1) = 16 := rfl
  simp only [true_and, and_true, and_self, implies_true, forall_const, gEq_true, gEq_false, nonneg_iff, natle_iff, decide_eq_true_eq, decide_eq_false_iff_not, Int.toNat_natCast, cond_bt, cond_bf, Bool.cond_true, Bool.cond_false, Bool.not_true, Bool.not_false, reduceCtorEq, false_implies, implies_true, Bool.true_eq_false, Bool.false_eq_true, Bool.not_eq_true', Bool.not_eq_false', bs_size, bs_data, bs_toList, bs_extract, bs_append, bs_mk, byteF, t2]
  have hmx := maxLen_eq
  refine ⟨⟨0, ⟨rfl, rfl⟩, rfl, Nat.zero_le _⟩, λ x hx => ⟨λ hlt => ?_, λ hge => ?_⟩⟩
  ·obtain ⟨g0, g1⟩ := hf x (by omega)
   obtain ⟨q, hq⟩ := Int.eq_ofNat_of_zero_le g0
   have hx1 := hx1 ⟨q, by omega⟩
   dsimp only at hx1
   rw [hq, hx1.1, hx1.2, Int.toNat_natCast, Int.toNat_natCast]
   refine ⟨⟨by omega, by omega⟩, ⟨by omega, by omega⟩, by omega, by omega, ⟨by omega, by omega⟩, ⟨by omega, by omega⟩, by omega, by omega, ⟨by omega, by omega⟩, ⟨by omega, by omega⟩, ⟨by omega, by omega, by omega⟩, x + 1, ⟨by omega, by rw [wrap64] <;> omega⟩, ⟨by omega, λ i hi => ?_⟩, by omega, by omega⟩
   rw [idTk_succ, getD_app, idTk_len, hq, Int.toNat_natCast]
   split
   ·rfl
   ·have : i - 2 * x = 0 ∨ i - 2 * x = 1 := by omega
    rcases this with e | e <;> (rw [e]; rfl)
  ·have : x = 32 := by omega
   subst this
   exact ⟨by omega, bs (idL f), by rw [bs_size]; exact idTk_len f 32, λ i _ => by rw [Nat.zero_add, bs_data]; rfl, h⟩
 ·exact h.elim
end Go.Proofs.Sz

namespace Go.Proofs.Sz
open Go Go.Am Go.SP
theorem XCloneB : EntOk Tryz.prog 35 (.lend TCloneB) := by
 refine ⟨Am.enters_of Tryz.func35 (by kernel_rfl) (by kernel_rfl), λ args R h => ?_⟩
 unfold TCloneB at h
 split at h
 ·rename_i x
  obtain ⟨l, ⟨hx, hl⟩, h⟩ := h
  refine Spec.args (args' := [.rows 1 l.length (boolF l)]) ⟨hx, trivial⟩ ?_
  refine Spec.weak (Z := Unit) (X := λ _ => .own 0 0 l.length) (HH := λ _ => [.row 1 tyCB l.length (boolF l)]) (mkSo (vCloneB l R) (tb az) Tryz.func35 (by kernel_rfl) ?_)
  simp only [true_and, and_true, and_self, implies_true, forall_const, gEq_true, gEq_false, nonneg_iff, natle_iff, decide_eq_true_eq, decide_eq_false_iff_not, Int.toNat_natCast, cond_bt, cond_bf, Bool.cond_true, Bool.cond_false, Bool.not_true, Bool.not_false, reduceCtorEq, false_implies, implies_true, Bool.true_eq_false, Bool.false_eq_true, Bool.not_eq_true', Bool.not_eq_false', bs_size, bs_data, bs_toList, bs_extract, bs_append, bs_mk, byteF]
  have hmx := maxLen_eq
  exact λ b hb => ⟨λ hbt => by
   have h0 : l.length = 0 := by
    rcases Nat.eq_zero_or_pos l.length with h0 | h0
    ·exact h0
    ·rw [hb h0] at hbt; cases hbt
   exact ⟨(), h0, h0, h⟩, λ _ => ⟨⟨by omega, by omega⟩, (), Nat.le_refl _, h⟩⟩
 ·exact h.elim
theorem XCloneI : EntOk Tryz.prog 36 (.lend TCloneI) := by
 refine ⟨Am.enters_of Tryz.func36 (by kernel_rfl) (by kernel_rfl), λ args R h => ?_⟩
 unfold TCloneI at h
 split at h
 ·rename_i x
  obtain ⟨l, ⟨hx, hl⟩, h⟩ := h
  refine Spec.args (args' := [.rows 1 l.length (intF l)]) ⟨hx, trivial⟩ ?_
  refine Spec.weak (Z := Unit) (X := λ _ => .own 0 0 l.length) (HH := λ _ => [.row 1 tyCI l.length (intF l)]) (mkSo (vCloneI l R) (tb az) Tryz.func36 (by kernel_rfl) ?_)
  simp only [true_and, and_true, and_self, implies_true, forall_const, gEq_true, gEq_false, nonneg_iff, natle_iff, decide_eq_true_eq, decide_eq_false_iff_not, Int.toNat_natCast, cond_bt, cond_bf, Bool.cond_true, Bool.cond_false, Bool.not_true, Bool.not_false, reduceCtorEq, false_implies, implies_true, Bool.true_eq_false, Bool.false_eq_true, Bool.not_eq_true', Bool.not_eq_false', bs_size, bs_data, bs_toList, bs_extract, bs_append, bs_mk, byteF]
  have hmx := maxLen_eq
  exact λ b hb => ⟨λ hbt => by
   have h0 : l.length = 0 := by
    rcases Nat.eq_zero_or_pos l.length with h0 | h0
    ·exact h0
    ·rw [hb h0] at hbt; cases hbt
   exact ⟨(), h0, h0, h⟩, λ _ => ⟨⟨by omega, by omega⟩, (), Nat.le_refl _, h⟩⟩
 ·exact h.elim
theorem XCloneR : EntOk Tryz.prog 37 (.lend TCloneR) := by
 refine ⟨Am.enters_of Tryz.func37 (by kernel_rfl) (by kernel_rfl), λ args R h => ?_⟩
 unfold TCloneR at h
 split at h
 ·rename_i x
  obtain ⟨l, ⟨hx, hl⟩, h⟩ := h
  refine Spec.args (args' := [.rows 2 l.length (rowF l)]) ⟨hx, trivial⟩ ?_
  refine Spec.weak (Z := Unit) (X := λ _ => .own 0 0 l.length) (HH := λ _ => [.row 2 tyCR l.length (rowF l)]) (mkSo (vCloneR l R) (tb az) Tryz.func37 (by kernel_rfl) ?_)
  simp only [true_and, and_true, and_self, implies_true, forall_const, gEq_true, gEq_false, nonneg_iff, natle_iff, decide_eq_true_eq, decide_eq_false_iff_not, Int.toNat_natCast, cond_bt, cond_bf, Bool.cond_true, Bool.cond_false, Bool.not_true, Bool.not_false, reduceCtorEq, false_implies, implies_true, Bool.true_eq_false, Bool.false_eq_true, Bool.not_eq_true', Bool.not_eq_false', bs_size, bs_data, bs_toList, bs_extract, bs_append, bs_mk, byteF]
  have hmx := maxLen_eq
  exact λ b hb => ⟨λ hbt => by
   have h0 : l.length = 0 := by
    rcases Nat.eq_zero_or_pos l.length with h0 | h0
    ·exact h0
    ·rw [hb h0] at hbt; cases hbt
   exact ⟨(), h0, h0, h⟩, λ _ => ⟨⟨by omega, by omega⟩, (), Nat.le_refl _, h⟩⟩
 ·exact h.elim
theorem XCloneC : EntOk Tryz.prog 38 (.lend TCloneC) := by
 refine ⟨Am.enters_of Tryz.func38 (by kernel_rfl) (by kernel_rfl), λ args R h => ?_⟩
 unfold TCloneC at h
 split at h
 ·rename_i x
  obtain ⟨l, ⟨hx, hl⟩, h⟩ := h
  refine Spec.args (args' := [.rows 3 l.length (chgF l)]) ⟨hx, trivial⟩ ?_
  refine Spec.weak (Z := Unit) (X := λ _ => .own 0 0 l.length) (HH := λ _ => [.row 3 tyCC l.length (chgF l)]) (mkSo (vCloneC l R) (tb az) Tryz.func38 (by kernel_rfl) ?_)
  simp only [true_and, and_true, and_self, implies_true, forall_const, gEq_true, gEq_false, nonneg_iff, natle_iff, decide_eq_true_eq, decide_eq_false_iff_not, Int.toNat_natCast, cond_bt, cond_bf, Bool.cond_true, Bool.cond_false, Bool.not_true, Bool.not_false, reduceCtorEq, false_implies, implies_true, Bool.true_eq_false, Bool.false_eq_true, Bool.not_eq_true', Bool.not_eq_false', bs_size, bs_data, bs_toList, bs_extract, bs_append, bs_mk, byteF]
  have hmx := maxLen_eq
  exact λ b hb => ⟨λ hbt => by
   have h0 : l.length = 0 := by
    rcases Nat.eq_zero_or_pos l.length with h0 | h0
    ·exact h0
    ·rw [hb h0] at hbt; cases hbt
   exact ⟨(), h0, h0, h⟩, λ _ => ⟨⟨by omega, by omega⟩, (), Nat.le_refl _, h⟩⟩
 ·exact h.elim
theorem XShort : EntOk Tryz.prog 39 (.lend TShort) := by
 refine ⟨Am.enters_of Tryz.func39 (by kernel_rfl) (by kernel_rfl), λ args R h => ?_⟩
 unfold TShort at h
 split at h
 ·rename_i s
  obtain ⟨l, rfl⟩ : ∃ l, s = bs l := ⟨_, bs_of s⟩
  rw [bs_data] at h
  refine mkSo (vShort l R) (tb az) Tryz.func39 (by kernel_rfl) ?_
  simp only [true_and, and_true, and_self, implies_true, forall_const, gEq_true, gEq_false, nonneg_iff, natle_iff, decide_eq_true_eq, decide_eq_false_iff_not, Int.toNat_natCast, cond_bt, cond_bf, Bool.cond_true, Bool.cond_false, Bool.not_true, Bool.not_false, reduceCtorEq, false_implies, implies_true, Bool.true_eq_false, Bool.false_eq_true, Bool.not_eq_true', Bool.not_eq_false', bs_size, bs_data, bs_toList, bs_extract, bs_append, bs_mk, byteF]
  have e : ∀ c : Int, (c = 1025 /\ 1025 <= l.length ∨ c = (l.length : Int) /\ l.length <= 1025) -> l.take c.toNat = l.take 1025 := λ c hc => by
   rcases hc with ⟨rfl, _⟩ | ⟨rfl, h2⟩
   ·rfl
   ·rw [Int.toNat_natCast, List.take_length, List.take_of_length_le h2]
  have h0 : Int.toNat (0 : Int) = 0 := rfl
  rw [h0, List.drop_zero]
  split
  ·rw [e _ (.inl ⟨rfl, by omega⟩)]
   exact ⟨by omega, h⟩
  ·rw [e _ (.inr ⟨rfl, by omega⟩)]
   exact ⟨by omega, h⟩
 ·exact h.elim
end Go.Proofs.Sz

namespace Go.Proofs.Sz
open Go Go.Am Go.SP
theorem vEvent (e : Ev) (inv13 inv18 : LX -> Prop) (R : AV -> List LObj -> Prop) : (vcA false false 0 [1, 2] Tryz.prog (mkTab [(35, .lend TCloneB), (36, .lend TCloneI), (37, .lend TCloneR), (38, .lend TCloneC), (39,
 .lend TShort)]) (optC (Tryz.f17.body.getD .skip)) ([.unroll 8 4 true (λ _ => []), .loop 13 LX inv13 (λ x => ⟨slotsOf 144 0 [(1, .ptr 0 0 0 0), (2, .ptr 1 0 0 0), (89, .own 4 0 x.2.1.1.length), (90, nm
 x.2.1.1.length), (91, nm x.2.2)], heapX e x⟩) (λ x => x.2.1.1.length - x.2.2) (λ _ => []), .loop 18 LX inv18 (λ x => ⟨slotsOf 144 0 [(1, .ptr 0 0 0 0), (2, .ptr 1 0 0 0), (117, .own 5 0 x.2.1.2.length), (118, nm
 x.2.1.2.length), (119, nm x.2.2)], heapX e x⟩) (λ x => x.2.1.2.length - x.2.2) (λ _ => [])]) (finalK Tryz.prog Tryz.f17 (λ y H => ∃ _ : Unit, leSt 0 ⟨[y], H⟩ ⟨[(shortE e).av], []⟩ (R (shortE e).av []))) (startSt
 Tryz.f17 ([e.av]))) = (let Q15 := (↑ e.data.length : Int); let Q14 := (if (41 : Int) < (↑e.map.length : Int) then (41 : Int) else (↑e.map.length : Int)); let Q13 := (↑e.edit.length : Int); let Q12 := (↑e.conf.length :
 Int); let Q11 := (↑e.keep.length : Int); let Q10 := (k8Q = k8Q /\ 32 = 32 /\ ∀ i < 32, (0 : Int) = 0); let Q9 := (k8Q = k8Q /\ 32 = 32 /\ ∀ i < 32, e.new i = e.new i); let Q8 := (k8Q = k8Q /\ 32 = 32 /\ ∀ i < 32, e.old i
 = e.old i); let Q7 := (if (9 : Int) < Q15 then (9 : Int) else Q15); let Q6 := (True /\ 0 = 0 /\ 0 = 0 /\ 0 = 0); let Q5 := (List.take (1025 : Nat) e.note); let Q4 := (List.take (9 : Nat) e.data); let Q3 := (List.take
 (1025 : Nat) e.branch); let Q2 := (List.take (1025 : Nat) e.cbranch); let Q1 := (1 = 1 /\ Q4.length = Q4.length /\ ∀ i < Q4.length, AV.pl (Value.int k8Q (↑ (Q4.getD i (0 : UInt8)).toNat : Int)) = AV.pl (Value.int k8Q (↑
 (Q4.getD i (0 : UInt8)).toNat : Int))); let Q0 := (62 = 62 /\ (0 : Int) = 0 /\ (0 : Int) = 0 /\ (0 : Int) = 0 /\ (0 : Int) = 0 /\ nQ = nQ /\ nQ = nQ /\ bs [] = bs [] /\ nQ = nQ /\ nQ = nQ /\ (0 : Int) = 0 /\ bs [] = bs
 [] /\ (0 : Int) = 0 /\ (0 : Int) = 0 /\ (0 : Int) = 0 /\ bs [] = bs [] /\ Q10 /\ Q10 /\ nQ = nQ /\ True); True /\ True /\ ((0 : Int) <= 0 /\ ((0 : Int) <= if (2049 : Int) < Q11 then (2049 : Int) else Q11) /\ (if (2049 :
 Int) < Q11 then (2049 : Int) else Q11) <= Q11) /\ ∃ (l : List Bool), (IsBools (AV.rows 1 ((if (2049 : Int) < Q11 then (2049 : Int) else Q11).toNat - Int.toNat 0) λ (i : Nat) => bl (e.keep.getD (Int.toNat 0 + i) false))
 l /\ l.length.le (100000 : Nat)) /\ True /\ ((0 : Int) <= 0 /\ ((0 : Int) <= if (41 : Int) < Q12 then (41 : Int) else Q12) /\ (if (41 : Int) < Q12 then (41 : Int) else Q12) <= Q12) /\ ∃ (l_1 : List Int), (IsInts0
 (AV.rows 1 ((if (41 : Int) < Q12 then (41 : Int) else Q12).toNat - Int.toNat 0) λ (i : Nat) => nm (e.conf.getD (Int.toNat 0 + i) (0 : Int))) l_1 /\ l_1.length.le (100000 : Nat)) /\ True /\ ((0 : Int) <= 0 /\ ((0 : Int)
 <= if (41 : Int) < (↑e.map.length : Int) then (41 : Int) else (↑e.map.length : Int)) /\ Q14 ≤ (↑e.map.length : Int)) /\ ∃ (l_2 : List (Bs × Bs)), (IsMap (AV.rows 2 (Q14.toNat - Int.toNat 0) λ (i : Nat) => AV.agg [sl
 (e.map.getD (Int.toNat 0 + i) ([], [])).1, sl (e.map.getD (Int.toNat 0 + i) ([], [])).2]) l_2 /\ l_2.length.le (100000 : Nat)) /\ True /\ ((0 : Int) <= 0 /\ ((0 : Int) <= if (41 : Int) < Q13 then (41 : Int) else Q13) /\
 (if (41 : Int) < Q13 then (41 : Int) else Q13) <= Q13) /\ ∃ (l_3 : List (Bs × Bool × Bs)), (IsEdit (AV.rows 3 ((if (41 : Int) < Q13 then (41 : Int) else Q13).toNat - Int.toNat 0) λ (i : Nat) => let Q16 := (e.edit.getD
 (Int.toNat 0 + i) ([], false, [])); AV.agg [sl Q16.1, bl Q16.2.1, sl Q16.2.2]) l_3 /\ l_3.length.le (100000 : Nat)) /\ True /\ ((0 : Int) <= 0 /\ ((0 : Int) <= if (9 : Int) < Q15 then (9 : Int) else Q15) /\ Q7 ≤ Q15) /\
 True /\ ((0 : Int) <= 0 /\ (0 : Int) + 1 <= (↑ (3 : Nat) : Int)) /\ True /\ True /\ ((0 : Int) <= k64Q.wrap ((0 : Int) + 1) /\ k64Q.wrap ((0 : Int) + 1) + 1 <= (↑ (3 : Nat) : Int)) /\ True /\ True /\ ((0 : Int) <=
 k64Q.wrap (k64Q.wrap ((0 : Int) + 1) + 1) /\ k64Q.wrap (k64Q.wrap ((0 : Int) + 1) + 1) + 1 <= (↑ (3 : Nat) : Int)) /\ True /\ True /\ (∃ (x : LX), (Q6 /\ Q6 /\ (True /\ 0 = 0 /\ l_2.length = x.2.1.1.length) /\
 (l_2.length : Int) = (↑x.2.1.1.length : Int) /\ (0 : Int) = (↑x.2.2 : Int) /\ True) /\ ((62 = 62 /\ e.kind = e.kind /\ e.node = e.node /\ e.to = e.to /\ e.n = e.n /\ (True /\ 0 = 0 /\ l.length = x.1.1.length) /\ (True
 /\ 0 = 0 /\ l_1.length = x.1.2.length) /\ bs Q3 = bs Q3 /\ (True /\ 0 = 0 /\ l_2.length = x.2.1.1.length) /\ (True /\ 0 = 0 /\ l_3.length = x.2.1.2.length) /\ e.author = e.author /\ bs Q5 = bs Q5 /\ e.ck = e.ck /\
 e.client = e.client /\ e.seq = e.seq /\ bs Q2 = bs Q2 /\ Q8 /\ Q9 /\ (1 = 1 /\ Q7.toNat - Int.toNat 0 = Q4.length /\ ∀ (i : Nat), i < Q7.toNat - Int.toNat 0 -> AV.pl (Value.int k8Q (↑ (e.data.getD (Int.toNat 0 + i) (0 :
 UInt8)).toNat : Int)) = AV.pl (Value.int k8Q (↑ (Q4.getD i (0 : UInt8)).toNat : Int))) /\ True) /\ (62 = 62 /\ (0 : Int) = 0 /\ (0 : Int) = 0 /\ (0 : Int) = 0 /\ (0 : Int) = 0 /\ nQ = nQ /\ nQ = nQ /\ ByteArray.mk #[] =
 bs [] /\ nQ = nQ /\ nQ = nQ /\ (0 : Int) = 0 /\ ByteArray.mk #[] = bs [] /\ (0 : Int) = 0 /\ (0 : Int) = 0 /\ (0 : Int) = 0 /\ ByteArray.mk #[] = bs [] /\ Q10 /\ Q10 /\ nQ = nQ /\ True) /\ (1 = 1 /\ 4 = 4 /\
 x.1.1.length.le l.length /\ ∀ i < x.1.1.length, bl (l.getD i false) = bl (x.1.1.getD i false)) /\ (1 = 1 /\ 3 = 3 /\ x.1.2.length.le l_1.length /\ ∀ i < x.1.2.length, nm (l_1.getD i (0 : Int)) = nm (x.1.2.getD i (0 :
 Int))) /\ (2 = 2 /\ 96 = 96 /\ x.2.1.1.length.le l_2.length /\ ∀ i < x.2.1.1.length, AV.agg [sl (l_2.getD i ([], [])).1, sl (l_2.getD i ([], [])).2] = AV.agg [sl (x.2.1.1.getD i ([], [])).1, sl (x.2.1.1.getD i ([],
 [])).2]) /\ (3 = 3 /\ 64 = 64 /\ x.2.1.2.length.le l_3.length /\ ∀ i < x.2.1.2.length, let Q17 := (x.2.1.2.getD i ([], false, [])); AV.agg [sl (l_3.getD i ([], false, [])).1, bl (l_3.getD i ([], false, [])).2.1, sl
 (l_3.getD i ([], false, [])).2.2] = AV.agg [sl Q17.1, bl Q17.2.1, sl Q17.2.2]) /\ True) /\ inv13 x) /\ ∀ (x : LX), let Q21 := (↑x.2.1.1.length : Int); let Q20 := (((0 : Nat) + (↑x.2.2 : Int).toNat).succ.le x.2.1.1.length
 /\ True); let Q19 := (x.2.1.1.getD ((0 : Nat) + (↑x.2.2 : Int).toNat) ([], [])); let Q18 := ((0 : Int) <= (↑x.2.2 : Int) /\ (↑x.2.2 : Int) + 1 <= Q21); inv13 x -> (decide ((↑x.2.2 : Int) < Q21) = true -> Q18 /\ Q20 /\
 True /\ True /\ Q18 /\ ((0 : Int) <= (↑x.2.2 : Int) /\ (↑x.2.2 : Int) + 1 ≤ Q21) /\ Q20 /\ Q18 /\ Q18 /\ Q20 /\ ∃ (y : LX), (Q6 /\ Q6 /\ (True /\ 0 = 0 /\ x.2.1.1.length = y.2.1.1.length) /\ Q21 = (↑y.2.1.1.length : Int)
 /\ k64Q.wrap ((↑x.2.2 : Int) + 1) = (↑y.2.2 : Int) /\ True) /\ ((62 = 62 /\ e.kind = e.kind /\ e.node = e.node /\ e.to = e.to /\ e.n = e.n /\ (True /\ 0 = 0 /\ x.1.1.length = y.1.1.length) /\ (True /\ 0 = 0 /\
 x.1.2.length = y.1.2.length) /\ bs Q3 = bs Q3 /\ (True /\ 0 = 0 /\ x.2.1.1.length = y.2.1.1.length) /\ (True /\ 0 = 0 /\ x.2.1.2.length = y.2.1.2.length) /\ e.author = e.author /\ bs Q5 = bs Q5 /\ e.ck = e.ck /\ e.client
 = e.client /\ e.seq = e.seq /\ bs Q2 = bs Q2 /\ Q8 /\ Q9 /\ Q1 /\ True) /\ Q0 /\ (1 = 1 /\ 4 = 4 /\ y.1.1.length.le x.1.1.length /\ ∀ i < y.1.1.length, bl (x.1.1.getD i false) = bl (y.1.1.getD i false)) /\ (1 = 1 /\ 3 =
 3 /\ y.1.2.length.le x.1.2.length /\ ∀ i < y.1.2.length, nm (x.1.2.getD i (0 : Int)) = nm (y.1.2.getD i (0 : Int))) /\ (2 = 2 /\ 96 = 96 /\ y.2.1.1.length.le x.2.1.1.length /\ ∀ i < y.2.1.1.length, AV.agg [AV.pl
 (Value.string (if i = 0 + (↑x.2.2 : Int).toNat then if (0 : Nat) + (↑x.2.2 : Int).toNat = 0 + (↑x.2.2 : Int).toNat then bs (List.take (1025 : Nat) Q19.1) else bs Q19.1 else if i = 0 + (↑x.2.2 : Int).toNat then bs
 (List.take (1025 : Nat) Q19.1) else bs (x.2.1.1.getD i ([], [])).1)), AV.pl (Value.string (if i = 0 + (↑x.2.2 : Int).toNat then bs (List.take (1025 : Nat) Q19.2) else if i = 0 + (↑x.2.2 : Int).toNat then bs Q19.2 else bs
 (x.2.1.1.getD i ([], [])).2))] = AV.agg [sl (y.2.1.1.getD i ([], [])).1, sl (y.2.1.1.getD i ([], [])).2]) /\ (3 = 3 /\ 64 = 64 /\ y.2.1.2.length.le x.2.1.2.length /\ ∀ i < y.2.1.2.length, let Q23 := (y.2.1.2.getD i ([],
 false, [])); let Q22 := (x.2.1.2.getD i ([], false, [])); AV.agg [sl Q22.1, bl Q22.2.1, sl Q22.2.2] = AV.agg [sl Q23.1, bl Q23.2.1, sl Q23.2.2]) /\ True) /\ inv13 y /\ (y.2.1.1.length - y.2.2).succ.le (x.2.1.1.length -
 x.2.2)) /\ (decide ((↑x.2.2 : Int) < Q21) = false -> (∃ (x_1 : LX), (Q6 /\ Q6 /\ (True /\ 0 = 0 /\ x.2.1.2.length = x_1.2.1.2.length) /\ (↑x.2.1.2.length : Int) = (↑x_1.2.1.2.length : Int) /\ (0 : Int) = (↑x_1.2.2 : Int)
 /\ True) /\ ((62 = 62 /\ e.kind = e.kind /\ e.node = e.node /\ e.to = e.to /\ e.n = e.n /\ (True /\ 0 = 0 /\ x.1.1.length = x_1.1.1.length) /\ (True /\ 0 = 0 /\ x.1.2.length = x_1.1.2.length) /\ bs Q3 = bs Q3 /\ (True /\
 0 = 0 /\ x.2.1.1.length = x_1.2.1.1.length) /\ (True /\ 0 = 0 /\ x.2.1.2.length = x_1.2.1.2.length) /\ e.author = e.author /\ bs Q5 = bs Q5 /\ e.ck = e.ck /\ e.client = e.client /\ e.seq = e.seq /\ bs Q2 = bs Q2 /\ Q8 /\
 Q9 /\ Q1 /\ True) /\ Q0 /\ (1 = 1 /\ 4 = 4 /\ x_1.1.1.length.le x.1.1.length /\ ∀ i < x_1.1.1.length, bl (x.1.1.getD i false) = bl (x_1.1.1.getD i false)) /\ (1 = 1 /\ 3 = 3 /\ x_1.1.2.length.le x.1.2.length /\ ∀ i <
 x_1.1.2.length, nm (x.1.2.getD i (0 : Int)) = nm (x_1.1.2.getD i (0 : Int))) /\ (2 = 2 /\ 96 = 96 /\ x_1.2.1.1.length.le x.2.1.1.length /\ ∀ i < x_1.2.1.1.length, AV.agg [sl (x.2.1.1.getD i ([], [])).1, sl (x.2.1.1.getD
 i ([], [])).2] = AV.agg [sl (x_1.2.1.1.getD i ([], [])).1, sl (x_1.2.1.1.getD i ([], [])).2]) /\ (3 = 3 /\ 64 = 64 /\ x_1.2.1.2.length.le x.2.1.2.length /\ ∀ i < x_1.2.1.2.length, let Q25 := (x.2.1.2.getD i ([], false,
 [])); let Q24 := (x_1.2.1.2.getD i ([], false, [])); AV.agg [sl Q25.1, bl Q25.2.1, sl Q25.2.2] = AV.agg [sl Q24.1, bl Q24.2.1, sl Q24.2.2]) /\ True) /\ inv18 x_1) /\ ∀ (x : LX), let Q29 := (↑x.2.1.2.length : Int); let
 Q28 := (((0 : Nat) + (↑x.2.2 : Int).toNat).succ.le x.2.1.2.length /\ True); let Q27 := ((0 : Int) <= (↑x.2.2 : Int) /\ (↑x.2.2 : Int) + 1 <= Q29); let Q26 := (x.2.1.2.getD ((0 : Nat) + (↑x.2.2 : Int).toNat) ([], false,
 [])); inv18 x -> (decide ((↑x.2.2 : Int) < Q29) = true -> Q27 /\ Q28 /\ True /\ True /\ Q27 /\ ((0 : Int) ≤ (↑x.2.2 : Int) /\ (↑x.2.2 : Int) + 1 <= Q29) /\ Q28 /\ Q27 /\ Q27 /\ Q28 /\ ∃ (y : LX), (Q6 /\ Q6 /\ (True /\ 0
 = 0 /\ x.2.1.2.length = y.2.1.2.length) /\ Q29 = (↑y.2.1.2.length : Int) /\ k64Q.wrap ((↑x.2.2 : Int) + 1) = (↑y.2.2 : Int) /\ True) /\ ((62 = 62 /\ e.kind = e.kind /\ e.node = e.node /\ e.to = e.to /\ e.n = e.n /\ (True
 /\ 0 = 0 /\ x.1.1.length = y.1.1.length) /\ (True /\ 0 = 0 /\ x.1.2.length = y.1.2.length) /\ bs Q3 = bs Q3 /\ (True /\ 0 = 0 /\ x.2.1.1.length = y.2.1.1.length) /\ (True /\ 0 = 0 /\ x.2.1.2.length = y.2.1.2.length) /\
 e.author = e.author /\ bs Q5 = bs Q5 /\ e.ck = e.ck /\ e.client = e.client /\ e.seq = e.seq /\ bs Q2 = bs Q2 /\ Q8 /\ Q9 /\ Q1 /\ True) /\ Q0 /\ (1 = 1 /\ 4 = 4 /\ y.1.1.length.le x.1.1.length /\ ∀ i < y.1.1.length, bl
 (x.1.1.getD i false) = bl (y.1.1.getD i false)) /\ (1 = 1 /\ 3 = 3 /\ y.1.2.length.le x.1.2.length /\ ∀ i < y.1.2.length, nm (x.1.2.getD i (0 : Int)) = nm (y.1.2.getD i (0 : Int))) /\ (2 = 2 /\ 96 = 96 /\
 y.2.1.1.length.le x.2.1.1.length /\ ∀ i < y.2.1.1.length, AV.agg [sl (x.2.1.1.getD i ([], [])).1, sl (x.2.1.1.getD i ([], [])).2] = AV.agg [sl (y.2.1.1.getD i ([], [])).1, sl (y.2.1.1.getD i ([], [])).2]) /\ (3 = 3 /\ 64
 = 64 /\ y.2.1.2.length.le x.2.1.2.length /\ ∀ i < y.2.1.2.length, let Q31 := (y.2.1.2.getD i ([], false, [])); let Q30 := (x.2.1.2.getD i ([], false, [])); AV.agg [AV.pl (Value.string (if i = 0 + (↑x.2.2 : Int).toNat
 then if (0 : Nat) + (↑x.2.2 : Int).toNat = 0 + (↑x.2.2 : Int).toNat then bs (List.take (1025 : Nat) Q26.1) else bs Q26.1 else if i = 0 + (↑x.2.2 : Int).toNat then bs (List.take (1025 : Nat) Q26.1) else bs Q30.1)), bl (if
 i = 0 + (↑x.2.2 : Int).toNat then if (0 : Nat) + (↑x.2.2 : Int).toNat = 0 + (↑x.2.2 : Int).toNat then Q26.2.1 else Q26.2.1 else if i = 0 + (↑x.2.2 : Int).toNat then Q26.2.1 else Q30.2.1), AV.pl (Value.string (if i = 0 +
 (↑x.2.2 : Int).toNat then bs (List.take (1025 : Nat) Q26.2.2) else if i = 0 + (↑x.2.2 : Int).toNat then bs Q26.2.2 else bs Q30.2.2))] = AV.agg [sl Q31.1, bl Q31.2.1, sl Q31.2.2]) /\ True) /\ inv18 y /\ (y.2.1.2.length -
 y.2.2).succ.le (x.2.1.2.length - x.2.2)) /\ (decide ((↑x.2.2 : Int) < Q29) = false -> True /\ (True /\ True) /\ (True /\ True /\ True /\ True /\ ((0 : Nat) + x.1.1.length).le x.1.1.length /\ ((0 : Nat) + x.1.2.length).le
 x.1.2.length /\ True /\ ((0 : Nat) + x.2.1.1.length).le x.2.1.1.length /\ ((0 : Nat) + x.2.1.2.length).le x.2.1.2.length /\ True /\ True /\ True /\ True /\ True /\ True /\ True /\ True /\ True /\ True) /\ ∃ (x_1 : Unit),
 ((e.kind = (shortE e).kind /\ e.node = (shortE e).node /\ e.to = (shortE e).to /\ e.n = (shortE e).n /\ (1 = 1 /\ x.1.1.length = (shortE e).keep.length /\ ∀ i < x.1.1.length, bl (x.1.1.getD ((0 : Nat) + i) false) = bl
 ((shortE e).keep.getD i false)) /\ (1 = 1 /\ x.1.2.length = (shortE e).conf.length /\ ∀ i < x.1.2.length, nm (x.1.2.getD ((0 : Nat) + i) (0 : Int)) = nm ((shortE e).conf.getD i (0 : Int))) /\ bs Q3 = bs (shortE e).branch
 /\ (2 = 2 /\ x.2.1.1.length = (shortE e).map.length /\ ∀ i < x.2.1.1.length, AV.agg [sl (x.2.1.1.getD ((0 : Nat) + i) ([], [])).1, sl (x.2.1.1.getD ((0 : Nat) + i) ([], [])).2] = AV.agg [sl ((shortE e).map.getD i ([],
 [])).1, sl ((shortE e).map.getD i ([], [])).2]) /\ (3 = 3 /\ x.2.1.2.length = (shortE e).edit.length /\ ∀ i < x.2.1.2.length, let Q33 := ((shortE e).edit.getD i ([], false, [])); let Q32 := (x.2.1.2.getD ((0 : Nat) + i)
 ([], false, [])); AV.agg [sl Q32.1, bl Q32.2.1, sl Q32.2.2] = AV.agg [sl Q33.1, bl Q33.2.1, sl Q33.2.2]) /\ e.author = (shortE e).author /\ bs Q5 = bs (shortE e).note /\ e.ck = (shortE e).ck /\ e.client = (shortE
 e).client /\ e.seq = (shortE e).seq /\ bs Q2 = bs (shortE e).cbranch /\ (k8Q = k8Q /\ 32 = 32 /\ ∀ i < 32, e.old i = (shortE e).old i) /\ (k8Q = k8Q /\ 32 = 32 /\ ∀ i < 32, e.new i = (shortE e).new i) /\ (1 = 1 /\
 Q4.length = List.length (shortE e).data /\ ∀ i < Q4.length, AV.pl (Value.int k8Q (↑ (Q4.getD i (0 : UInt8)).toNat : Int)) = AV.pl (Value.int k8Q (↑ ((shortE e).data.getD i (0 : UInt8)).toNat : Int))) /\ True) /\ True) /\
 True /\ R ((shortE e).av) []))) := by kernel_rfl
end Go.Proofs.Sz

namespace Go.Proofs.Sz
open Go Go.Am Go.SP
theorem cutLen (n k : Nat) (c : Int) (hc : c = k) : (if c < (n : Int) then c else (n : Int)).toNat - Int.toNat (0 : Int) = min k n := by
 subst hc
 have h0 : Int.toNat (0 : Int) = 0 := rfl
 rw [h0]
 split <;> omega
theorem cut_ok (n : Nat) (c : Int) (hc : 0 <= c) : (0 : Int) <= 0 /\ ((0 : Int) <= if c < (n : Int) then c else (n : Int)) /\ (if c < (n : Int) then c else (n : Int)) <= (n : Int) := by
 split <;> omega
theorem take_getD {α : Type} (l : List α) (k i : Nat) (d : α) (h : i < min k l.length) : l.getD (Int.toNat (0 : Int) + i) d = (l.take k).getD i d := by
 have h0 : Int.toNat (0 : Int) = 0 := rfl
 rw [h0, Nat.zero_add, List.getD_eq_getElem?_getD, List.getD_eq_getElem?_getD, List.getElem?_take_of_lt (by omega)]
theorem upto_len {α : Type} (g : α -> α) (l : List α) (i : Nat) : (upto g l i).length = l.length := by
 simp [upto]
 omega
theorem upto_zero {α : Type} (g : α -> α) (l : List α) : upto g l 0 = l := by simp [upto]
theorem upto_all {α : Type} (g : α -> α) (l : List α) : upto g l l.length = l.map g := by simp [upto]
theorem upto_lt {α : Type} (g : α -> α) (l : List α) (i j : Nat) (d : α) (hj : j < l.length) (h : j < i) : (upto g l i).getD j d = g (l.getD j d) := by
 rw [upto, List.getD_eq_getElem?_getD, List.getElem?_append_left (by simp; omega), List.getElem?_map, List.getElem?_take_of_lt h, List.getD_eq_getElem?_getD, List.getElem?_eq_getElem hj]
 rfl
theorem upto_ge {α : Type} (g : α -> α) (l : List α) (i j : Nat) (d : α) (hi : i <= l.length) (h : i <= j) : (upto g l i).getD j d = l.getD j d := by
 have hl : ((l.take i).map g).length = i := by simp; omega
 rw [upto, List.getD_eq_getElem?_getD, List.getElem?_append_right (by omega), hl, List.getElem?_drop, List.getD_eq_getElem?_getD, show i + (j - i) = j by omega]
theorem XEvent : EntOk Tryz.prog 17 (.lend TShortE) := by
 refine ⟨Am.enters_of Tryz.func17 (by kernel_rfl) (by kernel_rfl), λ args R h => ?_⟩
 unfold TShortE at h
 split at h
 ·rename_i x
  obtain ⟨e, hx, h⟩ := h
  refine Spec.args (args' := [e.av]) ⟨hx, trivial⟩ ?_
  refine Spec.weak (Z := Unit) (X := λ _ => (shortE e).av) (HH := λ _ => []) (mkSo (vEvent e (λ x => x.1 = (e.keep.take 2049, e.conf.take 41) /\ ∃ i, i <= (e.map.take 41).length /\ x.2 = ((upto sh2 (e.map.take 41) i, e.edit.take 41), i)) (λ x => x.1 = (e.keep.take 2049, e.conf.take 41) /\ ∃ i, i <= (e.edit.take 41).length /\ x.2 = (((e.map.take 41).map sh2, upto sh3 (e.edit.take 41) i), i)) R) (tb (ac XCloneB (ac XCloneI (ac XCloneR (ac XCloneC (ac XShort az)))))) Tryz.func17 (by kernel_rfl) ?_)
  simp only [true_and, and_true, and_self, implies_true, forall_const, gEq_true, gEq_false, nonneg_iff, natle_iff, decide_eq_true_eq, decide_eq_false_iff_not, Int.toNat_natCast, cond_bt, cond_bf, Bool.cond_true, Bool.cond_false, Bool.not_true, Bool.not_false, reduceCtorEq, false_implies, implies_true, Bool.true_eq_false, Bool.false_eq_true, Bool.not_eq_true', Bool.not_eq_false', bs_size, bs_data, bs_toList, bs_extract, bs_append, bs_mk, byteF]
  have hlK : (e.keep.take 2049).length <= 2049 := by simp; omega
  have hlC : (e.conf.take 41).length <= 41 := by simp; omega
  have hlM : (e.map.take 41).length <= 41 := by simp; omega
  have hlD : (e.edit.take 41).length <= 41 := by simp; omega
  refine ⟨cut_ok _ _ (by decide), e.keep.take 2049, ⟨⟨rfl, (cutLen _ 2049 _ rfl).trans List.length_take.symm, λ i hi => ?_⟩, by omega⟩, cut_ok _ _ (by decide), e.conf.take 41, ⟨⟨rfl, (cutLen _ 41 _ rfl).trans List.length_take.symm, λ i hi => ?_⟩, by omega⟩, cut_ok _ _ (by decide), e.map.take 41, ⟨⟨rfl, (cutLen _ 41 _ rfl).trans List.length_take.symm, λ i hi => ?_⟩, by omega⟩, cut_ok _ _ (by decide), e.edit.take 41, ⟨⟨rfl, (cutLen _ 41 _ rfl).trans List.length_take.symm, λ i hi => ?_⟩, by omega⟩, cut_ok _ _ (by decide), by decide, by decide, by decide,
   ⟨((e.keep.take 2049, e.conf.take 41), ((e.map.take 41, e.edit.take 41), 0)), ⟨rfl, rfl, rfl⟩, ⟨⟨rfl, rfl, rfl, rfl, (cutLen _ 9 _ rfl).trans List.length_take.symm, λ i hi => ?_⟩, ⟨Nat.le_refl _, λ _ _ => rfl⟩, ⟨Nat.le_refl _, λ _ _ => rfl⟩, ⟨Nat.le_refl _, λ _ _ => rfl⟩, Nat.le_refl _, λ _ _ => rfl⟩, rfl, 0, Nat.zero_le _, by rw [upto_zero]⟩, λ x hx => ?_⟩
  ·rw [cutLen _ 2049 2049 rfl] at hi
   show bl _ = bl _
   rw [take_getD _ 2049 _ _ hi]
  ·rw [cutLen _ 41 41 rfl] at hi
   show nm _ = nm _
   rw [take_getD _ 41 _ _ hi]
  ·rw [cutLen _ 41 41 rfl] at hi
   show AV.agg [sl _, sl _] = AV.agg [sl _, sl _]
   rw [take_getD _ 41 _ _ hi]
  ·rw [cutLen _ 41 41 rfl] at hi
   show AV.agg [sl _, bl _, sl _] = AV.agg [sl _, bl _, sl _]
   rw [take_getD _ 41 _ _ hi]
  ·rw [cutLen _ 9 9 rfl] at hi
   rw [take_getD _ 9 _ _ hi]
  ·obtain ⟨⟨a, b⟩, ⟨⟨m, d⟩, n⟩⟩ := x
   obtain ⟨h1, i, hi, h2⟩ := hx
   dsimp only at h1 h2
   obtain ⟨rfl, rfl⟩ := Prod.mk.inj h1
   obtain ⟨h2, rfl⟩ := Prod.mk.inj h2
   obtain ⟨rfl, rfl⟩ := Prod.mk.inj h2
   have hM := upto_len sh2 (e.map.take 41) n
   have hM1 := upto_len sh2 (e.map.take 41) (n + 1)
   dsimp only
   refine ⟨λ hlt => ⟨⟨by omega, by omega⟩, by omega, ⟨by omega, by omega⟩, ⟨by omega, by omega⟩, by omega, ⟨by omega, by omega⟩, ⟨by omega, by omega⟩, by omega, ((e.keep.take 2049, e.conf.take 41), ((upto sh2 (e.map.take 41) (n + 1), e.edit.take 41), n + 1)), ⟨by dsimp only; omega, by dsimp only; omega, by dsimp only; rw [wrap64] <;> omega⟩, ⟨⟨rfl, rfl, by dsimp only; omega, rfl⟩, ⟨Nat.le_refl _, λ _ _ => rfl⟩, ⟨Nat.le_refl _, λ _ _ => rfl⟩, ⟨by dsimp only; omega, λ j hj => ?_⟩, Nat.le_refl _, λ _ _ => rfl⟩, ⟨rfl, n + 1, by omega, rfl⟩, by dsimp only; omega⟩, λ hge => ?_⟩
   ·dsimp only at hj ⊢
    rw [Nat.zero_add]
    by_cases hji : j = n
    ·subst hji
     simp only [if_true]
     rw [upto_lt sh2 _ (j + 1) j _ (by omega) (by omega), upto_ge sh2 _ j j _ hi (Nat.le_refl _)]
     rfl
    ·simp only [if_neg hji]
     rcases Nat.lt_or_ge j n with q | q
     ·rw [upto_lt sh2 _ (n + 1) j _ (by omega) (by omega), upto_lt sh2 _ n j _ (by omega) q]
     ·rw [upto_ge sh2 _ (n + 1) j _ (by omega) (by omega), upto_ge sh2 _ n j _ hi q]
   have hn : n = (e.map.take 41).length := by omega
   rw [hn, upto_all]
   refine ⟨⟨((e.keep.take 2049, e.conf.take 41), (((e.map.take 41).map sh2, e.edit.take 41), 0)), ⟨rfl, rfl, rfl⟩, ⟨⟨rfl, rfl, rfl, rfl⟩, ⟨Nat.le_refl _, λ _ _ => rfl⟩, ⟨Nat.le_refl _, λ _ _ => rfl⟩, ⟨Nat.le_refl _, λ _ _ => rfl⟩, Nat.le_refl _, λ _ _ => rfl⟩, rfl, 0, Nat.zero_le _, by rw [upto_zero]⟩, λ x hx => ?_⟩
   obtain ⟨⟨a, b⟩, ⟨⟨m, d⟩, n⟩⟩ := x
   obtain ⟨h1, i, hi, h2⟩ := hx
   dsimp only at h1 h2
   obtain ⟨rfl, rfl⟩ := Prod.mk.inj h1
   obtain ⟨h2, rfl⟩ := Prod.mk.inj h2
   obtain ⟨rfl, rfl⟩ := Prod.mk.inj h2
   have hM := upto_len sh3 (e.edit.take 41) n
   have hM1 := upto_len sh3 (e.edit.take 41) (n + 1)
   dsimp only
   refine ⟨λ hlt => ⟨⟨by omega, by omega⟩, by omega, ⟨by omega, by omega⟩, ⟨by omega, by omega⟩, by omega, ⟨by omega, by omega⟩, ⟨by omega, by omega⟩, by omega, ((e.keep.take 2049, e.conf.take 41), (((e.map.take 41).map sh2, upto sh3 (e.edit.take 41) (n + 1)), n + 1)), ⟨by dsimp only; omega, by dsimp only; omega, by dsimp only; rw [wrap64] <;> omega⟩, ⟨⟨rfl, rfl, rfl, by dsimp only; omega⟩, ⟨Nat.le_refl _, λ _ _ => rfl⟩, ⟨Nat.le_refl _, λ _ _ => rfl⟩, ⟨Nat.le_refl _, λ _ _ => rfl⟩, by dsimp only; omega, λ j hj => ?_⟩, ⟨rfl, n + 1, by omega, rfl⟩, by dsimp only; omega⟩, λ hge => ?_⟩
   ·dsimp only at hj ⊢
    rw [Nat.zero_add]
    by_cases hji : j = n
    ·subst hji
     simp only [if_true]
     rw [upto_lt sh3 _ (j + 1) j _ (by omega) (by omega), upto_ge sh3 _ j j _ hi (Nat.le_refl _)]
     rfl
    ·simp only [if_neg hji]
     rcases Nat.lt_or_ge j n with q | q
     ·rw [upto_lt sh3 _ (n + 1) j _ (by omega) (by omega), upto_lt sh3 _ n j _ (by omega) q]
     ·rw [upto_ge sh3 _ (n + 1) j _ (by omega) (by omega), upto_ge sh3 _ n j _ hi q]
   have hn : n = (e.edit.take 41).length := by omega
   rw [hn, upto_all]
   refine ⟨by omega, (), ?_, h⟩
   simp only [Nat.zero_add]
   exact ⟨rfl, rfl, rfl, rfl, ⟨rfl, λ _ _ => rfl⟩, ⟨rfl, λ _ _ => rfl⟩, rfl, ⟨rfl, λ _ _ => rfl⟩, ⟨rfl, λ _ _ => rfl⟩, rfl, rfl, rfl, rfl, rfl, rfl, λ _ _ => rfl, λ _ _ => rfl, rfl, λ _ _ => rfl⟩
 ·exact h.elim
end Go.Proofs.Sz

namespace Go.Proofs.Sz
open Go Go.Am Go.SP
theorem vFew (a b c : Int) (l : List Ev) (inv : Nat -> Prop) (R : AV -> List LObj -> Prop) : (vcA false false 0 [2] Tryz.prog (mkTab [(17, .lend TShortE)]) (optC (Tryz.f7.body.getD .skip)) ([.loop 3 Nat inv (λ i =>
 ⟨slotsOf 30 0 [(2, .ptr 0 0 0 0), (3, .ptr 1 0 0 0), (15, evsAV (l.take 301)), (16, nm (l.take 301).length), (17, nm i)], [.box tySc [nm 0, nm 0, nm 0, nilS], scBox 2 ⟨a, b, c, (fewL l).take i⟩, rowE ((fewL l).take i)]⟩)
 (λ i => (l.take 301).length - i) (λ _ => [])]) (finalK Tryz.prog Tryz.f7 (λ y H => ∃ _ : Unit, leSt 0 ⟨[y], H⟩ ⟨[scAV ⟨a, b, c, fewL l⟩], []⟩ (R (scAV ⟨a, b, c, fewL l⟩) []))) (startSt Tryz.f7 ([.agg [nm a, nm b,
 nm c, evsAV l]]))) = (let Q4 := (28 = 28 /\ (0 : Int) = 0 /\ (0 : Int) = 0 /\ (0 : Int) = 0 /\ nQ = nQ /\ True); let Q3 := (True /\ 0 = 0 /\ 0 = 0 /\ 0 = 0); let Q2 := (Sc.mk a b c (fewL l)); let Q1 := (if (301 : Int) <
 (l.length : Int) then (301 : Int) else (l.length : Int)); let Q0 := (List.take (301 : Nat) l); True /\ True /\ True /\ True /\ ((0 : Int) <= 0 /\ ((0 : Int) <= if (301 : Int) < (l.length : Int) then (301 : Int) else
 (l.length : Int)) /\ Q1 <= (l.length : Int)) /\ (∃ (x : Nat), let Q5 := (Sc.mk a b c (List.take x (fewL l))); (Q3 /\ Q3 /\ (80 = 80 /\ Q1.toNat - Int.toNat 0 = Q0.length /\ ∀ (i : Nat), i < Q1.toNat - Int.toNat 0 ->
 (evAt l (Int.toNat 0 + i)).av = (evAt Q0 i).av) /\ (↑ (Q1.toNat - Int.toNat 0) : Int) = (↑ Q0.length : Int) /\ (0 : Int) = (x : Int) /\ True) /\ (Q4 /\ (28 = 28 /\ a = Q5.servers /\ b = Q5.clients /\ c = Q5.area /\
 (True /\ True /\ 0 = 0 /\ Q5.evs.length = 0) /\ True) /\ (List.take x (fewL l)).length = 0 /\ True) /\ inv x) /\ ∀ (x : Nat), let Q6 := (List.take x (fewL l)); inv x -> (decide ((x : Int) < (↑ Q0.length : Int)) = true
 -> ((0 : Int) <= (x : Int) /\ (x : Int) + 1 <= (↑ Q0.length : Int)) /\ True /\ True /\ ∃ (e : Ev), IsEv ((evAt Q0 (x : Int).toNat).av) e /\ True /\ (((0 : Nat) + 1).le (1 : Nat) /\ (Sc.mk a b c Q6).evs.length =
 Q6.length /\ (Q6.length + 1).le maxLen /\ ((Q6.length + 1) * 296).le (140737488355328 : Nat)) /\ True /\ ∃ (y : Nat), let Q7 := (List.take y (fewL l)); (Q3 /\ Q3 /\ (80 = 80 /\ Q0.length = Q0.length /\ ∀ i < Q0.length,
 (evAt Q0 i).av = (evAt Q0 i).av) /\ (↑ Q0.length : Int) = (↑ Q0.length : Int) /\ k64Q.wrap ((x : Int) + 1) = (y : Int) /\ True) /\ (Q4 /\ (28 = 28 /\ (Sc.mk a b c Q6).servers = (Sc.mk a b c Q7).servers /\ (Sc.mk a b c
 Q6).clients = (Sc.mk a b c Q7).clients /\ (Sc.mk a b c Q6).area = (Sc.mk a b c Q7).area /\ (True /\ 0 = 0 /\ Q6.length + 1 = (Sc.mk a b c Q7).evs.length) /\ True) /\ (80 = 80 /\ 62 = 62 /\ Q7.length.le (Q6.length + 1) /\
 ∀ i < Q7.length, (if i < Q6.length then (evAt Q6 i).av else rowOf [((0 : Nat), (shortE e).av)] ((0 : Nat) + (i - Q6.length))) = (evAt Q7 i).av) /\ True) /\ inv y /\ (Q0.length - y).succ.le (Q0.length - x)) /\ (decide
 ((x : Int) < (↑ Q0.length : Int)) = false -> True /\ (True /\ True) /\ (True /\ True /\ True /\ ((0 : Nat) + (Sc.mk a b c Q6).evs.length).le Q6.length /\ True) /\ ∃ (x_1 : Unit), (((Sc.mk a b c Q6).servers = Q2.servers
 /\ (Sc.mk a b c Q6).clients = Q2.clients /\ (Sc.mk a b c Q6).area = Q2.area /\ (80 = 80 /\ (Sc.mk a b c Q6).evs.length = Q2.evs.length /\ ∀ (i : Nat), i < (Sc.mk a b c Q6).evs.length -> (evAt Q6 ((0 : Nat) + i)).av =
 (evAt Q2.evs i).av) /\ True) /\ True) /\ True /\ R (AV.agg [nm Q2.servers, nm Q2.clients, nm Q2.area, AV.rows 80 Q2.evs.length (evF Q2.evs)]) [])) := by kernel_rfl
end Go.Proofs.Sz

namespace Go.Proofs.Sz
open Go Go.Am Go.SP
theorem short_ok {e : Ev} (h : EvOk e) : EvOk (shortE e) := by
 obtain ⟨h1, h2, h3, h4, h5, h6, h7, h8⟩ := h
 exact ⟨h1, h2, h3, h4, λ x hx => h5 x (List.mem_of_mem_take hx), h6, h7, h8⟩
theorem few_ok {l : List Ev} (h : ∀ e ∈ l, EvOk e) : ∀ e ∈ fewL l, EvOk e := λ e he => by
 obtain ⟨x, hx, rfl⟩ := List.mem_map.1 he
 exact short_ok (h x (List.mem_of_mem_take hx))
theorem sameE_self (a : Ev) : sameE a a = true := same_iff.2 ⟨⟨rfl, rfl, rfl, rfl, λ _ _ => rfl, λ _ _ => rfl, rfl⟩, ⟨rfl, rfl, rfl, rfl, rfl, rfl, rfl⟩, rfl, rfl, rfl, rfl⟩
theorem sameEvs_self (a : List Ev) : sameEvs a a = true := by
 simp only [sameEvs, Bool.and_eq_true, beq_iff_eq, List.all_eq_true, List.mem_range]
 exact ⟨trivial, λ i _ => sameE_self _⟩
end Go.Proofs.Sz

namespace Go.Proofs.Sz
open Go Go.Am Go.SP
theorem evAt_take (l : List Ev) (k i : Nat) (h : i < min k l.length) : evAt l (Int.toNat (0 : Int) + i) = evAt (l.take k) i := take_getD l k i ev0 h
theorem XFew : EntOk Tryz.prog 7 (.lend TFew) := by
 refine ⟨Am.enters_of Tryz.func7 (by kernel_rfl) (by kernel_rfl), λ args R h => ?_⟩
 unfold TFew at h
 split at h
 ·rename_i a b c x
  obtain ⟨l, hx, h⟩ := h
  refine Spec.argsD (args' := [.agg [nm a, nm b, nm c, evsAV l]]) ⟨.cons (.pl _) rfl (.cons (.pl _) rfl (.cons (.pl _) rfl (.cons (.of_leR hx) (evs_cw hx) .nil))), trivial⟩ ?_
  refine Spec.weak (Z := Unit) (X := λ _ => scAV ⟨a, b, c, fewL l⟩) (HH := λ _ => []) (mkSo (vFew a b c l (λ i => i <= (l.take 301).length) R) (tb (ac XEvent az)) Tryz.func7 (by kernel_rfl) ?_)
  have hmx := maxLen_eq
  have hl1 : (l.take 301).length <= 301 := by simp; omega
  have hfl : (fewL l).length = (l.take 301).length := by simp [fewL]
  simp only [true_and, and_true, and_self, implies_true, forall_const, gEq_true, gEq_false, nonneg_iff, natle_iff, decide_eq_true_eq, decide_eq_false_iff_not, Int.toNat_natCast, cond_bt, cond_bf, Bool.cond_true, Bool.cond_false, Bool.not_true, Bool.not_false, reduceCtorEq, false_implies, implies_true, Bool.true_eq_false, Bool.false_eq_true, Bool.not_eq_true', Bool.not_eq_false', bs_size, bs_data, bs_toList, bs_extract, bs_append, bs_mk, byteF]
  refine ⟨cut_ok _ _ (by decide), ⟨0, ⟨⟨(cutLen _ 301 301 rfl).trans List.length_take.symm, λ i hi => congrArg Ev.av (evAt_take l 301 i (by rwa [cutLen _ 301 301 rfl] at hi))⟩, by rw [cutLen _ 301 301 rfl, List.length_take], rfl⟩, by simp, Nat.zero_le _⟩, λ x hx => ?_⟩
  have htx : ((fewL l).take x).length = x := by rw [List.length_take, hfl]; omega
  refine ⟨λ hlt => ?_, λ hge => ?_⟩
  ·have hstep : (fewL l).take (x + 1) = (fewL l).take x ++ [shortE (evAt (l.take 301) x)] := by
    rw [List.take_succ_eq_append_getElem (by omega)]
    congr 2
    simp only [fewL, List.getElem_map, evAt]
    rw [List.getD_eq_getElem?_getD, List.getElem?_eq_getElem (by omega)]
    rfl
   refine ⟨⟨by omega, by omega⟩, evAt (l.take 301) x, isEv_self _, ⟨by omega, by omega, by omega⟩, x + 1, by rw [wrap64] <;> omega, ⟨?_, ?_, λ i hi => ?_⟩, by omega, by omega⟩
   ·rw [hstep, List.length_append]; rfl
   ·rw [hstep, List.length_append]; exact Nat.le_refl _
   ·rw [hstep] at hi ⊢
    exact app_at Ev.av ((fewL l).take x) (shortE (evAt (l.take 301) x)) ev0 i hi
  ·have hxl : (fewL l).take x = fewL l := List.take_of_length_le (by omega)
   rw [hxl]
   refine ⟨by omega, (), ⟨rfl, λ i _ => congrArg Ev.av (by rw [Nat.zero_add])⟩, h⟩
 ·exact h.elim
end Go.Proofs.Sz

namespace Go.Proofs.Sz
open Go Go.Am Go.SP
theorem ne_len {α : Type} [BEq α] [LawfulBEq α] {a b : List α} (h : ((a.length : Int) != (b.length : Int)) = true) : (a == b) = false := beq_eq_false_iff_ne.2 λ e => by rw [e] at h; simp at h
theorem eq_len {α : Type} {a b : List α} (h : ((a.length : Int) != (b.length : Int)) = false) : a.length = b.length := by
 simp at h
 omega
theorem XSame5 : EntOk Tryz.prog 58 (.lend TSameMap) := by
 refine ⟨Am.enters_of Tryz.func58 (by kernel_rfl) (by kernel_rfl), λ args R h => ?_⟩
 unfold TSameMap at h
 split at h
 ·rename_i x y
  obtain ⟨a, b, ⟨hx, hy⟩, h⟩ := h
  refine Spec.args (args' := [.agg [mapAV a], .agg [mapAV b]]) ⟨⟨hx, trivial⟩, ⟨hy, trivial⟩, trivial⟩ (Spec.givenD λ hg => ?_)
  obtain ⟨⟨ga, _⟩, ⟨gb, _⟩, _⟩ := hg
  refine mkSo (vSame5 a b (λ i => i <= a.length /\ a.length = b.length /\ a.take i = b.take i) R) (tb az) Tryz.func58 (by kernel_rfl) ?_
  have hmx := maxLen_eq
  simp only [true_and, and_true, and_self, implies_true, forall_const, gEq_true, gEq_false, nonneg_iff, natle_iff, decide_eq_true_eq, decide_eq_false_iff_not, Int.toNat_natCast, cond_bt, cond_bf, Bool.cond_true, Bool.cond_false, Bool.not_true, Bool.not_false, reduceCtorEq, false_implies, implies_true, Bool.true_eq_false, Bool.false_eq_true, Bool.not_eq_true', Bool.not_eq_false', bs_size, bs_data, bs_toList, bs_extract, bs_append, bs_mk, byteF] at h ⊢
  refine ⟨λ hne => ?_, λ hne => ?_⟩
  ·rw [ne_len hne] at h
   exact h
  ·have hl := eq_len hne
   refine ⟨⟨0, rfl, Nat.zero_le _, hl, by simp⟩, λ i hi => ⟨λ hlt => ⟨⟨by omega, by omega⟩, ⟨by omega, by omega⟩, ⟨by omega, by omega⟩, ⟨by omega, by omega⟩, λ hb => ?_, λ hb => ?_⟩, λ hge => ?_⟩⟩
   ·have : (a == b) = false := beq_eq_false_iff_ne.2 λ e => by
     have e2 := getD_len a b ([], []) i e
     rw [e2] at hb; simp at hb
    rw [this] at h
    exact h
   ·have e : a.getD i ([], []) = b.getD i ([], []) := by
     simp at hb; exact Prod.ext hb.1 hb.2
    exact ⟨i + 1, by rw [wrap64] <;> omega, ⟨by omega, hl, take_eq_step a b ([], []) i (by omega) (by omega) hi.2.2 e⟩, by omega⟩
   ·have h8 : i = a.length := by omega
    obtain ⟨_, _, h9⟩ := hi
    rw [h8, List.take_length, hl, List.take_length] at h9
    rw [beq_iff_eq.2 h9] at h
    exact h
 ·exact h.elim
theorem XSameEdit5 : EntOk Tryz.prog 59 (.lend TSameEdit) := by
 refine ⟨Am.enters_of Tryz.func59 (by kernel_rfl) (by kernel_rfl), λ args R h => ?_⟩
 unfold TSameEdit at h
 split at h
 ·rename_i x y
  obtain ⟨a, b, ⟨hx, hy⟩, h⟩ := h
  refine Spec.args (args' := [.agg [editAV a], .agg [editAV b]]) ⟨⟨hx, trivial⟩, ⟨hy, trivial⟩, trivial⟩ (Spec.givenD λ hg => ?_)
  obtain ⟨⟨ga, _⟩, ⟨gb, _⟩, _⟩ := hg
  refine mkSo (vSameEdit5 a b (λ i => i <= a.length /\ a.length = b.length /\ a.take i = b.take i) R) (tb az) Tryz.func59 (by kernel_rfl) ?_
  have hmx := maxLen_eq
  simp only [true_and, and_true, and_self, implies_true, forall_const, gEq_true, gEq_false, nonneg_iff, natle_iff, decide_eq_true_eq, decide_eq_false_iff_not, Int.toNat_natCast, cond_bt, cond_bf, Bool.cond_true, Bool.cond_false, Bool.not_true, Bool.not_false, reduceCtorEq, false_implies, implies_true, Bool.true_eq_false, Bool.false_eq_true, Bool.not_eq_true', Bool.not_eq_false', bs_size, bs_data, bs_toList, bs_extract, bs_append, bs_mk, byteF] at h ⊢
  refine ⟨λ hne => ?_, λ hne => ?_⟩
  ·rw [ne_len hne] at h
   exact h
  ·have hl := eq_len hne
   refine ⟨⟨0, rfl, Nat.zero_le _, hl, by simp⟩, λ i hi => ⟨λ hlt => ⟨⟨by omega, by omega⟩, ⟨by omega, by omega⟩, ⟨by omega, by omega⟩, ⟨by omega, by omega⟩, λ hb => ?_, λ hb => ?_⟩, λ hge => ?_⟩⟩
   ·have : (a == b) = false := beq_eq_false_iff_ne.2 λ e => by
     have e2 := getD_len a b ([], false, []) i e
     rw [e2] at hb; simp at hb
    rw [this] at h
    exact h
   ·have e : a.getD i ([], false, []) = b.getD i ([], false, []) := by
     simp at hb; exact Prod.ext hb.1 (Prod.ext hb.2.1 hb.2.2)
    exact ⟨i + 1, by rw [wrap64] <;> omega, ⟨by omega, hl, take_eq_step a b ([], false, []) i (by omega) (by omega) hi.2.2 e⟩, by omega⟩
   ·have h8 : i = a.length := by omega
    obtain ⟨_, _, h9⟩ := hi
    rw [h8, List.take_length, hl, List.take_length] at h9
    rw [beq_iff_eq.2 h9] at h
    exact h
 ·exact h.elim
def flatR (a b : Ev) : Bool := a.ck == b.ck && a.client == b.client && a.seq == b.seq && a.cbranch == b.cbranch && ((List.range 32).all λ i => a.old i == b.old i) && ((List.range 32).all λ i => a.new i == b.new i) && a.kind == b.kind && a.node == b.node && a.to == b.to && a.n == b.n && a.branch == b.branch && (a.author == b.author && a.note == b.note)
theorem sameE_R (a b : Ev) : sameE a b = ((a.data == b.data) && (a.keep == b.keep) && (a.conf == b.conf) && flatR a b && ((a.map == b.map) && (a.edit == b.edit))) := by
 simp only [sameE, idEq, flatR]
 ac_rfl
theorem XSameEvR : EntOk Tryz.prog 29 (.lend TSameEv) := by
 refine ⟨Am.enters_of Tryz.func29 (by kernel_rfl) (by kernel_rfl), λ args R h => ?_⟩
 unfold TSameEv at h
 split at h
 ·rename_i x y
  obtain ⟨a, b, ⟨hx, hy⟩, h⟩ := h
  refine Spec.args (args' := [a.av, b.av]) ⟨hx, hy, trivial⟩ (Spec.givenD λ hg => ?_)
  refine mkSo (vSameEvR a b (λ i => i <= a.keep.length /\ (a.keep.length = b.keep.length /\ a.conf.length = b.conf.length /\ (a.data == b.data) = true) /\ a.keep.take i = b.keep.take i) (λ i => i <= a.conf.length /\ ((a.keep == b.keep) = true /\ a.conf.length = b.conf.length /\ (a.data == b.data) = true) /\ a.conf.take i = b.conf.take i) R) (tb (ac XSame5 (ac XSameEdit5 az))) Tryz.func29 (by kernel_rfl) ?_
  have hmx := maxLen_eq
  have hs := sameE_R a b
  simp only [true_and, and_true, and_self, implies_true, forall_const, gEq_true, gEq_false, nonneg_iff, natle_iff, decide_eq_true_eq, decide_eq_false_iff_not, Int.toNat_natCast, cond_bt, cond_bf, Bool.cond_true, Bool.cond_false, Bool.not_true, Bool.not_false, reduceCtorEq, false_implies, implies_true, Bool.true_eq_false, Bool.false_eq_true, Bool.not_eq_true', Bool.not_eq_false', bs_size, bs_data, bs_toList, bs_extract, bs_append, bs_mk, byteF, Bool.true_and, Bool.and_true, Bool.false_and, true_implies]
  obtain ⟨⟨g1, g2, _⟩, ⟨g3, g4, _⟩, _⟩ := hg
  have fal : sameE a b = false -> R (bl false) [] := λ e => by rw [e] at h; exact h
  refine ⟨λ hl => ?_, λ hl => fal ?_⟩
  ·have hk : a.keep.length = b.keep.length := by simp at hl; omega
   have hc : a.conf.length = b.conf.length := by simp at hl; omega
   refine ⟨bs a.data, bs_size _, λ i _ => by rw [bs_data], bs b.data, bs_size _, λ i _ => by rw [bs_data], λ hd => fal ?_, λ hd => ?_⟩
   ·rw [bs_toList, bs_toList] at hd
    rw [hs, hd]
    rfl
   rw [bs_toList, bs_toList] at hd
   refine ⟨⟨0, rfl, Nat.zero_le _, ⟨hk, hc, hd⟩, by simp⟩, λ i hi => ⟨λ hlt => ⟨⟨by omega, by omega⟩, ⟨by omega, by omega⟩, ⟨by omega, by omega⟩, ⟨by omega, by omega⟩, λ hb => fal ?_, λ hb => ⟨i + 1, by rw [wrap64] <;> omega, ⟨by omega, hi.2.1, take_eq_step a.keep b.keep false i (by omega) (by omega) hi.2.2 (by simpa using hb)⟩, by omega⟩⟩, λ hge => ?_⟩⟩
   ·have : (a.keep == b.keep) = false := beq_eq_false_iff_ne.2 λ e => by rw [e] at hb; simp at hb
    rw [hs, this]
    simp
   have hke : (a.keep == b.keep) = true := by
    have h8 : i = a.keep.length := by omega
    have h9 := hi.2.2
    rw [h8, List.take_length, hk, List.take_length] at h9
    exact beq_iff_eq.2 h9
   refine ⟨⟨0, rfl, Nat.zero_le _, ⟨hke, hc, hd⟩, by simp⟩, λ j hj => ⟨λ hlt => ⟨⟨by omega, by omega⟩, ⟨by omega, by omega⟩, ⟨by omega, by omega⟩, ⟨by omega, by omega⟩, λ hb => fal ?_, λ hb => ⟨j + 1, by rw [wrap64] <;> omega, ⟨by omega, hj.2.1, take_eq_step a.conf b.conf 0 j (by omega) (by omega) hj.2.2 (by simpa using hb)⟩, by omega⟩⟩, λ hge2 => ?_⟩⟩
   ·have : (a.conf == b.conf) = false := beq_eq_false_iff_ne.2 λ e => by rw [e] at hb; simp at hb
    rw [hs, this]
    simp
   have hce : (a.conf == b.conf) = true := by
    have h8 : j = a.conf.length := by omega
    have h9 := hj.2.2
    rw [h8, List.take_length, hc, List.take_length] at h9
    exact beq_iff_eq.2 h9
   rw [hd, hke, hce] at hs
   refine ⟨λ (hf : flatR a b = true) => ⟨a.map, b.map, ⟨isMap_self _, isMap_self _⟩, λ hm => ⟨a.edit, b.edit, ⟨isEdit_self _, isEdit_self _⟩, ?_⟩, λ hm => fal ?_⟩, λ (hf : flatR a b = false) => fal ?_⟩
   ·rw [hf, hm] at hs
    rw [hs] at h
    simpa using h
   ·rw [hs, hf, hm]
    rfl
   ·rw [hs, hf]
    rfl
  ·rw [Bool.or_eq_true] at hl
   rcases hl with hl | hl
   ·rw [hs, ne_len hl]
    simp
   ·rw [hs, ne_len hl]
    simp
 ·exact h.elim
theorem XSameScR : EntOk Tryz.prog 12 (.lend TSameSc) := by
 refine ⟨Am.enters_of Tryz.func12 (by kernel_rfl) (by kernel_rfl), λ args R h => ?_⟩
 unfold TSameSc at h
 split at h
 ·rename_i a b c x d e f y
  obtain ⟨l, m, ⟨hx, hy⟩, h⟩ := h
  refine Spec.argsD (args' := [.agg [nm a, nm b, nm c, evsAV l], .agg [nm d, nm e, nm f, evsAV m]]) ⟨.cons (.pl _) rfl (.cons (.pl _) rfl (.cons (.pl _) rfl (.cons (.of_leR hx) (evs_cw hx) .nil))), .cons (.pl _) rfl (.cons (.pl _) rfl (.cons (.pl _) rfl (.cons (.of_leR hy) (evs_cw hy) .nil))), trivial⟩ (Spec.givenD λ hg => ?_)
  obtain ⟨⟨ga, _⟩, ⟨gb, _⟩, _⟩ := hg
  have hmx := maxLen_eq
  refine mkSo (vSameScR a b c d e f l m (λ i => i <= l.length /\ l.length = m.length /\ (a == d && b == e && c == f) = true /\ ∀ j, j < i -> sameE (evAt l j) (evAt m j) = true) R) (tb (ac XSameEvR az)) Tryz.func12 (by kernel_rfl) ?_
  simp only [true_and, and_true, and_self, implies_true, forall_const, gEq_true, gEq_false, nonneg_iff, natle_iff, decide_eq_true_eq, decide_eq_false_iff_not, Int.toNat_natCast, cond_bt, cond_bf, Bool.cond_true, Bool.cond_false, Bool.not_true, Bool.not_false, reduceCtorEq, false_implies, implies_true, Bool.true_eq_false, Bool.false_eq_true, Bool.not_eq_true', Bool.not_eq_false', bs_size, bs_data, bs_toList, bs_extract, bs_append, bs_mk, byteF, Bool.and_true] at h ⊢
  have hne : l.length ≠ m.length -> sameEvs l m = false := λ hc => by rw [sameEvs, beq_eq_false_iff_ne.2 hc]; rfl
  have hA : (a == d && (b == e && c == f)) = (a == d && b == e && c == f) := by rw [Bool.and_assoc]
  rw [hA]
  refine ⟨λ hq => ?_, λ hq => ?_⟩
  ·have : (a == d && b == e && c == f && sameEvs l m) = false := by
    cases hb : (a == d && b == e && c == f) with
    | false => rfl
    | true =>
     rw [hb] at hq
     rw [hne λ ee => by rw [ee] at hq; simp at hq]
     rfl
   rw [this] at h
   exact h
  ·have hb : (a == d && b == e && c == f) = true := by
    cases hb : (a == d && b == e && c == f) with
    | true => rfl
    | false => rw [hb] at hq; cases hq
   rw [hb] at hq h
   have hl : l.length = m.length := eq_len hq
   refine ⟨⟨0, rfl, Nat.zero_le _, hl, hb, λ j hj => absurd hj (Nat.not_lt_zero j)⟩, λ i hi => ⟨λ hlt => ⟨⟨by omega, by omega⟩, ⟨by omega, by omega⟩, ⟨by omega, by omega⟩, ⟨by omega, by omega⟩, evAt l i, evAt m i, ⟨isEv_self _, isEv_self _⟩, λ hs => ?_, λ hs => ⟨i + 1, by rw [wrap64] <;> omega, ⟨by omega, hl, hb, λ j hj => ?_⟩, by omega⟩⟩, λ hge => ?_⟩⟩
   ·have : sameEvs l m = false := by
     rw [Bool.eq_false_iff]
     intro hc
     rw [sameEvs, Bool.and_eq_true, List.all_eq_true] at hc
     have := hc.2 i (List.mem_range.2 (by omega))
     rw [hs] at this
     cases this
    rw [this] at h
    exact h
   ·rcases Nat.lt_or_ge j i with q | q
    ·exact hi.2.2.2 j q
    ·rw [show j = i by omega]; exact hs
   ·have : sameEvs l m = true := by
     rw [sameEvs, Bool.and_eq_true, List.all_eq_true, beq_iff_eq]
     exact ⟨hl, λ j hj => hi.2.2.2 j (by have := List.mem_range.1 hj; omega)⟩
    rw [this] at h
    exact h
 ·exact h.elim
end Go.Proofs.Sz

namespace Go.Proofs.Sz
open Go Go.Am Go.SP
set_option maxRecDepth 20000
theorem wordK_nil (k : Int) : (wordK k == []) = (decide (k < 1) || decide (15 < k)) := by
 unfold wordK
 cases hq : decide (k < 1) || decide (15 < k)
 ·have hk : 1 <= k /\ k <= 15 := by simp at hq; omega
  obtain rfl | rfl | rfl | rfl | rfl | rfl | rfl | rfl | rfl | rfl | rfl | rfl | rfl | rfl | rfl := kinds hk.1 hk.2 <;> decide
 ·rfl
def badG (e : Ev) : Bool := decide (e.kind < 1) || decide (15 < e.kind) || decide (2048 < e.keep.length) || decide (40 < e.conf.length) || decide (40 < e.map.length) || decide (40 < e.edit.length)
def badE (r : Bs × Bool × Bs) : Bool := !r.2.1 && !(r.2.2 == [])
theorem any_two {α : Type} (l : List α) (f g : α -> Bs) (p : Bs -> Bool) : (l.flatMap λ r => [f r, g r]).any p = l.any λ r => p (f r) || p (g r) := by
 induction l with
 | nil => rfl
 | cons a l ih => simp only [List.flatMap_cons, List.any_append, ih, List.any_cons, List.any_nil, Bool.or_false]
theorem any_or {α : Type} (l : List α) (p q : α -> Bool) : (l.any λ r => p r || q r) = (l.any p || l.any q) := by
 induction l with
 | nil => rfl
 | cons a l ih => simp only [List.any_cons, ih]; cases p a <;> cases q a <;> simp
theorem wrongE_all (e : Ev) : wrongE e = (badG e || (textsD e e.edit.length).any longB || e.edit.any badE || !sameE e (spokenE e)) := by
 have h1 : (textsD e e.edit.length).any longB = ((longB e.branch || longB e.note || longB e.cbranch) || e.map.any (λ r => longB r.1 || longB r.2) || e.edit.any (λ r => longB r.1 || longB r.2.2)) := by
  simp only [textsD, textsM, List.take_length, List.any_append, any_two, List.any_cons, List.any_nil, Bool.or_false, Bool.or_assoc]
 have h2 : (e.edit.any λ r => longB r.1 || longB r.2.2 || (!r.2.1 && !(r.2.2 == []))) = (e.edit.any (λ r => longB r.1 || longB r.2.2) || e.edit.any badE) := any_or e.edit (λ r => longB r.1 || longB r.2.2) badE
 rw [wrongE, h1, h2, badG]
 ac_rfl
theorem flat_snoc {α : Type} (l : List α) (d : α) (g : α -> List Bs) (x : Nat) (h : x < l.length) : (l.take (x + 1)).flatMap g = (l.take x).flatMap g ++ g (l.getD x d) := by
 rw [List.take_succ_eq_append_getElem h, List.flatMap_append, List.getD_eq_getElem?_getD, List.getElem?_eq_getElem h]
 simp
theorem flat_len {α : Type} (l : List α) (f g : α -> Bs) : (l.flatMap λ r => [f r, g r]).length = 2 * l.length := by
 induction l with
 | nil => rfl
 | cons a l ih => simp only [List.flatMap_cons, List.length_append, ih, List.length_cons, List.length_nil]; omega
theorem textsM_snoc (e : Ev) (x : Nat) (h : x < e.map.length) : textsM e (x + 1) = textsM e x ++ [(e.map.getD x ([], [])).1, (e.map.getD x ([], [])).2] := by
 rw [textsM, textsM, flat_snoc e.map ([], []) _ x h, List.append_assoc]
theorem textsD_snoc (e : Ev) (x : Nat) (h : x < e.edit.length) : textsD e (x + 1) = textsD e x ++ [(e.edit.getD x ([], false, [])).1, (e.edit.getD x ([], false, [])).2.2] := by
 rw [textsD, textsD, flat_snoc e.edit ([], false, []) _ x h, List.append_assoc]
theorem textsM_len (e : Ev) (x : Nat) (h : x <= e.map.length) : (textsM e x).length = 3 + 2 * x := by
 rw [textsM, List.length_append, flat_len, List.length_take]
 simp only [List.length_cons, List.length_nil]
 omega
theorem textsD_len (e : Ev) (x : Nat) (h : x <= e.edit.length) : (textsD e x).length = 3 + 2 * e.map.length + 2 * x := by
 rw [textsD, List.length_append, flat_len, List.length_take, textsM_len e _ (Nat.le_refl _)]
 omega
theorem textsD_zero (e : Ev) : textsD e 0 = textsM e e.map.length := by simp [textsD]
theorem row2 (a b : Bs) : ∀ j, j < [a, b].length -> rowOf [(0, sl a), (1, sl b)] j = sl ([a, b].getD j []) := by
 intro j hj
 have : j = 0 ∨ j = 1 := by simp at hj; omega
 rcases this with rfl | rfl <;> rfl
theorem row3 (a b c : Bs) : ∀ j, j < [a, b, c].length -> rowOf [(0, sl a), (1, sl b), (2, sl c)] j = sl ([a, b, c].getD j []) := by
 intro j hj
 have : j = 0 ∨ j = 1 ∨ j = 2 := by simp at hj; omega
 rcases this with rfl | rfl | rfl <;> rfl
theorem any_false_of {α : Type} (l : List α) (d : α) (p : α -> Bool) (h : ∀ j, j < l.length -> p (l.getD j d) = false) : l.any p = false := by
 rw [List.any_eq_false]
 intro x hx
 obtain ⟨i, hi, rfl⟩ := List.getElem_of_mem hx
 have := h i hi
 rw [List.getD_eq_getElem?_getD, List.getElem?_eq_getElem hi] at this
 rw [Option.getD_some] at this
 rw [this]
 exact Bool.false_ne_true
theorem any_true_of {α : Type} (l : List α) (d : α) (p : α -> Bool) (j : Nat) (hj : j < l.length) (h : p (l.getD j d) = true) : l.any p = true := by
 rw [List.any_eq_true]
 refine ⟨l[j], List.getElem_mem hj, ?_⟩
 rw [List.getD_eq_getElem?_getD, List.getElem?_eq_getElem hj] at h
 exact h
theorem badG_le {e : Ev} (h : badG e = false) : KindOk e /\ e.map.length <= 40 /\ e.edit.length <= 40 := by
 simp only [badG, Bool.or_eq_false_iff, decide_eq_false_iff_not] at h
 exact ⟨⟨by omega, by omega⟩, by omega, by omega⟩
theorem guardE (e : Ev) : (wordK e.kind == [] || decide (((e.keep.length : Nat) : Int) > 2048) || decide (((e.conf.length : Nat) : Int) > 40) || decide (((e.map.length : Nat) : Int) > 40) || decide (((e.edit.length : Nat) : Int) > 40)) = badG e := by
 rw [wordK_nil, badG]
 have hd : ∀ {p q : Prop} [Decidable p] [Decidable q], (p ↔ q) -> decide p = decide q := λ hpq => decide_eq_decide.2 hpq
 rw [hd (show ((e.keep.length : Nat) : Int) > 2048 ↔ 2048 < e.keep.length by omega), hd (show ((e.conf.length : Nat) : Int) > 40 ↔ 40 < e.conf.length by omega), hd (show ((e.map.length : Nat) : Int) > 40 ↔ 40 < e.map.length by omega), hd (show ((e.edit.length : Nat) : Int) > 40 ↔ 40 < e.edit.length by omega)]
theorem XEventR : EntOk Tryz.prog 26 (.lend TEventR) := by
 refine ⟨Am.enters_of Tryz.func26 (by kernel_rfl) (by kernel_rfl), λ args R h => ?_⟩
 unfold TEventR at h
 split at h
 ·rename_i x
  obtain ⟨e, ⟨hx, hok⟩, h⟩ := h
  refine Spec.args (args' := [e.av]) ⟨hx, trivial⟩ ?_
  refine mkSo (vEventR e (λ i => i <= e.map.length /\ badG e = false) (λ i => i <= e.edit.length /\ badG e = false /\ ∀ j, j < i -> badE (e.edit.getD j ([], false, [])) = false) (λ i => i <= (textsD e e.edit.length).length /\ badG e = false /\ e.edit.any badE = false /\ ∀ j, j < i -> longB ((textsD e e.edit.length).getD j []) = false) R) (tb (ac XWord (ac XSaid (ac XSameEvR az)))) Tryz.func26 (by kernel_rfl) ?_
  simp only [true_and, and_true, and_self, implies_true, forall_const, gEq_true, gEq_false, nonneg_iff, natle_iff, decide_eq_true_eq, decide_eq_false_iff_not, Int.toNat_natCast, cond_bt, cond_bf, Bool.cond_true, Bool.cond_false, Bool.not_true, Bool.not_false, reduceCtorEq, false_implies, implies_true, Bool.true_eq_false, Bool.false_eq_true, Bool.not_eq_true', Bool.not_eq_false', bs_size, bs_data, bs_toList, bs_extract, bs_append, bs_mk, byteF, true_imp_iff, guardE]
  have hm : 1000 <= maxLen := by decide
  refine ⟨λ hq => ?_, λ hq => ⟨⟨0, ⟨textsM_len e 0 (Nat.zero_le _) ▸ rfl, rfl⟩, ⟨by rw [textsM_len e 0 (Nat.zero_le _)]; exact Nat.le_refl _, λ i hi => ?_⟩, Nat.zero_le _, hq⟩, λ x hx => ⟨λ hlt => ?_, λ hge => ⟨⟨0, ⟨by rw [textsD_zero, show x = e.map.length by omega], rfl⟩, ⟨by rw [textsD_zero, show x = e.map.length by omega]; exact Nat.le_refl _, λ i _ => by rw [textsD_zero, show x = e.map.length by omega]⟩, Nat.zero_le _, hq, λ j hj => absurd hj (Nat.not_lt_zero _)⟩, λ y hy => ⟨λ hlt => ?_, λ hge2 => ?_⟩⟩⟩⟩⟩
  ·rw [wrongE_all, hq] at h
   exact h
  ·rw [textsM, List.take_zero, List.flatMap_nil, List.append_nil] at hi ⊢
   exact row3 _ _ _ i hi
  ·have hlt' : x < e.map.length := by omega
   obtain ⟨_, hb1, hb2⟩ := badG_le hq
   have hL := textsM_len e x hx.1
   have hL2 := textsM_len e (x + 1) hlt'
   refine ⟨⟨by omega, by omega⟩, ⟨by omega, by omega, by omega⟩, x + 1, ⟨by omega, by rw [wrap64 (by omega) (by omega)]; omega⟩, ⟨by omega, λ i hi => ?_⟩, ⟨hlt', hq⟩, by omega⟩
   rw [textsM_snoc e x hlt'] at hi ⊢
   exact appN sl (textsM e x) _ [] _ (row2 _ _) i hi
  ·have hlt' : y < e.edit.length := by omega
   obtain ⟨_, hb1, hb2⟩ := badG_le hq
   have hL := textsD_len e y hy.1
   have hL2 := textsD_len e (y + 1) hlt'
   refine ⟨⟨by omega, by omega⟩, ⟨by omega, by omega, by omega⟩, λ hb => ?_, λ hb => ⟨y + 1, ⟨by omega, by rw [wrap64 (by omega) (by omega)]; omega⟩, ⟨by omega, λ i hi => ?_⟩, ⟨hlt', hq, λ j hj => ?_⟩, by omega⟩⟩
   ·have : e.edit.any badE = true := any_true_of e.edit ([], false, []) badE y hlt' hb
    rw [wrongE_all, this, Bool.or_true, Bool.true_or] at h
    exact h
   ·rw [textsD_snoc e y hlt'] at hi ⊢
    exact appN sl (textsD e y) _ [] _ (row2 _ _) i hi
   ·rcases Nat.lt_or_eq_of_le (Nat.le_of_lt_succ hj) with hj | rfl
    ·exact hy.2.2 j hj
    ·exact hb
  ·have hyl : y = e.edit.length := by omega
   subst hyl
   have hE : e.edit.any badE = false := any_false_of e.edit ([], false, []) badE hy.2.2
   obtain ⟨hk, hb1, hb2⟩ := badG_le hq
   have hL := textsD_len e _ (Nat.le_refl e.edit.length)
   refine ⟨⟨0, ⟨rfl, rfl, rfl⟩, ⟨Nat.le_refl _, λ _ _ => rfl⟩, Nat.zero_le _, hq, hE, λ j hj => absurd hj (Nat.not_lt_zero _)⟩, λ z hz => ⟨λ hlt => ⟨⟨by omega, by omega⟩, by omega, λ hb => ?_, λ hb => ⟨z + 1, by rw [wrap64 (by omega) (by omega)]; omega, Nat.le_refl _, ⟨by omega, hq, hE, λ j hj => ?_⟩, by omega⟩⟩, λ hge3 => ⟨e, ⟨isEv_self e, hk, hok⟩, e, spokenE e, ⟨isEv_self e, isEv_self _⟩, ?_⟩⟩⟩
   ·rw [Nat.zero_add] at hb
    have : (textsD e e.edit.length).any longB = true := any_true_of _ [] longB z (by omega) (by rw [longB]; exact decide_eq_true (by omega))
    rw [wrongE_all, this, Bool.or_true, Bool.true_or, Bool.true_or] at h
    exact h
   ·rcases Nat.lt_or_eq_of_le (Nat.le_of_lt_succ hj) with hj | rfl
    ·exact hz.2.2.2 j hj
    ·rw [Nat.zero_add] at hb
     rw [longB]
     exact decide_eq_false (by omega)
   ·have hzl : z = (textsD e e.edit.length).length := by omega
    subst hzl
    have hT : (textsD e e.edit.length).any longB = false := any_false_of _ [] longB hz.2.2.2
    rw [wrongE_all, hq, hT, hE, Bool.false_or, Bool.false_or, Bool.false_or, Bool.not_not] at h
    exact h
 ·exact h.elim
theorem XRight : EntOk Tryz.prog 10 (.lend TRight) := by
 refine ⟨Am.enters_of Tryz.func10 (by kernel_rfl) (by kernel_rfl), λ args R h => ?_⟩
 unfold TRight at h
 split at h
 ·rename_i a b c x
  obtain ⟨l, ⟨hx, hok⟩, h⟩ := h
  refine Spec.argsD (args' := [.agg [nm a, nm b, nm c, evsAV l]]) ⟨.cons (.pl _) rfl (.cons (.pl _) rfl (.cons (.pl _) rfl (.cons (.of_leR hx) (evs_cw hx) .nil))), trivial⟩ ?_
  refine mkSo (vRight a b c l (λ i => i <= l.length /\ l.length <= 300 /\ ∀ j, j < i -> wrongE (evAt l j) = false) R) (tb (ac XEventR az)) Tryz.func10 (by kernel_rfl) ?_
  simp only [true_and, and_true, and_self, implies_true, forall_const, gEq_true, gEq_false, nonneg_iff, natle_iff, decide_eq_true_eq, decide_eq_false_iff_not, Int.toNat_natCast, cond_bt, cond_bf, Bool.cond_true, Bool.cond_false, Bool.not_true, Bool.not_false, reduceCtorEq, false_implies, implies_true, Bool.true_eq_false, Bool.false_eq_true, Bool.not_eq_true', Bool.not_eq_false', bs_size, bs_data, bs_toList, bs_extract, bs_append, bs_mk, byteF, true_imp_iff]
  have hmem : ∀ j, j < l.length -> evAt l j ∈ l := λ j hj => by
   rw [evAt, List.getD_eq_getElem?_getD, List.getElem?_eq_getElem hj]
   exact List.getElem_mem hj
  refine ⟨λ hq => ?_, λ hq => ⟨⟨0, rfl, Nat.zero_le _, by omega, λ j hj => absurd hj (Nat.not_lt_zero _)⟩, λ x hx => ⟨λ hlt => ⟨⟨by omega, by omega⟩, evAt l x, ⟨isEv_self _, hok _ (hmem x (by omega))⟩, λ hw => ?_, λ hw => ⟨x + 1, by rw [wrap64 (by omega) (by omega)]; omega, ⟨by omega, hx.2.1, λ j hj => ?_⟩, by omega⟩⟩, λ hge => ?_⟩⟩⟩
  ·rw [checkE, decide_eq_true (show 300 < l.length by omega)] at h
   exact h
  ·have : l.any wrongE = true := List.any_eq_true.2 ⟨_, hmem x (by omega), hw⟩
   rw [checkE, this, Bool.or_true] at h
   exact h
  ·rcases Nat.lt_or_eq_of_le (Nat.le_of_lt_succ hj) with hj | rfl
   ·exact hx.2.2 j hj
   ·exact hw
  ·have : l.any wrongE = false := by
    rw [List.any_eq_false]
    intro e he
    obtain ⟨i, hi, rfl⟩ := List.getElem_of_mem he
    have h9 := hx.2.2 i (by omega)
    rw [evAt, List.getD_eq_getElem?_getD, List.getElem?_eq_getElem hi, Option.getD_some] at h9
    rw [h9]
    exact Bool.false_ne_true
   rw [checkE, this, decide_eq_false (show ¬ 300 < l.length by omega)] at h
   exact h
 ·exact h.elim
end Go.Proofs.Sz

namespace Go.Proofs.Sz
open Go Go.Am Go.SP
set_option maxRecDepth 20000
theorem long_le {s : Bs} (h : longB s = false) : s.length <= 100000 := by
 rw [longB, decide_eq_false_iff_not] at h
 omega
theorem getD_mem {α : Type} {l : List α} {d : α} {x : Nat} (h : x < l.length) : l.getD x d ∈ l := by
 rw [List.getD_eq_getElem?_getD, List.getElem?_eq_getElem h]
 exact List.getElem_mem h
structure RightE (e : Ev) : Prop where
 k : KindOk e
 keep : e.keep.length <= 2048
 conf : e.conf.length <= 40
 map : e.map.length <= 40
 edit : e.edit.length <= 40
 br : e.branch.length <= 100000
 note : e.note.length <= 100000
 cbr : e.cbranch.length <= 100000
 mapT : ∀ x, x < e.map.length -> (e.map.getD x ([], [])).1.length <= 100000 /\ (e.map.getD x ([], [])).2.length <= 100000
 editT : ∀ x, x < e.edit.length -> (e.edit.getD x ([], false, [])).1.length <= 100000 /\ (e.edit.getD x ([], false, [])).2.2.length <= 100000
 confE : e.conf = bif e.kind == 10 then e.conf else []
 mapE : e.map = bif e.kind == 11 then e.map else []
 editE : e.edit = bif e.kind == 12 || e.kind == 13 then e.edit else []
theorem right_of {e : Ev} (hw : wrongE e = false) : RightE e := by
 simp only [wrongE, Bool.or_eq_false_iff, decide_eq_false_iff_not, Bool.not_eq_false'] at hw
 obtain ⟨⟨⟨⟨⟨⟨⟨h1, h2⟩, h3⟩, h4⟩, ⟨h5, h6⟩, h7⟩, ⟨h8, h9⟩, h10⟩, h11⟩, h12⟩ := hw
 simp only [sameE, Bool.and_eq_true] at h3
 obtain ⟨_, ⟨⟨⟨_, hc⟩, hm⟩, he⟩⟩ := h3
 rw [List.any_eq_false] at h11 h12
 refine ⟨⟨by omega, by omega⟩, by omega, by omega, by omega, by omega, long_le h8, long_le h9, long_le h10, λ x hx => ?_, λ x hx => ?_, eq_of_beq hc, eq_of_beq hm, eq_of_beq he⟩
 ·have := h11 _ (getD_mem (d := ([], [])) hx)
  rw [Bool.not_eq_true, Bool.or_eq_false_iff] at this
  exact ⟨long_le this.1, long_le this.2⟩
 ·have := h12 _ (getD_mem (d := ([], false, [])) hx)
  rw [Bool.not_eq_true, Bool.or_eq_false_iff, Bool.or_eq_false_iff] at this
  exact ⟨long_le this.1.1, long_le this.1.2⟩
theorem numsE_len (e : Ev) : (numsE e).length <= 3 := by
 unfold numsE fieldsV
 cases kNN e.kind <;> cases kN e.kind <;> cases kNT e.kind <;> cases k1 e.kind <;> cases e.kind == 14 <;> cases stampedK e.kind <;> simp
theorem numsE_in {e : Ev} (h : EvOk e) (x : Nat) (hx : x < (numsE e).length) : -9223372036854775808 <= (numsE e).getD x 0 /\ (numsE e).getD x 0 <= 9223372036854775807 := by
 obtain ⟨_, a1, a2, a3, _, a4, a5, _⟩ := h
 have : ∀ v ∈ numsE e, -9223372036854775808 <= v /\ v <= 9223372036854775807 := by
  intro v hv
  have b5 : -9223372036854775808 <= e.author /\ e.author <= 9223372036854775807 := ⟨by omega, by omega⟩
  have hf : ∀ v ∈ fieldsV e, v = e.node ∨ v = e.n ∨ v = e.to ∨ v = e.ck := by
   intro v hv
   unfold fieldsV at hv
   revert hv
   cases kNN e.kind <;> cases kN e.kind <;> cases kNT e.kind <;> cases k1 e.kind <;> cases e.kind == 14 <;> simp <;> (intro hv; try rcases hv with hv | hv) <;> simp [hv]
  rw [numsE, List.mem_append] at hv
  rcases hv with hv | hv
  ·rcases hf v hv with rfl | rfl | rfl | rfl
   ·exact a1
   ·exact a3
   ·exact a2
   ·exact a4
  ·cases hs : stampedK e.kind with
   | false => rw [hs] at hv; cases hv
   | true =>
    rw [hs] at hv
    rw [List.mem_singleton.1 hv]
    exact b5
 exact this _ (getD_mem hx)
theorem lineA_len (e : Ev) (i : Nat) (h : i <= (numsE e).length) : (lineA e i).length = 1 + i := by
 rw [lineA, List.length_cons, List.length_map, List.length_take]
 omega
theorem lineC_len (e : Ev) (i : Nat) (h : i <= e.conf.length) : (lineC e i).length = 1 + (numsE e).length + i := by
 rw [lineC, List.length_append, lineA_len e _ (Nat.le_refl _), List.length_map, List.length_take]
 omega
theorem lineM_len (e : Ev) (i : Nat) (h : i <= e.map.length) : (lineM e i).length = 3 + (numsE e).length + 2 * i := by
 rw [lineM, List.length_append, lineA_len e _ (Nat.le_refl _), List.length_append, show rowP = λ r : Bs × Bs => [quo r.1, quo r.2] from rfl, flat_len, List.length_take]
 simp only [List.length_cons, List.length_nil]
 omega
theorem lineD_len (e : Ev) (i : Nat) (h : i <= e.edit.length) : (lineD e i).length = 3 + (numsE e).length + 2 * e.map.length + 2 * i := by
 rw [lineD, List.length_append, lineM_len e _ (Nat.le_refl _), show chgP = λ r : Bs × Bool × Bs => [quo r.1, bif r.2.1 then quo r.2.2 else [45]] from rfl, flat_len, List.length_take]
 omega
theorem map_snoc {α : Type} (l : List α) (d : α) (g : α -> Bs) (x : Nat) (h : x < l.length) : (l.take (x + 1)).map g = (l.take x).map g ++ [g (l.getD x d)] := by
 rw [List.take_succ_eq_append_getElem h, List.map_append, List.getD_eq_getElem?_getD, List.getElem?_eq_getElem h]
 simp
theorem lineA_snoc (e : Ev) (x : Nat) (h : x < (numsE e).length) : lineA e (x + 1) = lineA e x ++ [Lib.itoa ((numsE e).getD x 0)] := by
 rw [lineA, lineA, map_snoc _ 0 _ x h, List.cons_append]
theorem lineC_snoc (e : Ev) (x : Nat) (h : x < e.conf.length) : lineC e (x + 1) = lineC e x ++ [Lib.itoa (e.conf.getD x 0)] := by
 rw [lineC, lineC, map_snoc _ 0 _ x h, List.append_assoc]
theorem lineM_snoc (e : Ev) (x : Nat) (h : x < e.map.length) : lineM e (x + 1) = lineM e x ++ [quo (e.map.getD x ([], [])).1, quo (e.map.getD x ([], [])).2] := by
 rw [lineM, lineM, flat_snoc e.map ([], []) _ x h, rowP]
 simp only [List.append_assoc]
theorem lineD_snoc (e : Ev) (x : Nat) (h : x < e.edit.length) : lineD e (x + 1) = lineD e x ++ [quo (e.edit.getD x ([], false, [])).1, bif (e.edit.getD x ([], false, [])).2.1 then quo (e.edit.getD x ([], false, [])).2.2 else [45]] := by
 rw [lineD, lineD, flat_snoc e.edit ([], false, []) _ x h, chgP]
 simp only [List.append_assoc]
theorem lineD_zero (e : Ev) : lineD e 0 = lineM e e.map.length := by simp [lineD]
theorem lineC_zero (e : Ev) : lineC e 0 = lineA e (numsE e).length := by simp [lineC]
theorem lineM_zero (e : Ev) : lineM e 0 = lineA e (numsE e).length ++ [quo e.branch, quo e.note] := by simp [lineM]
theorem row1 (a : Bs) : ∀ j, j < [a].length -> rowOf [(0, sl a)] j = sl ([a].getD j []) := by
 intro j hj
 have : j = 0 := by simp at hj; omega
 subst this
 rfl
theorem parts1_nums (e : Ev) : lineA e (numsE e).length = wordsL.getD e.kind.toNat [] :: (parts1 e ++ bif stampedK e.kind then [Lib.itoa e.author] else []) := by
 rw [lineA, List.take_length, numsE, List.map_append, parts1]
 cases stampedK e.kind <;> rfl
theorem linePs_D {e : Ev} (r : RightE e) (hk : e.kind = 11 ∨ e.kind = 12 ∨ e.kind = 13) : linePs e = lineD e e.edit.length := by
 have hst : stampedK e.kind = true := by rcases hk with h | h | h <;> rw [h] <;> rfl
 have h8 : (e.kind == 8) = false := by rcases hk with h | h | h <;> rw [h] <;> rfl
 have h14 : (e.kind == 14) = false := by rcases hk with h | h | h <;> rw [h] <;> rfl
 have hc : e.conf = [] := by rw [r.confE]; rcases hk with h | h | h <;> rw [h] <;> rfl
 rw [lineD, lineM, parts1_nums, linePs, partsE, parts2, parts3, hst, h8, h14, hc, List.take_length, List.take_length]
 simp
theorem linePs_C {e : Ev} (r : RightE e) (hk : e.kind = 10) : linePs e = lineC e e.conf.length := by
 have hm : e.map = [] := by rw [r.mapE, hk]; rfl
 have he : e.edit = [] := by rw [r.editE, hk]; rfl
 rw [lineC, parts1_nums, linePs, partsE, parts2, parts3, hm, he, hk, List.take_length]
 simp [stampedK]
theorem linePs_8 {e : Ev} (r : RightE e) (hk : e.kind = 8) : linePs e = lineA e (numsE e).length ++ [61 :: bitsL e.keep] := by
 have hm : e.map = [] := by rw [r.mapE, hk]; rfl
 have he : e.edit = [] := by rw [r.editE, hk]; rfl
 have hc : e.conf = [] := by rw [r.confE, hk]; rfl
 rw [parts1_nums, linePs, partsE, parts2, parts3, hm, he, hc, hk]
 simp [stampedK]
theorem linePs_14 {e : Ev} (r : RightE e) (hk : e.kind = 14) : linePs e = lineA e (numsE e).length ++ [quo e.cbranch, idL e.new] := by
 have hm : e.map = [] := by rw [r.mapE, hk]; rfl
 have he : e.edit = [] := by rw [r.editE, hk]; rfl
 have hc : e.conf = [] := by rw [r.confE, hk]; rfl
 rw [parts1_nums, linePs, partsE, parts2, parts3, hm, he, hc, hk]
 simp [stampedK]
theorem linePs_A {e : Ev} (r : RightE e) (h8 : ¬ e.kind = 8) (h10 : ¬ e.kind = 10) (h11 : ¬ e.kind = 11) (h12 : ¬ e.kind = 12) (h13 : ¬ e.kind = 13) (h14 : ¬ e.kind = 14) : linePs e = lineA e (numsE e).length := by
 have b : ∀ {k : Int}, ¬ e.kind = k -> (e.kind == k) = false := λ h => beq_eq_false_iff_ne.2 h
 have hm : e.map = [] := by rw [r.mapE, b h11]; rfl
 have he : e.edit = [] := by rw [r.editE, b h12, b h13]; rfl
 have hc : e.conf = [] := by rw [r.confE, b h10]; rfl
 rw [parts1_nums, linePs, partsE, parts2, parts3, hm, he, hc, stampedK, b h8, b h11, b h12, b h13, b h14]
 simp
theorem XLineR : EntOk Tryz.prog 28 (.lend TLineR) := by
 refine ⟨Am.enters_of Tryz.func28 (by kernel_rfl) (by kernel_rfl), λ args R h => ?_⟩
 unfold TLineR at h
 split at h
 ·rename_i x
  obtain ⟨e, ⟨hx, hok, hw⟩, h⟩ := h
  refine Spec.args (args' := [e.av]) ⟨hx, trivial⟩ ?_
  refine Spec.weak (Z := Unit) (X := λ _ => .own 0 0 (linePs e).length) (HH := λ _ => [.row 1 tyStr (linePs e).length (texF (linePs e))]) (mkSo (vLineR e (λ i => i <= (numsE e).length) (λ i => i <= e.conf.length) (λ i => i <= e.map.length) (λ i => i <= e.edit.length) R) (tb (ac XWord (ac XNumsR (ac XNum (ac XBits (ac XQuote (ac XIdT3 az))))))) Tryz.func28 (by kernel_rfl) ?_)
  simp only [true_and, and_true, and_self, implies_true, forall_const, gEq_true, gEq_false, nonneg_iff, natle_iff, decide_eq_true_eq, decide_eq_false_iff_not, Int.toNat_natCast, cond_bt, cond_bf, Bool.cond_true, Bool.cond_false, Bool.not_true, Bool.not_false, reduceCtorEq, false_implies, implies_true, Bool.true_eq_false, Bool.false_eq_true, Bool.not_eq_true', Bool.not_eq_false', bs_size, bs_data, bs_toList, bs_extract, bs_append, bs_mk, byteF, true_imp_iff, beq_iff_eq, beq_eq_false_iff_ne, ne_eq]
  have r := right_of hw
  obtain ⟨hk1, hk2⟩ := r.k
  have r1 := r.keep; have r2 := r.conf; have r3 := r.map; have r4 := r.edit
  have hN := numsE_len e
  have hm : 10000 <= maxLen := by decide
  have hwd : wordK e.kind = wordsL.getD e.kind.toNat [] := by
   rw [wordK, decide_eq_false (show ¬ e.kind < 1 by omega), decide_eq_false (show ¬ 15 < e.kind by omega)]
   rfl
  refine ⟨e, ⟨isEv_self e, ⟨hk1, hk2⟩, hok⟩, ⟨0, ⟨by rw [lineA_len e 0 (Nat.zero_le _)], rfl, rfl, rfl⟩, ⟨⟨by rw [lineA_len e 0 (Nat.zero_le _)]; exact Nat.le_refl _, λ i hi => by rw [hwd]; exact row1 _ i hi⟩, Nat.le_refl _, λ _ _ => rfl⟩, Nat.zero_le _⟩, λ x hx => ⟨λ hlt => ?_, λ hge => ?_⟩⟩
  ·have hlt' : x < (numsE e).length := by omega
   have hL := lineA_len e x hx
   have hL2 := lineA_len e (x + 1) hlt'
   refine ⟨⟨by omega, by omega⟩, by omega, by rw [Nat.zero_add]; exact numsE_in hok x hlt', ⟨by omega, by omega, by omega⟩, x + 1, ⟨by omega, by rw [wrap64 (by omega) (by omega)]; omega⟩, ⟨⟨by omega, λ i hi => ?_⟩, Nat.le_refl _⟩, hlt', by omega⟩
   rw [lineA_snoc e x hlt'] at hi ⊢
   rw [Nat.zero_add x]
   exact appN sl (lineA e x) _ [] _ (row1 _) i hi
  ·have hxe : x = (numsE e).length := by omega
   subst hxe
   have hL := lineA_len e _ (Nat.le_refl (numsE e).length)
   refine ⟨λ q8 => ?b8, λ q8 => ⟨λ q10 => ?b10, λ q10 => ⟨λ q11 => ?b11, λ q11 => ⟨λ q12 => ?b12, λ q12 => ⟨λ q13 => ?b13, λ q13 => ⟨λ q14 => ?b14, λ q14 => ?b0⟩⟩⟩⟩⟩⟩
   case b8 =>
    have hP := linePs_8 r q8
    have hPl : (linePs e).length = (lineA e (numsE e).length).length + 1 := by rw [hP, List.length_append]; rfl
    refine ⟨e.keep, ⟨⟨rfl, rfl, λ _ _ => rfl⟩, by omega⟩, ⟨by omega, by omega, by omega⟩, (), by omega, ⟨by omega, λ i hi => ?_⟩, h⟩
    rw [hP] at hi ⊢
    exact appN sl _ _ [] _ (row1 _) i hi
   case b10 =>
    refine ⟨⟨0, ⟨by rw [lineC_zero], rfl⟩, ⟨by rw [lineC_zero]; exact Nat.le_refl _, λ i _ => by rw [lineC_zero]⟩, Nat.zero_le _⟩, λ x hx => ⟨λ hlt => ?_, λ hge => ?_⟩⟩
    ·have hlt' : x < e.conf.length := by omega
     have hL := lineC_len e x hx
     have hL2 := lineC_len e (x + 1) hlt'
     refine ⟨⟨by omega, by omega⟩, hok.2.2.2.2.1 _ (getD_mem hlt'), ⟨by omega, by omega, by omega⟩, x + 1, ⟨by omega, by rw [wrap64 (by omega) (by omega)]; omega⟩, ⟨by omega, λ i hi => ?_⟩, hlt', by omega⟩
     rw [lineC_snoc e x hlt'] at hi ⊢
     exact appN sl (lineC e x) _ [] _ (row1 _) i hi
    ·have hxe : x = e.conf.length := by omega
     subst hxe
     rw [<- linePs_C r q10]
     exact ⟨(), rfl, ⟨Nat.le_refl _, λ _ _ => rfl⟩, h⟩
   case b14 =>
    have hP := linePs_14 r q14
    have hPl : (linePs e).length = (lineA e (numsE e).length).length + 2 := by rw [hP, List.length_append]; rfl
    refine ⟨r.cbr, hok.2.2.2.2.2.2.2, ⟨by omega, by omega, by omega⟩, (), by omega, ⟨by omega, λ i hi => ?_⟩, h⟩
    rw [hP] at hi ⊢
    exact appN sl _ _ [] _ (row2 _ _) i hi
   case b0 =>
    rw [<- linePs_A r q8 q10 q11 q12 q13 q14]
    exact ⟨(), rfl, ⟨Nat.le_refl _, λ _ _ => rfl⟩, h⟩
   case b11 | b12 | b13 =>
    have hk : e.kind = 11 ∨ e.kind = 12 ∨ e.kind = 13 := by omega
    refine ⟨r.br, r.note, ⟨by omega, by omega, by omega⟩, ⟨0, ⟨by rw [lineM_len e 0 (Nat.zero_le _)]; omega, rfl⟩, ⟨by rw [lineM_len e 0 (Nat.zero_le _)]; omega, λ i hi => ?_⟩, Nat.zero_le _⟩, λ x hx => ⟨λ hlt => ?_, λ hge => ⟨⟨0, ⟨by rw [lineD_zero, show x = e.map.length by omega], rfl⟩, ⟨by rw [lineD_zero, show x = e.map.length by omega]; exact Nat.le_refl _, λ i _ => by rw [lineD_zero, show x = e.map.length by omega]⟩, Nat.zero_le _⟩, λ y hy => ⟨λ hlt => ?_, λ hge2 => ?_⟩⟩⟩⟩
    ·rw [lineM_zero] at hi ⊢
     exact appN sl _ _ [] _ (row2 _ _) i hi
    ·have hlt' : x < e.map.length := by omega
     have hL := lineM_len e x hx
     have hL2 := lineM_len e (x + 1) hlt'
     refine ⟨⟨by omega, by omega⟩, (r.mapT x hlt').1, (r.mapT x hlt').2, ⟨by omega, by omega, by omega⟩, x + 1, ⟨by omega, by rw [wrap64 (by omega) (by omega)]; omega⟩, ⟨by omega, λ i hi => ?_⟩, hlt', by omega⟩
     rw [lineM_snoc e x hlt'] at hi ⊢
     exact appN sl (lineM e x) _ [] _ (row2 _ _) i hi
    ·have hlt' : y < e.edit.length := by omega
     have hL := lineD_len e y hy
     have hL2 := lineD_len e (y + 1) hlt'
     refine ⟨⟨by omega, by omega⟩, λ hb => ⟨(r.editT y hlt').1, (r.editT y hlt').2, ⟨by omega, by omega, by omega⟩, y + 1, ⟨by omega, by rw [wrap64 (by omega) (by omega)]; omega⟩, ⟨by omega, λ i hi => ?_⟩, hlt', by omega⟩, λ hb => ⟨(r.editT y hlt').1, ⟨by omega, by omega, by omega⟩, y + 1, ⟨by omega, by rw [wrap64 (by omega) (by omega)]; omega⟩, ⟨by omega, λ i hi => ?_⟩, hlt', by omega⟩⟩
     ·rw [lineD_snoc e y hlt', hb] at hi ⊢
      exact appN sl (lineD e y) _ [] _ (row2 _ _) i hi
     ·rw [lineD_snoc e y hlt', hb] at hi ⊢
      exact appN sl (lineD e y) _ [] _ (row2 _ _) i hi
    ·rw [show y = e.edit.length by omega, <- linePs_D r hk]
     exact ⟨(), rfl, ⟨Nat.le_refl _, λ _ _ => rfl⟩, h⟩
 ·exact h.elim
end Go.Proofs.Sz

namespace Go.Proofs.Sz
open Go Go.Am Go.SP
set_option maxRecDepth 20000
theorem chain0_app (us qs : List Bs) : ∃ r, layTo.chain0 (us ++ qs) = layTo.chain0 us ++ r := by
 cases us with
 | nil => exact ⟨_, rfl⟩
 | cons p ps => exact ⟨qs.flatMap λ q => 32 :: q, by simp [layTo.chain0, List.flatMap_append]⟩
theorem len32 (A p : Bs) : (A ++ 32 :: p).length = A.length + 1 + p.length := by
 rw [List.length_append, List.length_cons]
 omega
theorem linePs_len {e : Ev} (r : RightE e) : (linePs e).length <= 1000 := by
 have h1 := fields_len e
 have h2 := r.conf; have h3 := r.map; have h4 := r.edit
 have h5 : (e.map.flatMap rowP).length = 2 * e.map.length := flat_len e.map (λ r => quo r.1) λ r => quo r.2
 have h6 : (e.edit.flatMap chgP).length = 2 * e.edit.length := flat_len e.edit (λ r => quo r.1) λ r => bif r.2.1 then quo r.2.2 else [45]
 have h7 : (parts2 e).length <= 3 := by unfold parts2; cases stampedK e.kind <;> simp
 have h8 : (bif e.kind == 8 then [61 :: bitsL e.keep] else bif e.kind == 14 then [quo e.cbranch, idL e.new] else []).length <= 2 := by
  cases e.kind == 8 <;> cases e.kind == 14 <;> simp
 rw [linePs, List.length_cons, partsE, List.length_append, parts1, List.length_map, List.length_append, parts3, List.length_append, List.length_append, List.length_map, List.length_append, h5, h6]
 omega
theorem layTo_zero (ps : List Bs) : layTo ps 0 = [] := rfl
theorem layTo_one (ps : List Bs) (h : 0 < ps.length) : layTo ps (0 + 1) = ps.getD 0 [] := by
 cases ps with
 | nil => cases h
 | cons p ps => simp [layTo, layTo.chain0]
theorem layTo_snoc (ps : List Bs) (j : Nat) (h0 : 0 < j) (h : j < ps.length) : layTo ps (j + 1) = layTo ps j ++ 32 :: ps.getD j [] := by
 cases ps with
 | nil => cases h
 | cons p ps =>
  cases j with
  | zero => cases h0
  | succ j =>
   have hj : j < ps.length := by simpa using h
   rw [layTo, layTo, List.take_succ_cons, List.take_succ_cons, layTo.chain0, layTo.chain0, List.take_succ_eq_append_getElem hj, List.flatMap_append, List.getD_cons_succ, List.getD_eq_getElem?_getD, List.getElem?_eq_getElem hj]
   simp
theorem layTo_le (ps : List Bs) (j : Nat) : (layTo ps j).length <= (layTo ps ps.length).length := by
 obtain ⟨r, hr⟩ := chain0_app (ps.take j) (ps.drop j)
 rw [List.take_append_drop] at hr
 rw [layTo, layTo, List.take_length, hr, List.length_append]
 exact Nat.le_add_right _ _
theorem layTo_ev (e : Ev) : layTo (linePs e) (linePs e).length ++ [10] = evL e := by
 rw [layTo, List.take_length, linePs, evL_lay]
 rfl
theorem app2 (A p : Bs) (i : Nat) (hi : i < (A ++ p).length) : (if i < A.length then u8 (A.getD i 0) else u8 (p.getD (i - A.length) 0)) = u8 ((A ++ p).getD i 0) := by
 simp only [List.getD_eq_getElem?_getD, List.getElem?_append]
 split <;> rfl
theorem app3 (A p : Bs) (i : Nat) (hi : i < (A ++ 32 :: p).length) : (if i < A.length + 1 then (if i < A.length then u8 (A.getD i 0) else rowOf [(0, .pl (.int .u8 32))] (0 + (i - A.length))) else u8 (p.getD (i - (A.length + 1)) 0)) = u8 ((A ++ 32 :: p).getD i 0) := by
 simp only [List.getD_eq_getElem?_getD, List.getElem?_append]
 by_cases h : i < A.length
 ·rw [if_pos (by omega), if_pos h, if_pos h]
 ·rw [if_neg h, if_neg h]
  by_cases h2 : i < A.length + 1
  ·rw [if_pos h2, show i - A.length = 0 by omega]
   rfl
  ·rw [if_neg h2, show i - A.length = (i - (A.length + 1)) + 1 by omega, List.getElem?_cons_succ]
theorem evL_bound {v : Ev} (hev : EvOk v) (hw : wrongE v = false) : (evL v).length <= 900000 := by
 have hf := fit_of hw
 have h1 := evL1_len hev hf
 have h2 := evL2_len hf
 have h3 := map_len hf v.map.length
 have h4 := edit_len hf v.edit.length
 have h5 := nums_len v.conf hev.2.2.2.2.1
 have h6 := hf.conf
 rw [List.take_length] at h3 h4
 simp only [evL, evL3, List.length_append, List.length_cons, List.length_nil]
 omega
theorem outA_zero (a b c : Int) (l : List Ev) : [119, 111, 114, 108, 100, 32] ++ Lib.itoa a ++ [32] ++ Lib.itoa b ++ [32] ++ Lib.itoa c ++ [10] = outA ⟨a, b, c, l⟩ 0 := by
 simp [outA, worldL, nums, numL]
theorem outA_snoc (s : Sc) (x : Nat) (h : x < s.evs.length) : outA s (x + 1) = outA s x ++ evL (evAt s.evs x) := by
 rw [outA, outA, flat_take s.evs ev0 evL x h]
 simp only [List.append_assoc]
 rfl
theorem outA_end (s : Sc) : outA s s.evs.length = printL s := by rw [outA, List.take_length, printL]
theorem XTextR : EntOk Tryz.prog 11 (.lend TTextR) := by
 refine ⟨Am.enters_of Tryz.func11 (by kernel_rfl) (by kernel_rfl), λ args R h => ?_⟩
 unfold TTextR at h
 split at h
 ·rename_i a b c x
  obtain ⟨l, ⟨hx, ha, hb, hc, hl, hok⟩, h⟩ := h
  refine Spec.argsD (args' := [.agg [nm a, nm b, nm c, evsAV l]]) ⟨.cons (.pl _) rfl (.cons (.pl _) rfl (.cons (.pl _) rfl (.cons (.of_leR hx) (evs_cw hx) .nil))), trivial⟩ ?_
  refine mkSo (vTextR a b c l (λ i => linePs (evAt l i)) (λ i => i <= l.length /\ (outA ⟨a, b, c, l⟩ i).length <= 100 + 900000 * i) (λ i j => j <= (linePs (evAt l i)).length) R) (tb (ac XNum (ac XLineR az))) Tryz.func11 (by kernel_rfl) ?_
  simp only [true_and, and_true, and_self, implies_true, forall_const, gEq_true, gEq_false, nonneg_iff, natle_iff, decide_eq_true_eq, decide_eq_false_iff_not, Int.toNat_natCast, cond_bt, cond_bf, Bool.cond_true, Bool.cond_false, Bool.not_true, Bool.not_false, reduceCtorEq, false_implies, implies_true, Bool.true_eq_false, Bool.false_eq_true, Bool.not_eq_true', Bool.not_eq_false', bs_size, bs_data, bs_toList, bs_extract, bs_append, bs_mk, byteF, true_imp_iff]
  rw [outA_zero a b c l]
  have hm : 1000000000 <= maxLen := by decide
  have k1 := itoa_len a ha
  have k2 := itoa_len b hb
  have k3 := itoa_len c hc
  have hO0 : (outA ⟨a, b, c, l⟩ 0).length = 9 + (Lib.itoa a).length + (Lib.itoa b).length + (Lib.itoa c).length := by
   rw [<- outA_zero a b c l]
   simp only [List.length_append, List.length_cons, List.length_nil]
   omega
  have hmem : ∀ j, j < l.length -> evAt l j ∈ l := λ j hj => by
   rw [evAt, List.getD_eq_getElem?_getD, List.getElem?_eq_getElem hj]
   exact List.getElem_mem hj
  refine ⟨ha, by simp only [List.length_append, List.length_cons, List.length_nil]; omega, by simp only [List.length_append, List.length_cons, List.length_nil]; omega, by simp only [List.length_append, List.length_cons, List.length_nil]; omega, by simp only [List.length_append, List.length_cons, List.length_nil]; omega, hb, by simp only [List.length_append, List.length_cons, List.length_nil]; omega, by simp only [List.length_append, List.length_cons, List.length_nil]; omega, by simp only [List.length_append, List.length_cons, List.length_nil]; omega, by simp only [List.length_append, List.length_cons, List.length_nil]; omega, hc, by simp only [List.length_append, List.length_cons, List.length_nil]; omega, by simp only [List.length_append, List.length_cons, List.length_nil]; omega, by omega, ⟨0, ⟨rfl, rfl⟩, ⟨Nat.le_refl _, λ _ _ => rfl⟩, Nat.zero_le _, by omega⟩, λ x hx => ⟨λ hlt => ?_, λ hge => ?_⟩⟩
  ·have hlt' : x < l.length := by omega
   have he := hok _ (hmem x hlt')
   have hB := evL_bound he.1 he.2
   have hS : outA ⟨a, b, c, l⟩ (x + 1) = outA ⟨a, b, c, l⟩ x ++ layTo (linePs (evAt l x)) (linePs (evAt l x)).length ++ [10] := by
    rw [outA_snoc ⟨a, b, c, l⟩ x hlt', List.append_assoc, layTo_ev]
   have hSl : (outA ⟨a, b, c, l⟩ (x + 1)).length = (outA ⟨a, b, c, l⟩ x ++ layTo (linePs (evAt l x)) (linePs (evAt l x)).length).length + 1 := by
    rw [hS, List.length_append]
    rfl
   rw [<- layTo_ev] at hB
   rw [List.length_append, List.length_singleton] at hB
   have hx2 := hx.2
   have hpl : ∀ j, (layTo (linePs (evAt l x)) j).length <= 900000 := λ j => Nat.le_trans (layTo_le _ j) (by omega)
   have hAl : ∀ j, (outA ⟨a, b, c, l⟩ x ++ layTo (linePs (evAt l x)) j).length <= 300000000 := λ j => by
    have := hpl j
    rw [List.length_append]
    omega
   refine ⟨⟨by omega, by omega⟩, evAt l x, ⟨isEv_self _, he.1, he.2⟩, ⟨0, ⟨by rw [layTo_zero, List.append_nil], rfl, rfl, rfl⟩, ⟨⟨by rw [layTo_zero, List.append_nil]; exact Nat.le_refl _, λ i _ => by rw [layTo_zero, List.append_nil]⟩, Nat.le_refl _, λ _ _ => rfl⟩, Nat.zero_le _⟩, λ j hj => ⟨λ hjlt => ?_, λ hjge => ?_⟩⟩
   ·have hjlt' : j < (linePs (evAt l x)).length := by omega
    have hn := linePs_len (right_of he.2)
    have h3 := hAl j
    have h4 := hAl (j + 1)
    refine ⟨⟨by omega, by omega⟩, by omega, λ hj0 => ?_, λ hj0 => ?_⟩
    ·have hsn := layTo_snoc (linePs (evAt l x)) j (by omega) hjlt'
     rw [hsn, <- List.append_assoc, len32] at h4
     rw [Nat.zero_add j]
     refine ⟨⟨by omega, by omega, by omega⟩, ⟨by omega, by omega⟩, j + 1, ⟨by rw [hsn, <- List.append_assoc, len32], by rw [wrap64 (by omega) (by omega)]; omega⟩, ⟨⟨by rw [hsn, <- List.append_assoc, len32]; exact Nat.le_refl _, λ i hi => ?_⟩, Nat.le_refl _⟩, hjlt', by omega⟩
     rw [hsn, <- List.append_assoc] at hi ⊢
     exact app3 _ _ i hi
    ·have hj0' : j = 0 := by omega
     subst hj0'
     have hsn := layTo_one (linePs (evAt l x)) hjlt'
     rw [hsn, List.length_append] at h4
     rw [layTo_zero, List.append_nil, show (0 : Nat) + 0 = 0 from rfl]
     refine ⟨⟨by omega, by omega⟩, 0 + 1, ⟨by rw [hsn, List.length_append], by rw [wrap64 (by omega) (by omega)]; omega⟩, ⟨⟨by rw [hsn, List.length_append]; exact Nat.le_refl _, λ i hi => ?_⟩, Nat.le_refl _⟩, hjlt', by omega⟩
     rw [hsn] at hi ⊢
     exact app2 _ _ i hi
   ·have hje : j = (linePs (evAt l x)).length := by omega
    have h3 := hAl j
    subst hje
    refine ⟨⟨by omega, by omega, by omega⟩, x + 1, ⟨hSl.symm, by rw [wrap64 (by omega) (by omega)]; omega⟩, ⟨by rw [hSl]; exact Nat.le_refl _, λ i hi => ?_⟩, ⟨hlt', ?_⟩, by omega⟩
    ·rw [hS] at hi ⊢
     exact app_at u8 _ 10 0 i hi
    ·rw [List.length_append] at hSl
     omega
  ·have hxe : x = l.length := by omega
   subst hxe
   rw [show l.length = (⟨a, b, c, l⟩ : Sc).evs.length from rfl, outA_end]
   exact ⟨by omega, bs (printL ⟨a, b, c, l⟩), by simp only [bs_size], λ i _ => by simp only [Nat.zero_add, bs_data, bs_toList], h⟩
 ·exact h.elim
end Go.Proofs.Sz

namespace Go.Proofs.Sz
open Go Go.Am Go.SP
theorem star : "*" ++ "errors.errorString" = "*errors.errorString" := by decide
theorem rowES (u : TypeId) (h : Tryz.prog.typeName? 3 u = some "*errors.errorString") : u = 177 :=
 typeName_ptr_named (nm := "errors.errorString") (by rw [star]; kernel_rfl) (by kernel_rfl) (by decide) u (by rw [star]; exact h)
def laidL : List (String × DataW Unit) := [("math/bits.deBruijn32tab", Go.Proofs.YtbjhikadmmolfaaGreatDoor.Rows.laid_math_bits_deBruijn32tab), ("math/bits.deBruijn64tab", Go.Proofs.YtbjhikadmmolfaaGreatDoor.Rows.laid_math_bits_deBruijn64tab), ("internal/strconv.uint64pow10", Go.Proofs.YtbjhikadmmolfaaGreatDoor.Rows.laid_internal_strconv_uint64pow10), ("strconv.ErrRange", Go.Proofs.YtbjhikadmmolfaaGreatDoor.Rows.laid_strconv_ErrRange), ("strconv.ErrSyntax", Go.Proofs.YtbjhikadmmolfaaGreatDoor.Rows.laid_strconv_ErrSyntax)]
def pow10s : List Int := (List.range 20).map λ i => (10 : Int) ^ i
theorem pow_data : (Go.Proofs.YtbjhikadmmolfaaGreatDoor.Rows.laid_internal_strconv_uint64pow10 : DataW Unit) = Lib.tabData .u64 pow10s := by kernel_rfl
theorem cell_lt {W : World} {g i : Nat} {v : Value} (h : W.cell? ⟨g, i, none⟩ = some v) : g < W.heap.size := by
 unfold World.cell? at h
 split at h
 ·rename_i hh
  exact (Array.getElem?_eq_some_iff.1 hh).1
 ·cases h
theorem glo_err {W : World} {g : Nat} {n : String} (hg : Tryz.prog.globalNamed n = some g) {a : Addr} (hv : W.var? Tryz.prog n = some #[.iface 177 (.pointer (some a))]) :
  (startE W).F g /\ ∃ us : List Value, Rep (startE W).imm us (.ifc 177 .any) /\ ∀ i, (startE W).w.cell? ⟨g, i, none⟩ = us[i]? := by
 have hc := World.var?_cell hg hv
 refine ⟨cell_lt (i := 0) (v := .iface 177 (.pointer (some a))) (by rw [hc 0]; rfl), [.iface 177 (.pointer (some a))], Rep.ifc rfl (.any _ rfl), λ i => ?_⟩
 show W.cell? _ = _
 rw [hc i]
 simp
theorem glo_of_laid {W : World} (h : laidMet Tryz.prog laidL W) : GloE (startE W) := by
 have h3 := h.tail.tail
 have h4 := h3.tail
 have h5 := h4.tail
 intro g x hx
 match g, hx with
 | 1, hx =>
  injection hx with hx
  subst hx
  rw [pow_data] at h3
  have ht := Lib.tabIs_of_head (k := .u64) (zs := pow10s) (g := 1) (by kernel_rfl) (by kernel_rfl) Tryz.underlying162 Tryz.underlying115 (by kernel_rfl) (by kernel_rfl) h3
  unfold Lib.TabIs at ht
  have hc := World.var?_cell (g := 1) (by kernel_rfl) ht
  refine ⟨cell_lt (i := 0) (v := .int .u64 1) (by rw [hc 0]; rfl), pow10s.map λ z => Value.int .u64 z, ?_, λ i => ?_⟩
  ·refine rep_one (by rfl) (.iarr (by rfl) λ i hi => ?_)
   rw [List.getElem?_map]
   simp [pow10s, hi, pow10]
  ·show W.cell? _ = _
   rw [hc i]
   simp
 | 2, hx =>
  injection hx with hx
  subst hx
  obtain ⟨a, _, hv, _⟩ := laid_sentinel h5 (g := 2) (by kernel_rfl) (ti := 73) (by kernel_rfl) Tryz.underlying73 rowES Tryz.underlying177 Tryz.underlying179 rfl rfl Tryz.underlying9 (by kernel_rfl) (by kernel_rfl)
  exact glo_err (by kernel_rfl) hv
 | 3, hx =>
  injection hx with hx
  subst hx
  obtain ⟨a, _, hv, _⟩ := laid_sentinel h4 (g := 3) (by kernel_rfl) (ti := 73) (by kernel_rfl) Tryz.underlying73 rowES Tryz.underlying177 Tryz.underlying179 rfl rfl Tryz.underlying9 (by kernel_rfl) (by kernel_rfl)
  exact glo_err (by kernel_rfl) hv
 | 0, hx => cases hx
 | _ + 4, hx => cases hx
end Go.Proofs.Sz

namespace Go.Proofs.Sz
open Go Go.Am Go.SP
set_option maxRecDepth 100000
def valsOf : DataW Unit -> Array Value
 | .agg ps => (ps.map λ d => match d with | .lit (.int k z) => Value.int k z | _ => Value.int .u8 0).toArray
 | _ => #[]
abbrev synS : ByteArray := { data := #[105, 110, 118, 97, 108, 105, 100, 32, 115, 121, 110, 116, 97, 120] }
abbrev rngS : ByteArray := { data := #[118, 97, 108, 117, 101, 32, 111, 117, 116, 32, 111, 102, 32, 114, 97, 110, 103, 101] }
noncomputable def low : Nat := (World.holding Tryz.prog default ⟨#[], #[], []⟩).heap.size
def putC (cs : Array Value) : Obj -> Obj
 | .cells _ t frozen => .cells cs t frozen
 | o => o
noncomputable def laidWorld (os : Os) : World :=
 let w0 := World.holding Tryz.prog os ⟨#[.cells #[.string rngS] 179, .cells #[.string synS] 179], #[], []⟩
 { w0 with heap := ((((w0.heap.modify 1 (putC (valsOf Go.Proofs.YtbjhikadmmolfaaGreatDoor.Rows.laid_internal_strconv_uint64pow10))).modify 2 (putC #[.iface 177 (.pointer (some ⟨low + 1, 0, none⟩))])).modify 3 (putC #[.iface 177 (.pointer (some ⟨low, 0, none⟩))])).modify 4 (putC (valsOf Go.Proofs.YtbjhikadmmolfaaGreatDoor.Rows.laid_math_bits_deBruijn32tab))).modify 5 (putC (valsOf Go.Proofs.YtbjhikadmmolfaaGreatDoor.Rows.laid_math_bits_deBruijn64tab)) }
theorem laidWorld_met (os : Os) (args : Array Value) : laidMet Tryz.prog laidL ((laidWorld os).forCall (λ _ _ => 0) ⟨#[], args, []⟩).memory :=
 laidMet_of_run' 8 (by kernel_rfl) (by kernel_rfl)
theorem own : ownKnob Tryz.prog.godebug = none := by kernel_rfl
theorem laidOut : laidOutB Tryz.prog = true := by kernel_rfl
theorem wf64 {z : Int} (h : (Lit.int .i64 z).wf = true) : Int64 z := by
 have e1 : IntKind.i64.min = -9223372036854775808 := rfl
 have e2 : IntKind.i64.max = 9223372036854775807 := rfl
 simp [Lit.wf, e1, e2] at h
 exact h
theorem wfu8 {z : Int} (h : (Lit.int .u8 z).wf = true) : 0 <= z /\ z < 256 := by
 have e1 : IntKind.u8.min = 0 := rfl
 have e2 : IntKind.u8.max = 255 := rfl
 simp [Lit.wf, e1, e2] at h
 omega
theorem wfu32 {z : Int} (h : (Lit.int .u32 z).wf = true) : 0 <= z /\ z < 4294967296 := by
 have e1 : IntKind.u32.min = 0 := rfl
 have e2 : IntKind.u32.max = 4294967295 := rfl
 simp [Lit.wf, e1, e2] at h
 omega
theorem pInt {n : Nat} {Xs : List AV} (h : Parts Tryz.prog (n + 1) 3 Xs) : ∃ z, Xs = [nm z] /\ Int64 z := by
 obtain ⟨z, rfl, hw⟩ := Parts.int Tryz.underlying3 h
 exact ⟨z, rfl, wf64 hw⟩
theorem pU32 {n : Nat} {Xs : List AV} (h : Parts Tryz.prog (n + 1) 53 Xs) : ∃ z, Xs = [.pl (.int .u32 z)] /\ 0 <= z /\ z < 4294967296 := by
 obtain ⟨z, rfl, hw⟩ := Parts.int Tryz.underlying53 h
 exact ⟨z, rfl, wfu32 hw⟩
theorem pStr {n : Nat} {Xs : List AV} (h : Parts Tryz.prog (n + 1) 9 Xs) : ∃ l : Bs, Xs = [sl l] /\ l.length <= maxLen := by
 obtain ⟨s, rfl, hs⟩ := Parts.string Tryz.underlying9 h
 exact ⟨s.data.toList, congrArg (λ v => [AV.pl (.string v)]) (bs_of s), by simpa using hs⟩
theorem pId {n : Nat} {Xs : List AV} (h : Parts Tryz.prog (n + 1) 57 Xs) : ∃ f, Xs = [.iarr .u8 32 f] /\ ∀ i, i < 32 -> 0 <= f i /\ f i < 256 := by
 obtain ⟨f, rfl, hf⟩ := Parts.array Tryz.underlying57 Tryz.underlying5 h
 exact ⟨f, rfl, λ i hi => wfu8 (hf i hi)⟩
theorem c5 : Tryz.prog.cellsOf 5 = 1 := by kernel_rfl
theorem pData {n : Nat} {Xs : List AV} (h : Parts Tryz.prog (n + 2) 58 Xs) : ∃ (l : Bs) (f : Nat -> AV), Xs = [.rows 1 l.length f] /\ ∀ i, i < l.length -> f i = byteF (bs l) i := by
 obtain ⟨m, f, rfl, _, h1⟩ := Parts.slice Tryz.underlying58 h
 obtain ⟨L, hl, hL⟩ := list_of (λ i (c : UInt8) => f i = u8 c) m (λ i hi => by
  obtain ⟨Ys, hp, hf⟩ := h1 i hi
  obtain ⟨z, rfl, hw⟩ := Parts.int Tryz.underlying5 hp
  rw [wrapE_int Tryz.underlying5] at hf
  have hz := wfu8 hw
  refine ⟨UInt8.ofNat z.toNat, ?_⟩
  rw [hf]
  have : ((UInt8.ofNat z.toNat).toNat : Int) = z := by
   rw [UInt8.toNat_ofNat']
   omega
  show AV.pl (.int .u8 z) = AV.pl (.int .u8 _)
  rw [this])
 refine ⟨L, f, by rw [c5, hl], λ i hi => ?_⟩
 rw [hL i hi, byteF, bs_data, List.getD_eq_getElem?_getD, List.getElem?_eq_getElem hi]
 rfl
end Go.Proofs.Sz

namespace Go.Proofs.Sz
open Go Go.Am Go.SP
set_option maxRecDepth 100000
theorem getD_of {α : Type} {L : List α} {i : Nat} (h : i < L.length) (d : α) : L.getD i d = L[i] := by
 rw [List.getD_eq_getElem?_getD, List.getElem?_eq_getElem h]
 rfl
theorem cB : Tryz.prog.cellsOf 4 = 1 := by kernel_rfl
theorem cI : Tryz.prog.cellsOf 3 = 1 := by kernel_rfl
theorem cR : Tryz.prog.cellsOf 96 = 2 := by kernel_rfl
theorem cC : Tryz.prog.cellsOf 64 = 3 := by kernel_rfl
theorem cE : Tryz.prog.cellsOf 62 = 80 := by kernel_rfl
theorem pBools {n : Nat} {Xs : List AV} (h : Parts Tryz.prog (n + 2) 46 Xs) : ∃ (l : List Bool) (f : Nat -> AV), Xs = [.rows 1 l.length f] /\ ∀ i, i < l.length -> f i = boolF l i := by
 obtain ⟨m, f, rfl, _, h1⟩ := Parts.slice Tryz.underlying46 h
 obtain ⟨L, hl, hL⟩ := list_of (λ i (c : Bool) => f i = bl c) m (λ i hi => by
  obtain ⟨Ys, hp, hf⟩ := h1 i hi
  obtain ⟨z, rfl⟩ := Parts.bool Tryz.underlying4 hp
  exact ⟨z, by rw [hf]; simp only [wrapE, Tryz.underlying4]; rfl⟩)
 exact ⟨L, f, by rw [cB, hl], λ i hi => by rw [hL i hi, boolF, getD_of hi]⟩
theorem pIntsS {n : Nat} {Xs : List AV} (h : Parts Tryz.prog (n + 2) 47 Xs) : ∃ (l : List Int) (f : Nat -> AV), Xs = [.rows 1 l.length f] /\ (∀ i, i < l.length -> f i = intF l i) /\ ∀ z ∈ l, Int64 z := by
 obtain ⟨m, f, rfl, _, h1⟩ := Parts.slice Tryz.underlying47 h
 obtain ⟨L, hl, hL⟩ := list_of (λ i (c : Int) => f i = nm c /\ Int64 c) m (λ i hi => by
  obtain ⟨Ys, hp, hf⟩ := h1 i hi
  obtain ⟨z, rfl, hz⟩ := pInt hp
  rw [wrapE_int Tryz.underlying3] at hf
  exact ⟨z, hf, hz⟩)
 refine ⟨L, f, by rw [cI, hl], λ i hi => by rw [(hL i hi).1, intF, getD_of hi], λ z hz => ?_⟩
 obtain ⟨i, hi, rfl⟩ := List.mem_iff_getElem.1 hz
 exact (hL i hi).2
theorem pRows {n : Nat} {Xs : List AV} (h : Parts Tryz.prog (n + 3) 50 Xs) : ∃ (l : List (Bs × Bs)) (f : Nat -> AV), Xs = [.rows 2 l.length f] /\ ∀ i, i < l.length -> f i = rowF l i := by
 obtain ⟨m, f, rfl, _, h1⟩ := Parts.slice Tryz.underlying50 h
 obtain ⟨L, hl, hL⟩ := list_of (λ i (c : Bs × Bs) => f i = .agg [sl c.1, sl c.2]) m (λ i hi => by
  obtain ⟨Ys, hp, hf⟩ := h1 i hi
  obtain ⟨_, _, rfl, a1, _, _, rfl, a2, rfl⟩ := Parts.struct Tryz.underlying96 hp
  obtain ⟨p, rfl, _⟩ := pStr a1
  obtain ⟨q, rfl, _⟩ := pStr a2
  rw [wrapE_struct Tryz.underlying96] at hf
  exact ⟨(p, q), hf⟩)
 exact ⟨L, f, by rw [cR, hl], λ i hi => by rw [hL i hi, rowF, getD_of hi]⟩
theorem pChgs {n : Nat} {Xs : List AV} (h : Parts Tryz.prog (n + 3) 43 Xs) : ∃ (l : List (Bs × Bool × Bs)) (f : Nat -> AV), Xs = [.rows 3 l.length f] /\ ∀ i, i < l.length -> f i = chgF l i := by
 obtain ⟨m, f, rfl, _, h1⟩ := Parts.slice Tryz.underlying43 h
 obtain ⟨L, hl, hL⟩ := list_of (λ i (c : Bs × Bool × Bs) => f i = .agg [sl c.1, bl c.2.1, sl c.2.2]) m (λ i hi => by
  obtain ⟨Ys, hp, hf⟩ := h1 i hi
  obtain ⟨_, _, rfl, a1, _, _, rfl, a2, _, _, rfl, a3, rfl⟩ := Parts.struct Tryz.underlying64 hp
  obtain ⟨p, rfl, _⟩ := pStr a1
  obtain ⟨b, rfl⟩ := Parts.bool Tryz.underlying4 a2
  obtain ⟨q, rfl, _⟩ := pStr a3
  rw [wrapE_struct Tryz.underlying64] at hf
  exact ⟨(p, b, q), hf⟩)
 exact ⟨L, f, by rw [cC, hl], λ i hi => by rw [hL i hi, chgF, getD_of hi]⟩
theorem pEvent {n : Nat} {Xs : List AV} (h : Parts Tryz.prog (n + 5) 62 Xs) : ∃ e : Ev, leA [] (.agg Xs) e.av /\ EvOk e := by
 obtain ⟨_, _, rfl, h1, _, _, rfl, h2, _, _, rfl, h3, _, _, rfl, h4, _, _, rfl, h5, _, _, rfl, h6, _, _, rfl, h7, _, _, rfl, h8, _, _, rfl, h9, _, _, rfl, h10, _, _, rfl, h11, rfl⟩ := Parts.struct Tryz.underlying62 h
 obtain ⟨_, _, rfl, a1, _, _, rfl, a2, _, _, rfl, a3, _, _, rfl, a4, _, _, rfl, a5, _, _, rfl, a6, _, _, rfl, a7, rfl⟩ := Parts.struct Tryz.underlying60 h11
 obtain ⟨_, _, rfl, b1, _, _, rfl, b2, rfl⟩ := Parts.struct Tryz.underlying55 h10
 obtain ⟨_, _, rfl, c1, rfl⟩ := Parts.struct Tryz.underlying49 h6
 obtain ⟨_, _, rfl, d1, rfl⟩ := Parts.struct Tryz.underlying52 h8
 obtain ⟨_, _, rfl, e1, rfl⟩ := Parts.struct Tryz.underlying45 h9
 obtain ⟨kd, rfl, w1⟩ := pInt h1
 obtain ⟨nd, rfl, w2⟩ := pInt h2
 obtain ⟨to, rfl, w3⟩ := pInt h3
 obtain ⟨nn, rfl, w4⟩ := pInt h4
 obtain ⟨kp, fk, rfl, w5⟩ := pBools h5
 obtain ⟨cf, fc, rfl, w6, w7⟩ := pIntsS c1
 obtain ⟨br, rfl, _⟩ := pStr h7
 obtain ⟨mp, fm, rfl, w8⟩ := pRows d1
 obtain ⟨ed, fe, rfl, w9⟩ := pChgs e1
 obtain ⟨au, rfl, w10⟩ := pU32 b1
 obtain ⟨no, rfl, _⟩ := pStr b2
 obtain ⟨ck, rfl, w11⟩ := pInt a1
 obtain ⟨cl, rfl, _⟩ := pInt a2
 obtain ⟨sq, rfl, _⟩ := pU32 a3
 obtain ⟨cb, rfl, _⟩ := pStr a4
 obtain ⟨o, rfl, _⟩ := pId a5
 obtain ⟨w, rfl, w12⟩ := pId a6
 obtain ⟨dt, fd, rfl, w13⟩ := pData a7
 exact ⟨⟨kd, nd, to, nn, kp, cf, br, mp, ed, au, no, ck, cl, sq, cb, o, w, dt⟩, ⟨rfl, rfl, rfl, rfl, ⟨rfl, rfl, w5⟩, ⟨rfl, rfl, w6⟩, rfl, ⟨rfl, rfl, w8⟩, ⟨rfl, rfl, w9⟩, rfl, rfl, rfl, rfl, rfl, rfl, ⟨rfl, rfl, λ _ _ => rfl⟩, ⟨rfl, rfl, λ _ _ => rfl⟩, ⟨rfl, rfl, w13⟩, trivial⟩, w1, w2, w3, w4, w7, w11, w10, w12⟩
theorem pEvents {n : Nat} {Xs : List AV} (h : Parts Tryz.prog (n + 6) 26 Xs) : ∃ (x : AV) (l : List Ev), Xs = [x] /\ IsEvs x l /\ ∀ e ∈ l, EvOk e := by
 obtain ⟨m, f, rfl, _, h3⟩ := Parts.slice Tryz.underlying26 h
 obtain ⟨L, hl, hL⟩ := list_of (λ i (d : Ev) => leA [] (f i) d.av /\ EvOk d) m (λ i hi => by
  obtain ⟨Ys, hp, hf⟩ := h3 i hi
  obtain ⟨d, hd, ok⟩ := pEvent hp
  rw [wrapE_struct Tryz.underlying62] at hf
  exact ⟨d, by rw [hf]; exact hd, ok⟩)
 refine ⟨_, L, rfl, ?_, λ d hd => ?_⟩
 ·rw [cE]
  refine ⟨rfl, hl.symm, λ i hi => ?_⟩
  have := (hL i hi).1
  show leA [] (f i) (evAt L i).av
  rw [evAt, getD_of hi]
  exact this
 ·obtain ⟨i, hi, rfl⟩ := List.mem_iff_getElem.1 hd
  exact (hL i hi).2
theorem pScript {n : Nat} {Xs : List AV} (h : Parts Tryz.prog (n + 7) 28 Xs) : ∃ (a b c : Int) (x : AV) (l : List Ev), Xs = [nm a, nm b, nm c, x] /\ IsEvs x l /\ Int64 a /\ Int64 b /\ Int64 c /\ ∀ e ∈ l, EvOk e := by
 obtain ⟨_, _, rfl, h1, _, _, rfl, h2, rfl⟩ := Parts.struct Tryz.underlying28 h
 obtain ⟨_, _, rfl, a1, _, _, rfl, a2, _, _, rfl, a3, rfl⟩ := Parts.struct Tryz.underlying25 h1
 obtain ⟨a, rfl, w1⟩ := pInt a1
 obtain ⟨b, rfl, w2⟩ := pInt a2
 obtain ⟨c, rfl, w3⟩ := pInt a3
 obtain ⟨x, l, rfl, hx, hl⟩ := pEvents h2
 exact ⟨a, b, c, x, l, rfl, hx, w1, w2, w3, hl⟩
end Go.Proofs.Sz

namespace Go.Proofs.Sz
open Go Go.Am Go.SP
end Go.Proofs.Sz
