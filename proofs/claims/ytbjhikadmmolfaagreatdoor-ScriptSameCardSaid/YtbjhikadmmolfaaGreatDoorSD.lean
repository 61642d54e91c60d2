/- A seat of the scripts: condition of the reader of events. -/
import Derived.Test.YtbjhikadmmolfaaGreatDoorSC
set_option linter.unusedSectionVars false
set_option linter.unusedVariables false
set_option linter.unusedSimpArgs false
set_option maxRecDepth 100000
set_option maxHeartbeats 4000000
namespace Go.Proofs.Sz
open Go Go.Am Go.SP
theorem vREvent (l w : Bs) (b : Bool) (s1 : Rd -> Bs) (inv2 inv3 inv7 : Ev × Rd -> Prop) (inv11 : Ev × Rd -> Nat × Bool -> Prop) (inv18 : Ev × Rd -> List Int × Rd -> Prop) (inv21 : Ev × Rd -> List (Bs × Bs) × Rd -> Prop)
 (inv25 : Ev × Rd -> List (Bs × Bool × Bs) × Rd -> Prop) (inv32 : Ev × Rd -> Ev × Rd -> Prop) (R : AV -> List LObj -> Prop) : (vcA false false (List.length ([.box tyRd [sl l, bl b]] : List LObj)) [0, 1, 2] Tryz.prog
 (mkTab [(42, .lend TWords), (79, .lend TIdxT), (43, .hand tkR TFields), (66, .hand tkN TNumbers), (44, .lend TStamped), (78, .hand tkR TNumber), (80, .hand tkR TText), (65, .hand tkR TBlank), (81, .lend TCutPre), (82,
 .hand tkR TMore), (83, .hand tkR TChange), (84, .lend TIdP), (25, .lend TWrong)]) (optC (Tryz.f67.body.getD .skip)) ([.cut 2 (Ev × Rd) inv2 (λ x => ⟨slotsOf 176 0 [(0, .ptr 0 0 0 0), (4, .ptr 1 0 0 0)], [rdO x.2, .box
 tyEv (cellsQ x.1 nilS nilS nilS nilS)]⟩) (λ _ => [.cut 3 (Ev × Rd) inv3 (λ x => ⟨slotsOf 176 0 [(0, .ptr 0 0 0 0), (4, .ptr 1 0 0 0)], [rdO x.2, .box tyEv (cellsQ x.1 nilS nilS nilS nilS)]⟩) (λ _ => [.cut 7 (Ev ×
 Rd) inv7 (λ x => ⟨slotsOf 176 0 [(0, .ptr 0 0 0 0), (4, .ptr 1 0 0 0)], [rdO x.2, .box tyEv (cellsQ x.1 nilS nilS nilS nilS)]⟩) (λ x => [ .cut 32 (Ev × Rd) (inv32 x) (λ y => ⟨slotsOf 176 0 [(0, .ptr 0 0 0 0), (4,
 .ptr 1 0 0 0)], [rdO y.2, .box tyEv (cellsQ y.1 (.own 2 0 y.1.keep.length) (.own 3 0 y.1.conf.length) (.own 4 0 y.1.map.length) (.own 5 0 y.1.edit.length)), .row 1 tyBool y.1.keep.length (boolF y.1.keep), .row 1 tyInt
 y.1.conf.length (intF y.1.conf), .row 2 tyRow y.1.map.length (rowF y.1.map), .row 3 tyChg y.1.edit.length (chgF y.1.edit)]⟩) (λ _ => []), .loop 11 (Nat × Bool) (inv11 x) (λ i => ⟨slotsOf 176 0 [(0, .ptr 0 0 0 0), (4,
 .ptr 1 0 0 0), (7, bl i.2), (61, .rows 1 (s1 x.2).length (byteF (bs (s1 x.2)))), (62, nm (s1 x.2).length), (63, nm i.1)], [rdO (blankR x.2).2, .box tyEv (cellsQ x.1 (.own 2 0 i.1) nilS nilS nilS), .row 1 tyBool i.1
 (boolF ((s1 x.2).map (· == 49)))]⟩) (λ i => (s1 x.2).length - i.1) (λ _ => []), .loop 18 (List Int × Rd) (inv18 x) (λ y => ⟨slotsOf 176 0 [(0, .ptr 0 0 0 0), (4, .ptr 1 0 0 0)], [rdO y.2, .box tyEv (cellsQ x.1 nilS
 (.own 2 0 y.1.length) nilS nilS), .row 1 tyInt y.1.length (intF y.1)]⟩) (λ y => y.2.rest.length) (λ _ => []), .loop 21 (List (Bs × Bs) × Rd) (inv21 x) (λ y => ⟨slotsOf 176 0 [(0, .ptr 0 0 0 0), (4, .ptr 1 0 0 0)],
 [rdO y.2, .box tyEv (cellsQ x.1 nilS nilS (.own 2 0 y.1.length) nilS), .row 2 tyRow y.1.length (rowF y.1)]⟩) (λ y => y.2.rest.length) (λ _ => []), .loop 25 (List (Bs × Bool × Bs) × Rd) (inv25 x) (λ y => ⟨slotsOf
 176 0 [(0, .ptr 0 0 0 0), (4, .ptr 1 0 0 0)], [rdO y.2, .box tyEv (cellsQ x.1 nilS nilS nilS (.own 2 0 y.1.length)), .row 3 tyChg y.1.length (chgF y.1)]⟩) (λ y => y.2.rest.length) (λ _ => [])])])])]) (finalKS
 Tryz.prog Tryz.f67 (List.length ([.box tyRd [sl l, bl b]] : List LObj)) (λ y H => ∃ _ : Unit, leSt 1 ⟨[y], H⟩ ⟨[(eventR w ⟨l, b⟩).1.av], [rdO (eventR w ⟨l, b⟩).2]⟩ (R (eventR w ⟨l, b⟩).1.av [rdO (eventR w ⟨l, b⟩).2])))
 (startStH Tryz.f67 ([.box tyRd [sl l, bl b]]) ([.ptr 0 0 0 0, sl w]))) = ( True /\ ((((0 : Nat) + 16).le (16 : Nat) /\ True /\ True) /\ ∃ (ls : List Bs), (IsTexts (AV.rows 1 16 λ (i : Nat) => sl (wordsL.getD ((0 : Nat)
 + i) [])) ls /\ ls.length.le (1000 : Nat)) /\ True /\ True /\ True /\ ∃ (x : Ev × Rd), ((True /\ 0 = 0 /\ 0 = 0 /\ 0 = 0) /\ (True /\ 0 = 0 /\ 0 = 0 /\ 0 = 0) /\ True) /\ ((125 = 125 /\ bs l = bs x.2.rest /\ b = x.2.bad
 /\ True) /\ (62 = 62 /\ (if (0 : Int) > idxT w ls then (0 : Int) else idxT w ls) = x.1.kind /\ (0 : Int) = x.1.node /\ (0 : Int) = x.1.to /\ (0 : Int) = x.1.n /\ nQ = nQ /\ nQ = nQ /\ ByteArray.mk #[] = bs x.1.branch /\
 nQ = nQ /\ nQ = nQ /\ (0 : Int) = x.1.author /\ ByteArray.mk #[] = bs x.1.note /\ (0 : Int) = x.1.ck /\ (0 : Int) = x.1.client /\ (0 : Int) = x.1.seq /\ ByteArray.mk #[] = bs x.1.cbranch /\ (k8Q = k8Q /\ 32 = 32 /\ ∀ i <
 32, (0 : Int) = x.1.old i) /\ (k8Q = k8Q /\ 32 = 32 /\ ∀ i < 32, (0 : Int) = x.1.new i) /\ nQ = nQ /\ True) /\ True) /\ inv2 x) /\ ∀ (x : Ev × Rd), inv2 x -> ((True /\ True) /\ 62 = 62 /\ (clsK x.1.kind = 1 -> (True /\
 True /\ True) /\ ∃ (e : Ev), (125 = 125 /\ x.2.rest.length.le rlim /\ 62 = 62 /\ 107 = 107 /\ IsZ [nm x.1.kind, nm x.1.node, nm x.1.to, nm x.1.n, nilS, nilS, sl x.1.branch, nilS, nilS, nuQ x.1.author, sl x.1.note, nm
 x.1.ck, nm x.1.client, nuQ x.1.seq, sl x.1.cbranch, iaQ x.1.old, iaQ x.1.new, nilS] e /\ IsPtrs [AV.ptr 1 0 1 0, AV.ptr 1 0 3 0] (2 : Nat) e.kind) /\ ∃ (x_1 : Ev × Rd), ((True /\ 0 = 0 /\ 0 = 0 /\ 0 = 0) /\ (True /\ 0 =
 0 /\ 0 = 0 /\ 0 = 0) /\ True) /\ ((125 = 125 /\ bs (numbersR (fieldsN e.kind) x.2).2.rest = bs x_1.2.rest /\ (numbersR (fieldsN e.kind) x.2).2.bad = x_1.2.bad /\ True) /\ (62 = 62 /\ (e.setF (numbersR (fieldsN e.kind)
 x.2).1).kind = x_1.1.kind /\ (e.setF (numbersR (fieldsN e.kind) x.2).1).node = x_1.1.node /\ (e.setF (numbersR (fieldsN e.kind) x.2).1).to = x_1.1.to /\ (e.setF (numbersR (fieldsN e.kind) x.2).1).n = x_1.1.n /\ nQ = nQ
 /\ nQ = nQ /\ bs (e.setF (numbersR (fieldsN e.kind) x.2).1).branch = bs x_1.1.branch /\ nQ = nQ /\ nQ = nQ /\ (e.setF (numbersR (fieldsN e.kind) x.2).1).author = x_1.1.author /\ bs (e.setF (numbersR (fieldsN e.kind)
 x.2).1).note = bs x_1.1.note /\ (e.setF (numbersR (fieldsN e.kind) x.2).1).ck = x_1.1.ck /\ (e.setF (numbersR (fieldsN e.kind) x.2).1).client = x_1.1.client /\ (e.setF (numbersR (fieldsN e.kind) x.2).1).seq = x_1.1.seq
 /\ bs (e.setF (numbersR (fieldsN e.kind) x.2).1).cbranch = bs x_1.1.cbranch /\ (k8Q = k8Q /\ 32 = 32 /\ ∀ i < 32, (e.setF (numbersR (fieldsN e.kind) x.2).1).old i = x_1.1.old i) /\ (k8Q = k8Q /\ 32 = 32 /\ ∀ i < 32,
 (e.setF (numbersR (fieldsN e.kind) x.2).1).new i = x_1.1.new i) /\ nQ = nQ /\ True) /\ True) /\ inv3 x_1) /\ (clsK x.1.kind = 2 -> (True /\ True /\ True) /\ ∃ (e : Ev), (125 = 125 /\ x.2.rest.length.le rlim /\ 62 = 62 /\
 107 = 107 /\ IsZ [nm x.1.kind, nm x.1.node, nm x.1.to, nm x.1.n, nilS, nilS, sl x.1.branch, nilS, nilS, nuQ x.1.author, sl x.1.note, nm x.1.ck, nm x.1.client, nuQ x.1.seq, sl x.1.cbranch, iaQ x.1.old, iaQ x.1.new, nilS]
 e /\ IsPtrs [AV.ptr 1 0 3 0] (1 : Nat) e.kind) /\ ∃ (x_1 : Ev × Rd), ((True /\ 0 = 0 /\ 0 = 0 /\ 0 = 0) /\ (True /\ 0 = 0 /\ 0 = 0 /\ 0 = 0) /\ True) /\ ((125 = 125 /\ bs (numbersR (fieldsN e.kind) x.2).2.rest = bs
 x_1.2.rest /\ (numbersR (fieldsN e.kind) x.2).2.bad = x_1.2.bad /\ True) /\ (62 = 62 /\ (e.setF (numbersR (fieldsN e.kind) x.2).1).kind = x_1.1.kind /\ (e.setF (numbersR (fieldsN e.kind) x.2).1).node = x_1.1.node /\
 (e.setF (numbersR (fieldsN e.kind) x.2).1).to = x_1.1.to /\ (e.setF (numbersR (fieldsN e.kind) x.2).1).n = x_1.1.n /\ nQ = nQ /\ nQ = nQ /\ bs (e.setF (numbersR (fieldsN e.kind) x.2).1).branch = bs x_1.1.branch /\ nQ =
 nQ /\ nQ = nQ /\ (e.setF (numbersR (fieldsN e.kind) x.2).1).author = x_1.1.author /\ bs (e.setF (numbersR (fieldsN e.kind) x.2).1).note = bs x_1.1.note /\ (e.setF (numbersR (fieldsN e.kind) x.2).1).ck = x_1.1.ck /\
 (e.setF (numbersR (fieldsN e.kind) x.2).1).client = x_1.1.client /\ (e.setF (numbersR (fieldsN e.kind) x.2).1).seq = x_1.1.seq /\ bs (e.setF (numbersR (fieldsN e.kind) x.2).1).cbranch = bs x_1.1.cbranch /\ (k8Q = k8Q /\
 32 = 32 /\ ∀ i < 32, (e.setF (numbersR (fieldsN e.kind) x.2).1).old i = x_1.1.old i) /\ (k8Q = k8Q /\ 32 = 32 /\ ∀ i < 32, (e.setF (numbersR (fieldsN e.kind) x.2).1).new i = x_1.1.new i) /\ nQ = nQ /\ True) /\ True) /\
 inv3 x_1) /\ (clsK x.1.kind = 3 -> (True /\ True /\ True) /\ ∃ (e : Ev), (125 = 125 /\ x.2.rest.length.le rlim /\ 62 = 62 /\ 107 = 107 /\ IsZ [nm x.1.kind, nm x.1.node, nm x.1.to, nm x.1.n, nilS, nilS, sl x.1.branch,
 nilS, nilS, nuQ x.1.author, sl x.1.note, nm x.1.ck, nm x.1.client, nuQ x.1.seq, sl x.1.cbranch, iaQ x.1.old, iaQ x.1.new, nilS] e /\ IsPtrs [AV.ptr 1 0 1 0, AV.ptr 1 0 2 0] (2 : Nat) e.kind) /\ ∃ (x_1 : Ev × Rd), ((True
 /\ 0 = 0 /\ 0 = 0 /\ 0 = 0) /\ (True /\ 0 = 0 /\ 0 = 0 /\ 0 = 0) /\ True) /\ ((125 = 125 /\ bs (numbersR (fieldsN e.kind) x.2).2.rest = bs x_1.2.rest /\ (numbersR (fieldsN e.kind) x.2).2.bad = x_1.2.bad /\ True) /\ (62 =
 62 /\ (e.setF (numbersR (fieldsN e.kind) x.2).1).kind = x_1.1.kind /\ (e.setF (numbersR (fieldsN e.kind) x.2).1).node = x_1.1.node /\ (e.setF (numbersR (fieldsN e.kind) x.2).1).to = x_1.1.to /\ (e.setF (numbersR (fieldsN
 e.kind) x.2).1).n = x_1.1.n /\ nQ = nQ /\ nQ = nQ /\ bs (e.setF (numbersR (fieldsN e.kind) x.2).1).branch = bs x_1.1.branch /\ nQ = nQ /\ nQ = nQ /\ (e.setF (numbersR (fieldsN e.kind) x.2).1).author = x_1.1.author /\ bs
 (e.setF (numbersR (fieldsN e.kind) x.2).1).note = bs x_1.1.note /\ (e.setF (numbersR (fieldsN e.kind) x.2).1).ck = x_1.1.ck /\ (e.setF (numbersR (fieldsN e.kind) x.2).1).client = x_1.1.client /\ (e.setF (numbersR
 (fieldsN e.kind) x.2).1).seq = x_1.1.seq /\ bs (e.setF (numbersR (fieldsN e.kind) x.2).1).cbranch = bs x_1.1.cbranch /\ (k8Q = k8Q /\ 32 = 32 /\ ∀ i < 32, (e.setF (numbersR (fieldsN e.kind) x.2).1).old i = x_1.1.old i)
 /\ (k8Q = k8Q /\ 32 = 32 /\ ∀ i < 32, (e.setF (numbersR (fieldsN e.kind) x.2).1).new i = x_1.1.new i) /\ nQ = nQ /\ True) /\ True) /\ inv3 x_1) /\ (clsK x.1.kind = 4 -> (True /\ True /\ True) /\ ∃ (e : Ev), (125 = 125 /\
 x.2.rest.length.le rlim /\ 62 = 62 /\ 107 = 107 /\ IsZ [nm x.1.kind, nm x.1.node, nm x.1.to, nm x.1.n, nilS, nilS, sl x.1.branch, nilS, nilS, nuQ x.1.author, sl x.1.note, nm x.1.ck, nm x.1.client, nuQ x.1.seq, sl
 x.1.cbranch, iaQ x.1.old, iaQ x.1.new, nilS] e /\ IsPtrs [AV.ptr 1 0 1 0] (1 : Nat) e.kind) /\ ∃ (x_1 : Ev × Rd), ((True /\ 0 = 0 /\ 0 = 0 /\ 0 = 0) /\ (True /\ 0 = 0 /\ 0 = 0 /\ 0 = 0) /\ True) /\ ((125 = 125 /\ bs
 (numbersR (fieldsN e.kind) x.2).2.rest = bs x_1.2.rest /\ (numbersR (fieldsN e.kind) x.2).2.bad = x_1.2.bad /\ True) /\ (62 = 62 /\ (e.setF (numbersR (fieldsN e.kind) x.2).1).kind = x_1.1.kind /\ (e.setF (numbersR
 (fieldsN e.kind) x.2).1).node = x_1.1.node /\ (e.setF (numbersR (fieldsN e.kind) x.2).1).to = x_1.1.to /\ (e.setF (numbersR (fieldsN e.kind) x.2).1).n = x_1.1.n /\ nQ = nQ /\ nQ = nQ /\ bs (e.setF (numbersR (fieldsN
 e.kind) x.2).1).branch = bs x_1.1.branch /\ nQ = nQ /\ nQ = nQ /\ (e.setF (numbersR (fieldsN e.kind) x.2).1).author = x_1.1.author /\ bs (e.setF (numbersR (fieldsN e.kind) x.2).1).note = bs x_1.1.note /\ (e.setF
 (numbersR (fieldsN e.kind) x.2).1).ck = x_1.1.ck /\ (e.setF (numbersR (fieldsN e.kind) x.2).1).client = x_1.1.client /\ (e.setF (numbersR (fieldsN e.kind) x.2).1).seq = x_1.1.seq /\ bs (e.setF (numbersR (fieldsN e.kind)
 x.2).1).cbranch = bs x_1.1.cbranch /\ (k8Q = k8Q /\ 32 = 32 /\ ∀ i < 32, (e.setF (numbersR (fieldsN e.kind) x.2).1).old i = x_1.1.old i) /\ (k8Q = k8Q /\ 32 = 32 /\ ∀ i < 32, (e.setF (numbersR (fieldsN e.kind)
 x.2).1).new i = x_1.1.new i) /\ nQ = nQ /\ True) /\ True) /\ inv3 x_1) /\ (clsK x.1.kind = 5 -> (True /\ True /\ True) /\ ∃ (e : Ev), (125 = 125 /\ x.2.rest.length.le rlim /\ 62 = 62 /\ 107 = 107 /\ IsZ [nm x.1.kind, nm
 x.1.node, nm x.1.to, nm x.1.n, nilS, nilS, sl x.1.branch, nilS, nilS, nuQ x.1.author, sl x.1.note, nm x.1.ck, nm x.1.client, nuQ x.1.seq, sl x.1.cbranch, iaQ x.1.old, iaQ x.1.new, nilS] e /\ IsPtrs [AV.ptr 1 0 1 0,
 AV.ptr 1 0 11 0] (2 : Nat) e.kind) /\ ∃ (x_1 : Ev × Rd), ((True /\ 0 = 0 /\ 0 = 0 /\ 0 = 0) /\ (True /\ 0 = 0 /\ 0 = 0 /\ 0 = 0) /\ True) /\ ((125 = 125 /\ bs (numbersR (fieldsN e.kind) x.2).2.rest = bs x_1.2.rest /\
 (numbersR (fieldsN e.kind) x.2).2.bad = x_1.2.bad /\ True) /\ (62 = 62 /\ (e.setF (numbersR (fieldsN e.kind) x.2).1).kind = x_1.1.kind /\ (e.setF (numbersR (fieldsN e.kind) x.2).1).node = x_1.1.node /\ (e.setF (numbersR
 (fieldsN e.kind) x.2).1).to = x_1.1.to /\ (e.setF (numbersR (fieldsN e.kind) x.2).1).n = x_1.1.n /\ nQ = nQ /\ nQ = nQ /\ bs (e.setF (numbersR (fieldsN e.kind) x.2).1).branch = bs x_1.1.branch /\ nQ = nQ /\ nQ = nQ /\
 (e.setF (numbersR (fieldsN e.kind) x.2).1).author = x_1.1.author /\ bs (e.setF (numbersR (fieldsN e.kind) x.2).1).note = bs x_1.1.note /\ (e.setF (numbersR (fieldsN e.kind) x.2).1).ck = x_1.1.ck /\ (e.setF (numbersR
 (fieldsN e.kind) x.2).1).client = x_1.1.client /\ (e.setF (numbersR (fieldsN e.kind) x.2).1).seq = x_1.1.seq /\ bs (e.setF (numbersR (fieldsN e.kind) x.2).1).cbranch = bs x_1.1.cbranch /\ (k8Q = k8Q /\ 32 = 32 /\ ∀ i <
 32, (e.setF (numbersR (fieldsN e.kind) x.2).1).old i = x_1.1.old i) /\ (k8Q = k8Q /\ 32 = 32 /\ ∀ i < 32, (e.setF (numbersR (fieldsN e.kind) x.2).1).new i = x_1.1.new i) /\ nQ = nQ /\ True) /\ True) /\ inv3 x_1) /\ (clsK
 x.1.kind = 0 -> (True /\ True /\ True) /\ 125 = 125 /\ ∃ (x_1 : Ev × Rd), ((True /\ 0 = 0 /\ 0 = 0 /\ 0 = 0) /\ (True /\ 0 = 0 /\ 0 = 0 /\ 0 = 0) /\ True) /\ ((125 = 125 /\ bs x.2.rest = bs x_1.2.rest /\ x.2.bad =
 x_1.2.bad /\ True) /\ (62 = 62 /\ x.1.kind = x_1.1.kind /\ x.1.node = x_1.1.node /\ x.1.to = x_1.1.to /\ x.1.n = x_1.1.n /\ nQ = nQ /\ nQ = nQ /\ bs x.1.branch = bs x_1.1.branch /\ nQ = nQ /\ nQ = nQ /\ x.1.author =
 x_1.1.author /\ bs x.1.note = bs x_1.1.note /\ x.1.ck = x_1.1.ck /\ x.1.client = x_1.1.client /\ x.1.seq = x_1.1.seq /\ bs x.1.cbranch = bs x_1.1.cbranch /\ (k8Q = k8Q /\ 32 = 32 /\ ∀ i < 32, x.1.old i = x_1.1.old i) /\
 (k8Q = k8Q /\ 32 = 32 /\ ∀ i < 32, x.1.new i = x_1.1.new i) /\ nQ = nQ /\ True) /\ True) /\ inv3 x_1)) /\ ∀ (x : Ev × Rd), inv3 x -> ((stampedK x.1.kind = true -> (True /\ True) /\ (125 = 125 /\ x.2.rest.length.le rlim)
 /\ True /\ (True /\ True) /\ (125 = 125 /\ (List.length (numberR x.2).2.rest).le rlim) /\ (True /\ True) /\ (125 = 125 /\ (List.length (textR (Rd.mk (numberR x.2).2.rest (bif bif (numberR x.2).2.bad then true else decide
 ((numberR x.2).1 < 0) then true else decide ((numberR x.2).1 > 4294967295)))).2.rest).le rlim) /\ True /\ True /\ True /\ ∃ (x_1 : Ev × Rd), ((True /\ 0 = 0 /\ 0 = 0 /\ 0 = 0) /\ (True /\ 0 = 0 /\ 0 = 0 /\ 0 = 0) /\
 True) /\ ((125 = 125 /\ bs (textR (textR (Rd.mk (numberR x.2).2.rest (bif bif (numberR x.2).2.bad then true else decide ((numberR x.2).1 < 0) then true else decide ((numberR x.2).1 > 4294967295)))).2).2.rest = bs
 x_1.2.rest /\ (textR (textR (Rd.mk (numberR x.2).2.rest (bif bif (numberR x.2).2.bad then true else decide ((numberR x.2).1 < 0) then true else decide ((numberR x.2).1 > 4294967295)))).2).2.bad = x_1.2.bad /\ True) /\
 (62 = 62 /\ x.1.kind = x_1.1.kind /\ x.1.node = x_1.1.node /\ x.1.to = x_1.1.to /\ x.1.n = x_1.1.n /\ nQ = nQ /\ nQ = nQ /\ bs (textR (Rd.mk (numberR x.2).2.rest (bif bif (numberR x.2).2.bad then true else decide
 ((numberR x.2).1 < 0) then true else decide ((numberR x.2).1 > 4294967295)))).1 = bs x_1.1.branch /\ nQ = nQ /\ nQ = nQ /\ k32Q.wrap (numberR x.2).1 = x_1.1.author /\ bs (textR (textR (Rd.mk (numberR x.2).2.rest (bif bif
 (numberR x.2).2.bad then true else decide ((numberR x.2).1 < 0) then true else decide ((numberR x.2).1 > 4294967295)))).2).1 = bs x_1.1.note /\ x.1.ck = x_1.1.ck /\ x.1.client = x_1.1.client /\ x.1.seq = x_1.1.seq /\ bs
 x.1.cbranch = bs x_1.1.cbranch /\ (k8Q = k8Q /\ 32 = 32 /\ ∀ i < 32, x.1.old i = x_1.1.old i) /\ (k8Q = k8Q /\ 32 = 32 /\ ∀ i < 32, x.1.new i = x_1.1.new i) /\ nQ = nQ /\ True) /\ True) /\ inv7 x_1) /\ (stampedK x.1.kind
 = false -> ∃ (x_1 : Ev × Rd), ((True /\ 0 = 0 /\ 0 = 0 /\ 0 = 0) /\ (True /\ 0 = 0 /\ 0 = 0 /\ 0 = 0) /\ True) /\ ((125 = 125 /\ bs x.2.rest = bs x_1.2.rest /\ x.2.bad = x_1.2.bad /\ True) /\ (62 = 62 /\ x.1.kind =
 x_1.1.kind /\ x.1.node = x_1.1.node /\ x.1.to = x_1.1.to /\ x.1.n = x_1.1.n /\ nQ = nQ /\ nQ = nQ /\ bs x.1.branch = bs x_1.1.branch /\ nQ = nQ /\ nQ = nQ /\ x.1.author = x_1.1.author /\ bs x.1.note = bs x_1.1.note /\
 x.1.ck = x_1.1.ck /\ x.1.client = x_1.1.client /\ x.1.seq = x_1.1.seq /\ bs x.1.cbranch = bs x_1.1.cbranch /\ (k8Q = k8Q /\ 32 = 32 /\ ∀ i < 32, x.1.old i = x_1.1.old i) /\ (k8Q = k8Q /\ 32 = 32 /\ ∀ i < 32, x.1.new i =
 x_1.1.new i) /\ nQ = nQ /\ True) /\ True) /\ inv7 x_1)) /\ ∀ (x : Ev × Rd), inv7 x -> (((x.1.kind == 8) = true -> (True /\ True) /\ (125 = 125 /\ x.2.rest.length.le rlim) /\ (List.length (cutPre ([61] : Bs) (blankR
 x.2).1)).le maxLen /\ (∃ (x_1 : Nat × Bool), ((True /\ 0 = 0 /\ 0 = 0 /\ 0 = 0) /\ (True /\ 0 = 0 /\ 0 = 0 /\ 0 = 0) /\ ([61] : Bs).isPrefixOf (blankR x.2).1 = x_1.2 /\ (1 = 1 /\ (List.length (cutPre ([61] : Bs) (blankR
 x.2).1)) = List.length (s1 x.2) /\ ∀ (i : Nat), i < (List.length (cutPre ([61] : Bs) (blankR x.2).1)) -> AV.pl (Value.int k8Q (↑ ((cutPre ([61] : Bs) (blankR x.2).1).getD i (0 : UInt8)).toNat : Int)) = AV.pl (Value.int
 k8Q (↑ ((s1 x.2).getD i (0 : UInt8)).toNat : Int))) /\ (↑ (List.length (cutPre ([61] : Bs) (blankR x.2).1)) : Int) = (↑ (List.length (s1 x.2)) : Int) /\ (0 : Int) = (↑x_1.1 : Int) /\ True) /\ ((125 = 125 /\ bs (blankR
 x.2).2.rest = bs (blankR x.2).2.rest /\ (blankR x.2).2.bad = (blankR x.2).2.bad /\ True) /\ (62 = 62 /\ x.1.kind = x.1.kind /\ x.1.node = x.1.node /\ x.1.to = x.1.to /\ x.1.n = x.1.n /\ (True /\ True /\ 0 = 0 /\ x_1.1 =
 0) /\ nQ = nQ /\ bs x.1.branch = bs x.1.branch /\ nQ = nQ /\ nQ = nQ /\ x.1.author = x.1.author /\ bs x.1.note = bs x.1.note /\ x.1.ck = x.1.ck /\ x.1.client = x.1.client /\ x.1.seq = x.1.seq /\ bs x.1.cbranch = bs
 x.1.cbranch /\ (k8Q = k8Q /\ 32 = 32 /\ ∀ i < 32, x.1.old i = x.1.old i) /\ (k8Q = k8Q /\ 32 = 32 /\ ∀ i < 32, x.1.new i = x.1.new i) /\ nQ = nQ /\ True) /\ x_1.1 = 0 /\ True) /\ inv11 x x_1) /\ ∀ (x_1 : Nat × Bool),
 inv11 x x_1 -> (decide ((↑x_1.1 : Int) < (↑ (List.length (s1 x.2)) : Int)) = true -> ((0 : Int) <= (↑x_1.1 : Int) /\ (↑x_1.1 : Int) + 1 <= (↑ (List.length (s1 x.2)) : Int)) /\ True /\ (((0 : Nat) + 1).le (1 : Nat) /\
 x_1.1 = x_1.1 /\ (x_1.1 + 1).le maxLen /\ ((x_1.1 + 1) * 1).le (140737488355328 : Nat)) /\ True /\ ∃ (y : Nat × Bool), ((True /\ 0 = 0 /\ 0 = 0 /\ 0 = 0) /\ (True /\ 0 = 0 /\ 0 = 0 /\ 0 = 0) /\ (bif x_1.2 then bif (↑
 ((s1 x.2).getD (↑x_1.1 : Int).toNat (0 : UInt8)).toNat : Int) == 48 then true else (↑ ((s1 x.2).getD (↑x_1.1 : Int).toNat (0 : UInt8)).toNat : Int) == 49 else false) = y.2 /\ (1 = 1 /\ List.length (s1 x.2) = List.length
 (s1 x.2) /\ ∀ (i : Nat), i < List.length (s1 x.2) -> AV.pl (Value.int k8Q (↑ ((s1 x.2).getD i (0 : UInt8)).toNat : Int)) = AV.pl (Value.int k8Q (↑ ((s1 x.2).getD i (0 : UInt8)).toNat : Int))) /\ (↑ (List.length (s1 x.2))
 : Int) = (↑ (List.length (s1 x.2)) : Int) /\ k64Q.wrap ((↑x_1.1 : Int) + 1) = (↑y.1 : Int) /\ True) /\ ((125 = 125 /\ bs (blankR x.2).2.rest = bs (blankR x.2).2.rest /\ (blankR x.2).2.bad = (blankR x.2).2.bad /\ True) /\
 (62 = 62 /\ x.1.kind = x.1.kind /\ x.1.node = x.1.node /\ x.1.to = x.1.to /\ x.1.n = x.1.n /\ (True /\ 0 = 0 /\ x_1.1 + 1 = y.1) /\ nQ = nQ /\ bs x.1.branch = bs x.1.branch /\ nQ = nQ /\ nQ = nQ /\ x.1.author =
 x.1.author /\ bs x.1.note = bs x.1.note /\ x.1.ck = x.1.ck /\ x.1.client = x.1.client /\ x.1.seq = x.1.seq /\ bs x.1.cbranch = bs x.1.cbranch /\ (k8Q = k8Q /\ 32 = 32 /\ ∀ i < 32, x.1.old i = x.1.old i) /\ (k8Q = k8Q /\
 32 = 32 /\ ∀ i < 32, x.1.new i = x.1.new i) /\ nQ = nQ /\ True) /\ (1 = 1 /\ 4 = 4 /\ y.1.le (x_1.1 + 1) /\ ∀ i < y.1, (if i < x_1.1 then bl ((List.map (λ (x : UInt8) => x == (49 : UInt8)) (s1 x.2)).getD i false) else
 rowOf [((0 : Nat), bl ((↑ ((s1 x.2).getD (↑x_1.1 : Int).toNat (0 : UInt8)).toNat : Int) == 49))] ((0 : Nat) + (i - x_1.1))) = bl ((List.map (λ (x : UInt8) => x == (49 : UInt8)) (s1 x.2)).getD i false)) /\ True) /\
 inv11 x y /\ (List.length (s1 x.2) - y.1).succ.le (List.length (s1 x.2) - x_1.1)) /\ (decide ((↑x_1.1 : Int) < (↑ (List.length (s1 x.2)) : Int)) = false -> True /\ ∃ (x_2 : Ev × Rd), ((True /\ 0 = 0 /\ 0 = 0 /\ 0 = 0) /\
 (True /\ 0 = 0 /\ 0 = 0 /\ 0 = 0) /\ True) /\ ((125 = 125 /\ bs (blankR x.2).2.rest = bs x_2.2.rest /\ (bif (blankR x.2).2.bad then true else !x_1.2) = x_2.2.bad /\ True) /\ (62 = 62 /\ x.1.kind = x_2.1.kind /\ x.1.node
 = x_2.1.node /\ x.1.to = x_2.1.to /\ x.1.n = x_2.1.n /\ (True /\ 0 = 0 /\ x_1.1 = x_2.1.keep.length) /\ (True /\ True /\ 0 = 0 /\ x_2.1.conf.length = 0) /\ bs x.1.branch = bs x_2.1.branch /\ (True /\ True /\ 0 = 0 /\
 x_2.1.map.length = 0) /\ (True /\ True /\ 0 = 0 /\ x_2.1.edit.length = 0) /\ x.1.author = x_2.1.author /\ bs x.1.note = bs x_2.1.note /\ x.1.ck = x_2.1.ck /\ x.1.client = x_2.1.client /\ x.1.seq = x_2.1.seq /\ bs
 x.1.cbranch = bs x_2.1.cbranch /\ (k8Q = k8Q /\ 32 = 32 /\ ∀ i < 32, x.1.old i = x_2.1.old i) /\ (k8Q = k8Q /\ 32 = 32 /\ ∀ i < 32, x.1.new i = x_2.1.new i) /\ nQ = nQ /\ True) /\ (1 = 1 /\ 4 = 4 /\ x_2.1.keep.length.le
 x_1.1 /\ ∀ i < x_2.1.keep.length, bl ((List.map (λ (x : UInt8) => x == (49 : UInt8)) (s1 x.2)).getD i false) = bl (x_2.1.keep.getD i false)) /\ x_2.1.conf.length = 0 /\ x_2.1.map.length = 0 /\ x_2.1.edit.length = 0 /\
 True) /\ inv32 x x_2)) /\ ((x.1.kind == 8) = false -> ((x.1.kind == 10) = true -> (∃ (x_1 : List Int × Rd), ((True /\ 0 = 0 /\ 0 = 0 /\ 0 = 0) /\ (True /\ 0 = 0 /\ 0 = 0 /\ 0 = 0) /\ True) /\ ((125 = 125 /\ bs x.2.rest =
 bs x_1.2.rest /\ x.2.bad = x_1.2.bad /\ True) /\ (62 = 62 /\ x.1.kind = x.1.kind /\ x.1.node = x.1.node /\ x.1.to = x.1.to /\ x.1.n = x.1.n /\ nQ = nQ /\ (True /\ True /\ 0 = 0 /\ x_1.1.length = 0) /\ bs x.1.branch = bs
 x.1.branch /\ nQ = nQ /\ nQ = nQ /\ x.1.author = x.1.author /\ bs x.1.note = bs x.1.note /\ x.1.ck = x.1.ck /\ x.1.client = x.1.client /\ x.1.seq = x.1.seq /\ bs x.1.cbranch = bs x.1.cbranch /\ (k8Q = k8Q /\ 32 = 32 /\ ∀
 i < 32, x.1.old i = x.1.old i) /\ (k8Q = k8Q /\ 32 = 32 /\ ∀ i < 32, x.1.new i = x.1.new i) /\ nQ = nQ /\ True) /\ x_1.1.length = 0 /\ True) /\ inv18 x x_1) /\ ∀ (x_1 : List Int × Rd), inv18 x x_1 -> (True /\ True) /\
 125 = 125 /\ (moreR x_1.2 = true -> ((True /\ True) /\ (125 = 125 /\ x_1.2.rest.length.le rlim) /\ True /\ (((0 : Nat) + 1).le (1 : Nat) /\ x_1.1.length = x_1.1.length /\ (x_1.1.length + 1).le maxLen /\ ((x_1.1.length +
 1) * 8).le (140737488355328 : Nat)) /\ True /\ ∃ (y : List Int × Rd), ((True /\ 0 = 0 /\ 0 = 0 /\ 0 = 0) /\ (True /\ 0 = 0 /\ 0 = 0 /\ 0 = 0) /\ True) /\ ((125 = 125 /\ bs (numberR x_1.2).2.rest = bs y.2.rest /\ (numberR
 x_1.2).2.bad = y.2.bad /\ True) /\ (62 = 62 /\ x.1.kind = x.1.kind /\ x.1.node = x.1.node /\ x.1.to = x.1.to /\ x.1.n = x.1.n /\ nQ = nQ /\ (True /\ 0 = 0 /\ x_1.1.length + 1 = y.1.length) /\ bs x.1.branch = bs
 x.1.branch /\ nQ = nQ /\ nQ = nQ /\ x.1.author = x.1.author /\ bs x.1.note = bs x.1.note /\ x.1.ck = x.1.ck /\ x.1.client = x.1.client /\ x.1.seq = x.1.seq /\ bs x.1.cbranch = bs x.1.cbranch /\ (k8Q = k8Q /\ 32 = 32 /\ ∀
 i < 32, x.1.old i = x.1.old i) /\ (k8Q = k8Q /\ 32 = 32 /\ ∀ i < 32, x.1.new i = x.1.new i) /\ nQ = nQ /\ True) /\ (1 = 1 /\ 3 = 3 /\ y.1.length.le (x_1.1.length + 1) /\ ∀ i < y.1.length, (if i < x_1.1.length then nm
 (x_1.1.getD i (0 : Int)) else rowOf [((0 : Nat), nm (numberR x_1.2).1)] ((0 : Nat) + (i - x_1.1.length))) = nm (y.1.getD i (0 : Int))) /\ True) /\ inv18 x y /\ y.2.rest.length.succ.le x_1.2.rest.length) /\ (True /\ True)
 /\ (125 = 125 /\ x_1.2.rest.length.le rlim) /\ (True /\ (((0 : Nat) + 1).le (1 : Nat) /\ x_1.1.length = x_1.1.length /\ (x_1.1.length + 1).le maxLen /\ ((x_1.1.length + 1) * 8).le (140737488355328 : Nat)) /\ True /\ ∃ (y
 : List Int × Rd), ((True /\ 0 = 0 /\ 0 = 0 /\ 0 = 0) /\ (True /\ 0 = 0 /\ 0 = 0 /\ 0 = 0) /\ True) /\ ((125 = 125 /\ bs (numberR x_1.2).2.rest = bs y.2.rest /\ (numberR x_1.2).2.bad = y.2.bad /\ True) /\ (62 = 62 /\
 x.1.kind = x.1.kind /\ x.1.node = x.1.node /\ x.1.to = x.1.to /\ x.1.n = x.1.n /\ nQ = nQ /\ (True /\ 0 = 0 /\ x_1.1.length + 1 = y.1.length) /\ bs x.1.branch = bs x.1.branch /\ nQ = nQ /\ nQ = nQ /\ x.1.author =
 x.1.author /\ bs x.1.note = bs x.1.note /\ x.1.ck = x.1.ck /\ x.1.client = x.1.client /\ x.1.seq = x.1.seq /\ bs x.1.cbranch = bs x.1.cbranch /\ (k8Q = k8Q /\ 32 = 32 /\ ∀ i < 32, x.1.old i = x.1.old i) /\ (k8Q = k8Q /\
 32 = 32 /\ ∀ i < 32, x.1.new i = x.1.new i) /\ nQ = nQ /\ True) /\ (1 = 1 /\ 3 = 3 /\ y.1.length.le (x_1.1.length + 1) /\ ∀ i < y.1.length, (if i < x_1.1.length then nm (x_1.1.getD i (0 : Int)) else rowOf [((0 : Nat), nm
 (numberR x_1.2).1)] ((0 : Nat) + (i - x_1.1.length))) = nm (y.1.getD i (0 : Int))) /\ True) /\ inv18 x y /\ y.2.rest.length.succ.le x_1.2.rest.length) /\ True /\ (((0 : Nat) + 1).le (1 : Nat) /\ x_1.1.length =
 x_1.1.length /\ (x_1.1.length + 1).le maxLen /\ ((x_1.1.length + 1) * 8).le (140737488355328 : Nat)) /\ True /\ ∃ (y : List Int × Rd), ((True /\ 0 = 0 /\ 0 = 0 /\ 0 = 0) /\ (True /\ 0 = 0 /\ 0 = 0 /\ 0 = 0) /\ True) /\
 ((125 = 125 /\ bs (numberR x_1.2).2.rest = bs y.2.rest /\ (numberR x_1.2).2.bad = y.2.bad /\ True) /\ (62 = 62 /\ x.1.kind = x.1.kind /\ x.1.node = x.1.node /\ x.1.to = x.1.to /\ x.1.n = x.1.n /\ nQ = nQ /\ (True /\ 0 =
 0 /\ x_1.1.length + 1 = y.1.length) /\ bs x.1.branch = bs x.1.branch /\ nQ = nQ /\ nQ = nQ /\ x.1.author = x.1.author /\ bs x.1.note = bs x.1.note /\ x.1.ck = x.1.ck /\ x.1.client = x.1.client /\ x.1.seq = x.1.seq /\ bs
 x.1.cbranch = bs x.1.cbranch /\ (k8Q = k8Q /\ 32 = 32 /\ ∀ i < 32, x.1.old i = x.1.old i) /\ (k8Q = k8Q /\ 32 = 32 /\ ∀ i < 32, x.1.new i = x.1.new i) /\ nQ = nQ /\ True) /\ (1 = 1 /\ 3 = 3 /\ y.1.length.le (x_1.1.length
 + 1) /\ ∀ i < y.1.length, (if i < x_1.1.length then nm (x_1.1.getD i (0 : Int)) else rowOf [((0 : Nat), nm (numberR x_1.2).1)] ((0 : Nat) + (i - x_1.1.length))) = nm (y.1.getD i (0 : Int))) /\ True) /\ inv18 x y /\
 y.2.rest.length.succ.le x_1.2.rest.length) /\ (moreR x_1.2 = false -> ∃ (x_2 : Ev × Rd), ((True /\ 0 = 0 /\ 0 = 0 /\ 0 = 0) /\ (True /\ 0 = 0 /\ 0 = 0 /\ 0 = 0) /\ True) /\ ((125 = 125 /\ bs x_1.2.rest = bs x_2.2.rest /\
 x_1.2.bad = x_2.2.bad /\ True) /\ (62 = 62 /\ x.1.kind = x_2.1.kind /\ x.1.node = x_2.1.node /\ x.1.to = x_2.1.to /\ x.1.n = x_2.1.n /\ (True /\ True /\ 0 = 0 /\ x_2.1.keep.length = 0) /\ (True /\ 0 = 0 /\ x_1.1.length =
 x_2.1.conf.length) /\ bs x.1.branch = bs x_2.1.branch /\ (True /\ True /\ 0 = 0 /\ x_2.1.map.length = 0) /\ (True /\ True /\ 0 = 0 /\ x_2.1.edit.length = 0) /\ x.1.author = x_2.1.author /\ bs x.1.note = bs x_2.1.note /\
 x.1.ck = x_2.1.ck /\ x.1.client = x_2.1.client /\ x.1.seq = x_2.1.seq /\ bs x.1.cbranch = bs x_2.1.cbranch /\ (k8Q = k8Q /\ 32 = 32 /\ ∀ i < 32, x.1.old i = x_2.1.old i) /\ (k8Q = k8Q /\ 32 = 32 /\ ∀ i < 32, x.1.new i =
 x_2.1.new i) /\ nQ = nQ /\ True) /\ x_2.1.keep.length = 0 /\ (1 = 1 /\ 3 = 3 /\ x_2.1.conf.length.le x_1.1.length /\ ∀ i < x_2.1.conf.length, nm (x_1.1.getD i (0 : Int)) = nm (x_2.1.conf.getD i (0 : Int))) /\
 x_2.1.map.length = 0 /\ x_2.1.edit.length = 0 /\ True) /\ inv32 x x_2)) /\ ((x.1.kind == 10) = false -> ((x.1.kind == 11) = true -> (∃ (x_1 : List (Bs × Bs) × Rd), ((True /\ 0 = 0 /\ 0 = 0 /\ 0 = 0) /\ (True /\ 0 = 0 /\
 0 = 0 /\ 0 = 0) /\ True) /\ ((125 = 125 /\ bs x.2.rest = bs x_1.2.rest /\ x.2.bad = x_1.2.bad /\ True) /\ (62 = 62 /\ x.1.kind = x.1.kind /\ x.1.node = x.1.node /\ x.1.to = x.1.to /\ x.1.n = x.1.n /\ nQ = nQ /\ nQ = nQ
 /\ bs x.1.branch = bs x.1.branch /\ (True /\ True /\ 0 = 0 /\ x_1.1.length = 0) /\ nQ = nQ /\ x.1.author = x.1.author /\ bs x.1.note = bs x.1.note /\ x.1.ck = x.1.ck /\ x.1.client = x.1.client /\ x.1.seq = x.1.seq /\ bs
 x.1.cbranch = bs x.1.cbranch /\ (k8Q = k8Q /\ 32 = 32 /\ ∀ i < 32, x.1.old i = x.1.old i) /\ (k8Q = k8Q /\ 32 = 32 /\ ∀ i < 32, x.1.new i = x.1.new i) /\ nQ = nQ /\ True) /\ x_1.1.length = 0 /\ True) /\ inv21 x x_1) /\ ∀
 (x_1 : List (Bs × Bs) × Rd), inv21 x x_1 -> (True /\ True) /\ 125 = 125 /\ (moreR x_1.2 = true -> ((True /\ True) /\ (125 = 125 /\ x_1.2.rest.length.le rlim) /\ (True /\ True) /\ (125 = 125 /\ (List.length (textR
 x_1.2).2.rest).le rlim) /\ True /\ (((0 : Nat) + 1).le (1 : Nat) /\ x_1.1.length = x_1.1.length /\ (x_1.1.length + 1).le maxLen /\ ((x_1.1.length + 1) * 32).le (140737488355328 : Nat)) /\ True /\ ∃ (y : List (Bs × Bs) ×
 Rd), ((True /\ 0 = 0 /\ 0 = 0 /\ 0 = 0) /\ (True /\ 0 = 0 /\ 0 = 0 /\ 0 = 0) /\ True) /\ ((125 = 125 /\ bs (textR (textR x_1.2).2).2.rest = bs y.2.rest /\ (textR (textR x_1.2).2).2.bad = y.2.bad /\ True) /\ (62 = 62 /\
 x.1.kind = x.1.kind /\ x.1.node = x.1.node /\ x.1.to = x.1.to /\ x.1.n = x.1.n /\ nQ = nQ /\ nQ = nQ /\ bs x.1.branch = bs x.1.branch /\ (True /\ 0 = 0 /\ x_1.1.length + 1 = y.1.length) /\ nQ = nQ /\ x.1.author =
 x.1.author /\ bs x.1.note = bs x.1.note /\ x.1.ck = x.1.ck /\ x.1.client = x.1.client /\ x.1.seq = x.1.seq /\ bs x.1.cbranch = bs x.1.cbranch /\ (k8Q = k8Q /\ 32 = 32 /\ ∀ i < 32, x.1.old i = x.1.old i) /\ (k8Q = k8Q /\
 32 = 32 /\ ∀ i < 32, x.1.new i = x.1.new i) /\ nQ = nQ /\ True) /\ (2 = 2 /\ 96 = 96 /\ y.1.length.le (x_1.1.length + 1) /\ ∀ i < y.1.length, (if i < x_1.1.length then AV.agg [sl (x_1.1.getD i ([], [])).1, sl (x_1.1.getD
 i ([], [])).2] else rowOf [((0 : Nat), AV.agg [sl (textR x_1.2).1, sl (textR (textR x_1.2).2).1])] ((0 : Nat) + (i - x_1.1.length))) = AV.agg [sl (y.1.getD i ([], [])).1, sl (y.1.getD i ([], [])).2]) /\ True) /\ inv21 x
 y /\ y.2.rest.length.succ.le x_1.2.rest.length) /\ (True /\ True) /\ (125 = 125 /\ x_1.2.rest.length.le rlim) /\ ((True /\ True) /\ (125 = 125 /\ (List.length (textR x_1.2).2.rest).le rlim) /\ True /\ (((0 : Nat) + 1).le
 (1 : Nat) /\ x_1.1.length = x_1.1.length /\ (x_1.1.length + 1).le maxLen /\ ((x_1.1.length + 1) * 32).le (140737488355328 : Nat)) /\ True /\ ∃ (y : List (Bs × Bs) × Rd), ((True /\ 0 = 0 /\ 0 = 0 /\ 0 = 0) /\ (True /\ 0 =
 0 /\ 0 = 0 /\ 0 = 0) /\ True) /\ ((125 = 125 /\ bs (textR (textR x_1.2).2).2.rest = bs y.2.rest /\ (textR (textR x_1.2).2).2.bad = y.2.bad /\ True) /\ (62 = 62 /\ x.1.kind = x.1.kind /\ x.1.node = x.1.node /\ x.1.to =
 x.1.to /\ x.1.n = x.1.n /\ nQ = nQ /\ nQ = nQ /\ bs x.1.branch = bs x.1.branch /\ (True /\ 0 = 0 /\ x_1.1.length + 1 = y.1.length) /\ nQ = nQ /\ x.1.author = x.1.author /\ bs x.1.note = bs x.1.note /\ x.1.ck = x.1.ck /\
 x.1.client = x.1.client /\ x.1.seq = x.1.seq /\ bs x.1.cbranch = bs x.1.cbranch /\ (k8Q = k8Q /\ 32 = 32 /\ ∀ i < 32, x.1.old i = x.1.old i) /\ (k8Q = k8Q /\ 32 = 32 /\ ∀ i < 32, x.1.new i = x.1.new i) /\ nQ = nQ /\
 True) /\ (2 = 2 /\ 96 = 96 /\ y.1.length.le (x_1.1.length + 1) /\ ∀ i < y.1.length, (if i < x_1.1.length then AV.agg [sl (x_1.1.getD i ([], [])).1, sl (x_1.1.getD i ([], [])).2] else rowOf [((0 : Nat), AV.agg [sl (textR
 x_1.2).1, sl (textR (textR x_1.2).2).1])] ((0 : Nat) + (i - x_1.1.length))) = AV.agg [sl (y.1.getD i ([], [])).1, sl (y.1.getD i ([], [])).2]) /\ True) /\ inv21 x y /\ y.2.rest.length.succ.le x_1.2.rest.length) /\ (True
 /\ True) /\ (125 = 125 /\ (List.length (textR x_1.2).2.rest).le rlim) /\ (True /\ (((0 : Nat) + 1).le (1 : Nat) /\ x_1.1.length = x_1.1.length /\ (x_1.1.length + 1).le maxLen /\ ((x_1.1.length + 1) * 32).le
 (140737488355328 : Nat)) /\ True /\ ∃ (y : List (Bs × Bs) × Rd), ((True /\ 0 = 0 /\ 0 = 0 /\ 0 = 0) /\ (True /\ 0 = 0 /\ 0 = 0 /\ 0 = 0) /\ True) /\ ((125 = 125 /\ bs (textR (textR x_1.2).2).2.rest = bs y.2.rest /\
 (textR (textR x_1.2).2).2.bad = y.2.bad /\ True) /\ (62 = 62 /\ x.1.kind = x.1.kind /\ x.1.node = x.1.node /\ x.1.to = x.1.to /\ x.1.n = x.1.n /\ nQ = nQ /\ nQ = nQ /\ bs x.1.branch = bs x.1.branch /\ (True /\ 0 = 0 /\
 x_1.1.length + 1 = y.1.length) /\ nQ = nQ /\ x.1.author = x.1.author /\ bs x.1.note = bs x.1.note /\ x.1.ck = x.1.ck /\ x.1.client = x.1.client /\ x.1.seq = x.1.seq /\ bs x.1.cbranch = bs x.1.cbranch /\ (k8Q = k8Q /\ 32
 = 32 /\ ∀ i < 32, x.1.old i = x.1.old i) /\ (k8Q = k8Q /\ 32 = 32 /\ ∀ i < 32, x.1.new i = x.1.new i) /\ nQ = nQ /\ True) /\ (2 = 2 /\ 96 = 96 /\ y.1.length.le (x_1.1.length + 1) /\ ∀ i < y.1.length, (if i < x_1.1.length
 then AV.agg [sl (x_1.1.getD i ([], [])).1, sl (x_1.1.getD i ([], [])).2] else rowOf [((0 : Nat), AV.agg [sl (textR x_1.2).1, sl (textR (textR x_1.2).2).1])] ((0 : Nat) + (i - x_1.1.length))) = AV.agg [sl (y.1.getD i ([],
 [])).1, sl (y.1.getD i ([], [])).2]) /\ True) /\ inv21 x y /\ y.2.rest.length.succ.le x_1.2.rest.length) /\ True /\ (((0 : Nat) + 1).le (1 : Nat) /\ x_1.1.length = x_1.1.length /\ (x_1.1.length + 1).le maxLen /\
 ((x_1.1.length + 1) * 32).le (140737488355328 : Nat)) /\ True /\ ∃ (y : List (Bs × Bs) × Rd), ((True /\ 0 = 0 /\ 0 = 0 /\ 0 = 0) /\ (True /\ 0 = 0 /\ 0 = 0 /\ 0 = 0) /\ True) /\ ((125 = 125 /\ bs (textR (textR
 x_1.2).2).2.rest = bs y.2.rest /\ (textR (textR x_1.2).2).2.bad = y.2.bad /\ True) /\ (62 = 62 /\ x.1.kind = x.1.kind /\ x.1.node = x.1.node /\ x.1.to = x.1.to /\ x.1.n = x.1.n /\ nQ = nQ /\ nQ = nQ /\ bs x.1.branch = bs
 x.1.branch /\ (True /\ 0 = 0 /\ x_1.1.length + 1 = y.1.length) /\ nQ = nQ /\ x.1.author = x.1.author /\ bs x.1.note = bs x.1.note /\ x.1.ck = x.1.ck /\ x.1.client = x.1.client /\ x.1.seq = x.1.seq /\ bs x.1.cbranch = bs
 x.1.cbranch /\ (k8Q = k8Q /\ 32 = 32 /\ ∀ i < 32, x.1.old i = x.1.old i) /\ (k8Q = k8Q /\ 32 = 32 /\ ∀ i < 32, x.1.new i = x.1.new i) /\ nQ = nQ /\ True) /\ (2 = 2 /\ 96 = 96 /\ y.1.length.le (x_1.1.length + 1) /\ ∀ i <
 y.1.length, (if i < x_1.1.length then AV.agg [sl (x_1.1.getD i ([], [])).1, sl (x_1.1.getD i ([], [])).2] else rowOf [((0 : Nat), AV.agg [sl (textR x_1.2).1, sl (textR (textR x_1.2).2).1])] ((0 : Nat) + (i -
 x_1.1.length))) = AV.agg [sl (y.1.getD i ([], [])).1, sl (y.1.getD i ([], [])).2]) /\ True) /\ inv21 x y /\ y.2.rest.length.succ.le x_1.2.rest.length) /\ (moreR x_1.2 = false -> ∃ (x_2 : Ev × Rd), ((True /\ 0 = 0 /\ 0 =
 0 /\ 0 = 0) /\ (True /\ 0 = 0 /\ 0 = 0 /\ 0 = 0) /\ True) /\ ((125 = 125 /\ bs x_1.2.rest = bs x_2.2.rest /\ x_1.2.bad = x_2.2.bad /\ True) /\ (62 = 62 /\ x.1.kind = x_2.1.kind /\ x.1.node = x_2.1.node /\ x.1.to =
 x_2.1.to /\ x.1.n = x_2.1.n /\ (True /\ True /\ 0 = 0 /\ x_2.1.keep.length = 0) /\ (True /\ True /\ 0 = 0 /\ x_2.1.conf.length = 0) /\ bs x.1.branch = bs x_2.1.branch /\ (True /\ 0 = 0 /\ x_1.1.length = x_2.1.map.length)
 /\ (True /\ True /\ 0 = 0 /\ x_2.1.edit.length = 0) /\ x.1.author = x_2.1.author /\ bs x.1.note = bs x_2.1.note /\ x.1.ck = x_2.1.ck /\ x.1.client = x_2.1.client /\ x.1.seq = x_2.1.seq /\ bs x.1.cbranch = bs
 x_2.1.cbranch /\ (k8Q = k8Q /\ 32 = 32 /\ ∀ i < 32, x.1.old i = x_2.1.old i) /\ (k8Q = k8Q /\ 32 = 32 /\ ∀ i < 32, x.1.new i = x_2.1.new i) /\ nQ = nQ /\ True) /\ x_2.1.keep.length = 0 /\ x_2.1.conf.length = 0 /\ (2 = 2
 /\ 96 = 96 /\ x_2.1.map.length.le x_1.1.length /\ ∀ i < x_2.1.map.length, AV.agg [sl (x_1.1.getD i ([], [])).1, sl (x_1.1.getD i ([], [])).2] = AV.agg [sl (x_2.1.map.getD i ([], [])).1, sl (x_2.1.map.getD i ([], [])).2])
 /\ x_2.1.edit.length = 0 /\ True) /\ inv32 x x_2)) /\ ((x.1.kind == 11) = false -> ((x.1.kind == 12) = true -> (∃ (x_1 : List (Bs × Bool × Bs) × Rd), ((True /\ 0 = 0 /\ 0 = 0 /\ 0 = 0) /\ (True /\ 0 = 0 /\ 0 = 0 /\ 0 =
 0) /\ True) /\ ((125 = 125 /\ bs x.2.rest = bs x_1.2.rest /\ x.2.bad = x_1.2.bad /\ True) /\ (62 = 62 /\ x.1.kind = x.1.kind /\ x.1.node = x.1.node /\ x.1.to = x.1.to /\ x.1.n = x.1.n /\ nQ = nQ /\ nQ = nQ /\ bs
 x.1.branch = bs x.1.branch /\ nQ = nQ /\ (True /\ True /\ 0 = 0 /\ x_1.1.length = 0) /\ x.1.author = x.1.author /\ bs x.1.note = bs x.1.note /\ x.1.ck = x.1.ck /\ x.1.client = x.1.client /\ x.1.seq = x.1.seq /\ bs
 x.1.cbranch = bs x.1.cbranch /\ (k8Q = k8Q /\ 32 = 32 /\ ∀ i < 32, x.1.old i = x.1.old i) /\ (k8Q = k8Q /\ 32 = 32 /\ ∀ i < 32, x.1.new i = x.1.new i) /\ nQ = nQ /\ True) /\ x_1.1.length = 0 /\ True) /\ inv25 x x_1) /\ ∀
 (x_1 : List (Bs × Bool × Bs) × Rd), inv25 x x_1 -> (True /\ True) /\ 125 = 125 /\ (moreR x_1.2 = true -> ((True /\ True) /\ (125 = 125 /\ x_1.2.rest.length.le rlim) /\ True /\ (((0 : Nat) + 1).le (1 : Nat) /\
 x_1.1.length = x_1.1.length /\ (x_1.1.length + 1).le maxLen /\ ((x_1.1.length + 1) * 40).le (140737488355328 : Nat)) /\ True /\ ∃ (y : List (Bs × Bool × Bs) × Rd), ((True /\ 0 = 0 /\ 0 = 0 /\ 0 = 0) /\ (True /\ 0 = 0 /\
 0 = 0 /\ 0 = 0) /\ True) /\ ((125 = 125 /\ bs (changeR x_1.2).2.rest = bs y.2.rest /\ (changeR x_1.2).2.bad = y.2.bad /\ True) /\ (62 = 62 /\ x.1.kind = x.1.kind /\ x.1.node = x.1.node /\ x.1.to = x.1.to /\ x.1.n = x.1.n
 /\ nQ = nQ /\ nQ = nQ /\ bs x.1.branch = bs x.1.branch /\ nQ = nQ /\ (True /\ 0 = 0 /\ x_1.1.length + 1 = y.1.length) /\ x.1.author = x.1.author /\ bs x.1.note = bs x.1.note /\ x.1.ck = x.1.ck /\ x.1.client = x.1.client
 /\ x.1.seq = x.1.seq /\ bs x.1.cbranch = bs x.1.cbranch /\ (k8Q = k8Q /\ 32 = 32 /\ ∀ i < 32, x.1.old i = x.1.old i) /\ (k8Q = k8Q /\ 32 = 32 /\ ∀ i < 32, x.1.new i = x.1.new i) /\ nQ = nQ /\ True) /\ (3 = 3 /\ 64 = 64
 /\ y.1.length.le (x_1.1.length + 1) /\ ∀ i < y.1.length, (if i < x_1.1.length then AV.agg [sl (x_1.1.getD i ([], false, [])).1, bl (x_1.1.getD i ([], false, [])).2.1, sl (x_1.1.getD i ([], false, [])).2.2] else rowOf
 [((0 : Nat), AV.agg [sl (changeR x_1.2).1.1, bl (changeR x_1.2).1.2.1, sl (changeR x_1.2).1.2.2])] ((0 : Nat) + (i - x_1.1.length))) = AV.agg [sl (y.1.getD i ([], false, [])).1, bl (y.1.getD i ([], false, [])).2.1, sl
 (y.1.getD i ([], false, [])).2.2]) /\ True) /\ inv25 x y /\ y.2.rest.length.succ.le x_1.2.rest.length) /\ (True /\ True) /\ (125 = 125 /\ x_1.2.rest.length.le rlim) /\ (True /\ (((0 : Nat) + 1).le (1 : Nat) /\
 x_1.1.length = x_1.1.length /\ (x_1.1.length + 1).le maxLen /\ ((x_1.1.length + 1) * 40).le (140737488355328 : Nat)) /\ True /\ ∃ (y : List (Bs × Bool × Bs) × Rd), ((True /\ 0 = 0 /\ 0 = 0 /\ 0 = 0) /\ (True /\ 0 = 0 /\
 0 = 0 /\ 0 = 0) /\ True) /\ ((125 = 125 /\ bs (changeR x_1.2).2.rest = bs y.2.rest /\ (changeR x_1.2).2.bad = y.2.bad /\ True) /\ (62 = 62 /\ x.1.kind = x.1.kind /\ x.1.node = x.1.node /\ x.1.to = x.1.to /\ x.1.n = x.1.n
 /\ nQ = nQ /\ nQ = nQ /\ bs x.1.branch = bs x.1.branch /\ nQ = nQ /\ (True /\ 0 = 0 /\ x_1.1.length + 1 = y.1.length) /\ x.1.author = x.1.author /\ bs x.1.note = bs x.1.note /\ x.1.ck = x.1.ck /\ x.1.client = x.1.client
 /\ x.1.seq = x.1.seq /\ bs x.1.cbranch = bs x.1.cbranch /\ (k8Q = k8Q /\ 32 = 32 /\ ∀ i < 32, x.1.old i = x.1.old i) /\ (k8Q = k8Q /\ 32 = 32 /\ ∀ i < 32, x.1.new i = x.1.new i) /\ nQ = nQ /\ True) /\ (3 = 3 /\ 64 = 64
 /\ y.1.length.le (x_1.1.length + 1) /\ ∀ i < y.1.length, (if i < x_1.1.length then AV.agg [sl (x_1.1.getD i ([], false, [])).1, bl (x_1.1.getD i ([], false, [])).2.1, sl (x_1.1.getD i ([], false, [])).2.2] else rowOf
 [((0 : Nat), AV.agg [sl (changeR x_1.2).1.1, bl (changeR x_1.2).1.2.1, sl (changeR x_1.2).1.2.2])] ((0 : Nat) + (i - x_1.1.length))) = AV.agg [sl (y.1.getD i ([], false, [])).1, bl (y.1.getD i ([], false, [])).2.1, sl
 (y.1.getD i ([], false, [])).2.2]) /\ True) /\ inv25 x y /\ y.2.rest.length.succ.le x_1.2.rest.length) /\ True /\ (((0 : Nat) + 1).le (1 : Nat) /\ x_1.1.length = x_1.1.length /\ (x_1.1.length + 1).le maxLen /\
 ((x_1.1.length + 1) * 40).le (140737488355328 : Nat)) /\ True /\ ∃ (y : List (Bs × Bool × Bs) × Rd), ((True /\ 0 = 0 /\ 0 = 0 /\ 0 = 0) /\ (True /\ 0 = 0 /\ 0 = 0 /\ 0 = 0) /\ True) /\ ((125 = 125 /\ bs (changeR
 x_1.2).2.rest = bs y.2.rest /\ (changeR x_1.2).2.bad = y.2.bad /\ True) /\ (62 = 62 /\ x.1.kind = x.1.kind /\ x.1.node = x.1.node /\ x.1.to = x.1.to /\ x.1.n = x.1.n /\ nQ = nQ /\ nQ = nQ /\ bs x.1.branch = bs x.1.branch
 /\ nQ = nQ /\ (True /\ 0 = 0 /\ x_1.1.length + 1 = y.1.length) /\ x.1.author = x.1.author /\ bs x.1.note = bs x.1.note /\ x.1.ck = x.1.ck /\ x.1.client = x.1.client /\ x.1.seq = x.1.seq /\ bs x.1.cbranch = bs x.1.cbranch
 /\ (k8Q = k8Q /\ 32 = 32 /\ ∀ i < 32, x.1.old i = x.1.old i) /\ (k8Q = k8Q /\ 32 = 32 /\ ∀ i < 32, x.1.new i = x.1.new i) /\ nQ = nQ /\ True) /\ (3 = 3 /\ 64 = 64 /\ y.1.length.le (x_1.1.length + 1) /\ ∀ i < y.1.length,
 (if i < x_1.1.length then AV.agg [sl (x_1.1.getD i ([], false, [])).1, bl (x_1.1.getD i ([], false, [])).2.1, sl (x_1.1.getD i ([], false, [])).2.2] else rowOf [((0 : Nat), AV.agg [sl (changeR x_1.2).1.1, bl (changeR
 x_1.2).1.2.1, sl (changeR x_1.2).1.2.2])] ((0 : Nat) + (i - x_1.1.length))) = AV.agg [sl (y.1.getD i ([], false, [])).1, bl (y.1.getD i ([], false, [])).2.1, sl (y.1.getD i ([], false, [])).2.2]) /\ True) /\ inv25 x y /\
 y.2.rest.length.succ.le x_1.2.rest.length) /\ (moreR x_1.2 = false -> ∃ (x_2 : Ev × Rd), ((True /\ 0 = 0 /\ 0 = 0 /\ 0 = 0) /\ (True /\ 0 = 0 /\ 0 = 0 /\ 0 = 0) /\ True) /\ ((125 = 125 /\ bs x_1.2.rest = bs x_2.2.rest /\
 x_1.2.bad = x_2.2.bad /\ True) /\ (62 = 62 /\ x.1.kind = x_2.1.kind /\ x.1.node = x_2.1.node /\ x.1.to = x_2.1.to /\ x.1.n = x_2.1.n /\ (True /\ True /\ 0 = 0 /\ x_2.1.keep.length = 0) /\ (True /\ True /\ 0 = 0 /\
 x_2.1.conf.length = 0) /\ bs x.1.branch = bs x_2.1.branch /\ (True /\ True /\ 0 = 0 /\ x_2.1.map.length = 0) /\ (True /\ 0 = 0 /\ x_1.1.length = x_2.1.edit.length) /\ x.1.author = x_2.1.author /\ bs x.1.note = bs
 x_2.1.note /\ x.1.ck = x_2.1.ck /\ x.1.client = x_2.1.client /\ x.1.seq = x_2.1.seq /\ bs x.1.cbranch = bs x_2.1.cbranch /\ (k8Q = k8Q /\ 32 = 32 /\ ∀ i < 32, x.1.old i = x_2.1.old i) /\ (k8Q = k8Q /\ 32 = 32 /\ ∀ i <
 32, x.1.new i = x_2.1.new i) /\ nQ = nQ /\ True) /\ x_2.1.keep.length = 0 /\ x_2.1.conf.length = 0 /\ x_2.1.map.length = 0 /\ (3 = 3 /\ 64 = 64 /\ x_2.1.edit.length.le x_1.1.length /\ ∀ i < x_2.1.edit.length, AV.agg [sl
 (x_1.1.getD i ([], false, [])).1, bl (x_1.1.getD i ([], false, [])).2.1, sl (x_1.1.getD i ([], false, [])).2.2] = AV.agg [sl (x_2.1.edit.getD i ([], false, [])).1, bl (x_2.1.edit.getD i ([], false, [])).2.1, sl
 (x_2.1.edit.getD i ([], false, [])).2.2]) /\ True) /\ inv32 x x_2)) /\ ((x.1.kind == 12) = false -> ((x.1.kind == 13) = true -> (∃ (x_1 : List (Bs × Bool × Bs) × Rd), ((True /\ 0 = 0 /\ 0 = 0 /\ 0 = 0) /\ (True /\ 0 = 0
 /\ 0 = 0 /\ 0 = 0) /\ True) /\ ((125 = 125 /\ bs x.2.rest = bs x_1.2.rest /\ x.2.bad = x_1.2.bad /\ True) /\ (62 = 62 /\ x.1.kind = x.1.kind /\ x.1.node = x.1.node /\ x.1.to = x.1.to /\ x.1.n = x.1.n /\ nQ = nQ /\ nQ =
 nQ /\ bs x.1.branch = bs x.1.branch /\ nQ = nQ /\ (True /\ True /\ 0 = 0 /\ x_1.1.length = 0) /\ x.1.author = x.1.author /\ bs x.1.note = bs x.1.note /\ x.1.ck = x.1.ck /\ x.1.client = x.1.client /\ x.1.seq = x.1.seq /\
 bs x.1.cbranch = bs x.1.cbranch /\ (k8Q = k8Q /\ 32 = 32 /\ ∀ i < 32, x.1.old i = x.1.old i) /\ (k8Q = k8Q /\ 32 = 32 /\ ∀ i < 32, x.1.new i = x.1.new i) /\ nQ = nQ /\ True) /\ x_1.1.length = 0 /\ True) /\ inv25 x x_1)
 /\ ∀ (x_1 : List (Bs × Bool × Bs) × Rd), inv25 x x_1 -> (True /\ True) /\ 125 = 125 /\ (moreR x_1.2 = true -> ((True /\ True) /\ (125 = 125 /\ x_1.2.rest.length.le rlim) /\ True /\ (((0 : Nat) + 1).le (1 : Nat) /\
 x_1.1.length = x_1.1.length /\ (x_1.1.length + 1).le maxLen /\ ((x_1.1.length + 1) * 40).le (140737488355328 : Nat)) /\ True /\ ∃ (y : List (Bs × Bool × Bs) × Rd), ((True /\ 0 = 0 /\ 0 = 0 /\ 0 = 0) /\ (True /\ 0 = 0 /\
 0 = 0 /\ 0 = 0) /\ True) /\ ((125 = 125 /\ bs (changeR x_1.2).2.rest = bs y.2.rest /\ (changeR x_1.2).2.bad = y.2.bad /\ True) /\ (62 = 62 /\ x.1.kind = x.1.kind /\ x.1.node = x.1.node /\ x.1.to = x.1.to /\ x.1.n = x.1.n
 /\ nQ = nQ /\ nQ = nQ /\ bs x.1.branch = bs x.1.branch /\ nQ = nQ /\ (True /\ 0 = 0 /\ x_1.1.length + 1 = y.1.length) /\ x.1.author = x.1.author /\ bs x.1.note = bs x.1.note /\ x.1.ck = x.1.ck /\ x.1.client = x.1.client
 /\ x.1.seq = x.1.seq /\ bs x.1.cbranch = bs x.1.cbranch /\ (k8Q = k8Q /\ 32 = 32 /\ ∀ i < 32, x.1.old i = x.1.old i) /\ (k8Q = k8Q /\ 32 = 32 /\ ∀ i < 32, x.1.new i = x.1.new i) /\ nQ = nQ /\ True) /\ (3 = 3 /\ 64 = 64
 /\ y.1.length.le (x_1.1.length + 1) /\ ∀ i < y.1.length, (if i < x_1.1.length then AV.agg [sl (x_1.1.getD i ([], false, [])).1, bl (x_1.1.getD i ([], false, [])).2.1, sl (x_1.1.getD i ([], false, [])).2.2] else rowOf
 [((0 : Nat), AV.agg [sl (changeR x_1.2).1.1, bl (changeR x_1.2).1.2.1, sl (changeR x_1.2).1.2.2])] ((0 : Nat) + (i - x_1.1.length))) = AV.agg [sl (y.1.getD i ([], false, [])).1, bl (y.1.getD i ([], false, [])).2.1, sl
 (y.1.getD i ([], false, [])).2.2]) /\ True) /\ inv25 x y /\ y.2.rest.length.succ.le x_1.2.rest.length) /\ (True /\ True) /\ (125 = 125 /\ x_1.2.rest.length.le rlim) /\ (True /\ (((0 : Nat) + 1).le (1 : Nat) /\
 x_1.1.length = x_1.1.length /\ (x_1.1.length + 1).le maxLen /\ ((x_1.1.length + 1) * 40).le (140737488355328 : Nat)) /\ True /\ ∃ (y : List (Bs × Bool × Bs) × Rd), ((True /\ 0 = 0 /\ 0 = 0 /\ 0 = 0) /\ (True /\ 0 = 0 /\
 0 = 0 /\ 0 = 0) /\ True) /\ ((125 = 125 /\ bs (changeR x_1.2).2.rest = bs y.2.rest /\ (changeR x_1.2).2.bad = y.2.bad /\ True) /\ (62 = 62 /\ x.1.kind = x.1.kind /\ x.1.node = x.1.node /\ x.1.to = x.1.to /\ x.1.n = x.1.n
 /\ nQ = nQ /\ nQ = nQ /\ bs x.1.branch = bs x.1.branch /\ nQ = nQ /\ (True /\ 0 = 0 /\ x_1.1.length + 1 = y.1.length) /\ x.1.author = x.1.author /\ bs x.1.note = bs x.1.note /\ x.1.ck = x.1.ck /\ x.1.client = x.1.client
 /\ x.1.seq = x.1.seq /\ bs x.1.cbranch = bs x.1.cbranch /\ (k8Q = k8Q /\ 32 = 32 /\ ∀ i < 32, x.1.old i = x.1.old i) /\ (k8Q = k8Q /\ 32 = 32 /\ ∀ i < 32, x.1.new i = x.1.new i) /\ nQ = nQ /\ True) /\ (3 = 3 /\ 64 = 64
 /\ y.1.length.le (x_1.1.length + 1) /\ ∀ i < y.1.length, (if i < x_1.1.length then AV.agg [sl (x_1.1.getD i ([], false, [])).1, bl (x_1.1.getD i ([], false, [])).2.1, sl (x_1.1.getD i ([], false, [])).2.2] else rowOf
 [((0 : Nat), AV.agg [sl (changeR x_1.2).1.1, bl (changeR x_1.2).1.2.1, sl (changeR x_1.2).1.2.2])] ((0 : Nat) + (i - x_1.1.length))) = AV.agg [sl (y.1.getD i ([], false, [])).1, bl (y.1.getD i ([], false, [])).2.1, sl
 (y.1.getD i ([], false, [])).2.2]) /\ True) /\ inv25 x y /\ y.2.rest.length.succ.le x_1.2.rest.length) /\ True /\ (((0 : Nat) + 1).le (1 : Nat) /\ x_1.1.length = x_1.1.length /\ (x_1.1.length + 1).le maxLen /\
 ((x_1.1.length + 1) * 40).le (140737488355328 : Nat)) /\ True /\ ∃ (y : List (Bs × Bool × Bs) × Rd), ((True /\ 0 = 0 /\ 0 = 0 /\ 0 = 0) /\ (True /\ 0 = 0 /\ 0 = 0 /\ 0 = 0) /\ True) /\ ((125 = 125 /\ bs (changeR
 x_1.2).2.rest = bs y.2.rest /\ (changeR x_1.2).2.bad = y.2.bad /\ True) /\ (62 = 62 /\ x.1.kind = x.1.kind /\ x.1.node = x.1.node /\ x.1.to = x.1.to /\ x.1.n = x.1.n /\ nQ = nQ /\ nQ = nQ /\ bs x.1.branch = bs x.1.branch
 /\ nQ = nQ /\ (True /\ 0 = 0 /\ x_1.1.length + 1 = y.1.length) /\ x.1.author = x.1.author /\ bs x.1.note = bs x.1.note /\ x.1.ck = x.1.ck /\ x.1.client = x.1.client /\ x.1.seq = x.1.seq /\ bs x.1.cbranch = bs x.1.cbranch
 /\ (k8Q = k8Q /\ 32 = 32 /\ ∀ i < 32, x.1.old i = x.1.old i) /\ (k8Q = k8Q /\ 32 = 32 /\ ∀ i < 32, x.1.new i = x.1.new i) /\ nQ = nQ /\ True) /\ (3 = 3 /\ 64 = 64 /\ y.1.length.le (x_1.1.length + 1) /\ ∀ i < y.1.length,
 (if i < x_1.1.length then AV.agg [sl (x_1.1.getD i ([], false, [])).1, bl (x_1.1.getD i ([], false, [])).2.1, sl (x_1.1.getD i ([], false, [])).2.2] else rowOf [((0 : Nat), AV.agg [sl (changeR x_1.2).1.1, bl (changeR
 x_1.2).1.2.1, sl (changeR x_1.2).1.2.2])] ((0 : Nat) + (i - x_1.1.length))) = AV.agg [sl (y.1.getD i ([], false, [])).1, bl (y.1.getD i ([], false, [])).2.1, sl (y.1.getD i ([], false, [])).2.2]) /\ True) /\ inv25 x y /\
 y.2.rest.length.succ.le x_1.2.rest.length) /\ (moreR x_1.2 = false -> ∃ (x_2 : Ev × Rd), ((True /\ 0 = 0 /\ 0 = 0 /\ 0 = 0) /\ (True /\ 0 = 0 /\ 0 = 0 /\ 0 = 0) /\ True) /\ ((125 = 125 /\ bs x_1.2.rest = bs x_2.2.rest /\
 x_1.2.bad = x_2.2.bad /\ True) /\ (62 = 62 /\ x.1.kind = x_2.1.kind /\ x.1.node = x_2.1.node /\ x.1.to = x_2.1.to /\ x.1.n = x_2.1.n /\ (True /\ True /\ 0 = 0 /\ x_2.1.keep.length = 0) /\ (True /\ True /\ 0 = 0 /\
 x_2.1.conf.length = 0) /\ bs x.1.branch = bs x_2.1.branch /\ (True /\ True /\ 0 = 0 /\ x_2.1.map.length = 0) /\ (True /\ 0 = 0 /\ x_1.1.length = x_2.1.edit.length) /\ x.1.author = x_2.1.author /\ bs x.1.note = bs
 x_2.1.note /\ x.1.ck = x_2.1.ck /\ x.1.client = x_2.1.client /\ x.1.seq = x_2.1.seq /\ bs x.1.cbranch = bs x_2.1.cbranch /\ (k8Q = k8Q /\ 32 = 32 /\ ∀ i < 32, x.1.old i = x_2.1.old i) /\ (k8Q = k8Q /\ 32 = 32 /\ ∀ i <
 32, x.1.new i = x_2.1.new i) /\ nQ = nQ /\ True) /\ x_2.1.keep.length = 0 /\ x_2.1.conf.length = 0 /\ x_2.1.map.length = 0 /\ (3 = 3 /\ 64 = 64 /\ x_2.1.edit.length.le x_1.1.length /\ ∀ i < x_2.1.edit.length, AV.agg [sl
 (x_1.1.getD i ([], false, [])).1, bl (x_1.1.getD i ([], false, [])).2.1, sl (x_1.1.getD i ([], false, [])).2.2] = AV.agg [sl (x_2.1.edit.getD i ([], false, [])).1, bl (x_2.1.edit.getD i ([], false, [])).2.1, sl
 (x_2.1.edit.getD i ([], false, [])).2.2]) /\ True) /\ inv32 x x_2)) /\ ((x.1.kind == 13) = false -> ((x.1.kind == 14) = true -> (True /\ True) /\ (125 = 125 /\ x.2.rest.length.le rlim) /\ True /\ (True /\ True) /\ (125 =
 125 /\ (List.length (textR x.2).2.rest).le rlim) /\ (List.length (blankR (textR x.2).2).1).le rlim /\ True /\ True /\ True /\ True /\ ∃ (x_1 : Ev × Rd), ((True /\ 0 = 0 /\ 0 = 0 /\ 0 = 0) /\ (True /\ 0 = 0 /\ 0 = 0 /\ 0
 = 0) /\ True) /\ ((125 = 125 /\ bs (blankR (textR x.2).2).2.rest = bs x_1.2.rest /\ (bif (blankR (textR x.2).2).2.bad then true else idE (blankR (textR x.2).2).1 != 0) = x_1.2.bad /\ True) /\ (62 = 62 /\ x.1.kind =
 x_1.1.kind /\ x.1.node = x_1.1.node /\ x.1.to = x_1.1.to /\ x.1.n = x_1.1.n /\ (True /\ True /\ 0 = 0 /\ x_1.1.keep.length = 0) /\ (True /\ True /\ 0 = 0 /\ x_1.1.conf.length = 0) /\ bs x.1.branch = bs x_1.1.branch /\
 (True /\ True /\ 0 = 0 /\ x_1.1.map.length = 0) /\ (True /\ True /\ 0 = 0 /\ x_1.1.edit.length = 0) /\ x.1.author = x_1.1.author /\ bs x.1.note = bs x_1.1.note /\ x.1.ck = x_1.1.ck /\ x.1.client = x_1.1.client /\ x.1.seq
 = x_1.1.seq /\ bs (textR x.2).1 = bs x_1.1.cbranch /\ (k8Q = k8Q /\ 32 = 32 /\ ∀ i < 32, x.1.old i = x_1.1.old i) /\ (k8Q = k8Q /\ 32 = 32 /\ ∀ i < 32, (idR (blankR (textR x.2).2).1).1 i = x_1.1.new i) /\ nQ = nQ /\
 True) /\ x_1.1.keep.length = 0 /\ x_1.1.conf.length = 0 /\ x_1.1.map.length = 0 /\ x_1.1.edit.length = 0 /\ True) /\ inv32 x x_1) /\ ((x.1.kind == 14) = false -> ∃ (x_1 : Ev × Rd), ((True /\ 0 = 0 /\ 0 = 0 /\ 0 = 0) /\
 (True /\ 0 = 0 /\ 0 = 0 /\ 0 = 0) /\ True) /\ ((125 = 125 /\ bs x.2.rest = bs x_1.2.rest /\ x.2.bad = x_1.2.bad /\ True) /\ (62 = 62 /\ x.1.kind = x_1.1.kind /\ x.1.node = x_1.1.node /\ x.1.to = x_1.1.to /\ x.1.n =
 x_1.1.n /\ (True /\ True /\ 0 = 0 /\ x_1.1.keep.length = 0) /\ (True /\ True /\ 0 = 0 /\ x_1.1.conf.length = 0) /\ bs x.1.branch = bs x_1.1.branch /\ (True /\ True /\ 0 = 0 /\ x_1.1.map.length = 0) /\ (True /\ True /\ 0
 = 0 /\ x_1.1.edit.length = 0) /\ x.1.author = x_1.1.author /\ bs x.1.note = bs x_1.1.note /\ x.1.ck = x_1.1.ck /\ x.1.client = x_1.1.client /\ x.1.seq = x_1.1.seq /\ bs x.1.cbranch = bs x_1.1.cbranch /\ (k8Q = k8Q /\ 32
 = 32 /\ ∀ i < 32, x.1.old i = x_1.1.old i) /\ (k8Q = k8Q /\ 32 = 32 /\ ∀ i < 32, x.1.new i = x_1.1.new i) /\ nQ = nQ /\ True) /\ x_1.1.keep.length = 0 /\ x_1.1.conf.length = 0 /\ x_1.1.map.length = 0 /\ x_1.1.edit.length
 = 0 /\ True) /\ inv32 x x_1))))))) /\ ∀ (x_1 : Ev × Rd), inv32 x x_1 -> (gEq x_1.2.bad false = true -> ((True /\ True /\ True /\ True /\ ((0 : Nat) + x_1.1.keep.length).le x_1.1.keep.length /\ ((0 : Nat) +
 x_1.1.conf.length).le x_1.1.conf.length /\ True /\ ((0 : Nat) + x_1.1.map.length).le x_1.1.map.length /\ ((0 : Nat) + x_1.1.edit.length).le x_1.1.edit.length /\ True /\ True /\ True /\ True /\ True /\ True /\ True /\
 True /\ True /\ True) /\ True) /\ ∃ (e : Ev), IsEv (AV.agg [nm x_1.1.kind, nm x_1.1.node, nm x_1.1.to, nm x_1.1.n, AV.rows 1 x_1.1.keep.length λ (i : Nat) => bl (x_1.1.keep.getD ((0 : Nat) + i) false), AV.rows 1
 x_1.1.conf.length λ (i : Nat) => nm (x_1.1.conf.getD ((0 : Nat) + i) (0 : Int)), sl x_1.1.branch, AV.rows 2 x_1.1.map.length λ (i : Nat) => AV.agg [sl (x_1.1.map.getD ((0 : Nat) + i) ([], [])).1, sl (x_1.1.map.getD
 ((0 : Nat) + i) ([], [])).2], AV.rows 3 x_1.1.edit.length λ (i : Nat) => AV.agg [sl (x_1.1.edit.getD ((0 : Nat) + i) ([], false, [])).1, bl (x_1.1.edit.getD ((0 : Nat) + i) ([], false, [])).2.1, sl (x_1.1.edit.getD ((0
 : Nat) + i) ([], false, [])).2.2], nuQ x_1.1.author, sl x_1.1.note, nm x_1.1.ck, nm x_1.1.client, nuQ x_1.1.seq, sl x_1.1.cbranch, iaQ x_1.1.old, iaQ x_1.1.new, nilS]) e /\ True /\ True /\ true = true /\ True /\ True /\
 (True /\ True) /\ (True /\ True /\ True /\ True /\ ((0 : Nat) + x_1.1.keep.length).le x_1.1.keep.length /\ ((0 : Nat) + x_1.1.conf.length).le x_1.1.conf.length /\ True /\ ((0 : Nat) + x_1.1.map.length).le
 x_1.1.map.length /\ ((0 : Nat) + x_1.1.edit.length).le x_1.1.edit.length /\ True /\ True /\ True /\ True /\ True /\ True /\ True /\ True /\ True /\ True) /\ ∃ (x : Unit), ((x_1.1.kind = (eventR w (Rd.mk l b)).1.kind /\
 x_1.1.node = (eventR w (Rd.mk l b)).1.node /\ x_1.1.to = (eventR w (Rd.mk l b)).1.to /\ x_1.1.n = (eventR w (Rd.mk l b)).1.n /\ (1 = 1 /\ x_1.1.keep.length = (eventR w (Rd.mk l b)).1.keep.length /\ ∀ i <
 x_1.1.keep.length, bl (x_1.1.keep.getD ((0 : Nat) + i) false) = bl ((eventR w (Rd.mk l b)).1.keep.getD i false)) /\ (1 = 1 /\ x_1.1.conf.length = (eventR w (Rd.mk l b)).1.conf.length /\ ∀ i < x_1.1.conf.length, nm
 (x_1.1.conf.getD ((0 : Nat) + i) (0 : Int)) = nm ((eventR w (Rd.mk l b)).1.conf.getD i (0 : Int))) /\ bs x_1.1.branch = bs (eventR w (Rd.mk l b)).1.branch /\ (2 = 2 /\ x_1.1.map.length = (eventR w (Rd.mk l
 b)).1.map.length /\ ∀ i < x_1.1.map.length, AV.agg [sl (x_1.1.map.getD ((0 : Nat) + i) ([], [])).1, sl (x_1.1.map.getD ((0 : Nat) + i) ([], [])).2] = AV.agg [sl ((eventR w (Rd.mk l b)).1.map.getD i ([], [])).1, sl
 ((eventR w (Rd.mk l b)).1.map.getD i ([], [])).2]) /\ (3 = 3 /\ x_1.1.edit.length = (eventR w (Rd.mk l b)).1.edit.length /\ ∀ i < x_1.1.edit.length, AV.agg [sl (x_1.1.edit.getD ((0 : Nat) + i) ([], false, [])).1, bl
 (x_1.1.edit.getD ((0 : Nat) + i) ([], false, [])).2.1, sl (x_1.1.edit.getD ((0 : Nat) + i) ([], false, [])).2.2] = AV.agg [sl ((eventR w (Rd.mk l b)).1.edit.getD i ([], false, [])).1, bl ((eventR w (Rd.mk l
 b)).1.edit.getD i ([], false, [])).2.1, sl ((eventR w (Rd.mk l b)).1.edit.getD i ([], false, [])).2.2]) /\ x_1.1.author = (eventR w (Rd.mk l b)).1.author /\ bs x_1.1.note = bs (eventR w (Rd.mk l b)).1.note /\ x_1.1.ck =
 (eventR w (Rd.mk l b)).1.ck /\ x_1.1.client = (eventR w (Rd.mk l b)).1.client /\ x_1.1.seq = (eventR w (Rd.mk l b)).1.seq /\ bs x_1.1.cbranch = bs (eventR w (Rd.mk l b)).1.cbranch /\ (k8Q = k8Q /\ 32 = 32 /\ ∀ i < 32,
 x_1.1.old i = (eventR w (Rd.mk l b)).1.old i) /\ (k8Q = k8Q /\ 32 = 32 /\ ∀ i < 32, x_1.1.new i = (eventR w (Rd.mk l b)).1.new i) /\ (True /\ List.length (eventR w (Rd.mk l b)).1.data = 0) /\ True) /\ True) /\ ((125 =
 125 /\ bs x_1.2.rest = bs (eventR w (Rd.mk l b)).2.rest /\ (bif false then true else wrongE e) = (eventR w (Rd.mk l b)).2.bad /\ True) /\ True) /\ R ((eventR w (Rd.mk l b)).1.av) [LObj.box 125 [sl (eventR w (Rd.mk l
 b)).2.rest, bl (eventR w (Rd.mk l b)).2.bad]]) /\ (gEq x_1.2.bad false = false -> true = true /\ True /\ True /\ (True /\ True) /\ (True /\ True /\ True /\ True /\ ((0 : Nat) + x_1.1.keep.length).le x_1.1.keep.length /\
 ((0 : Nat) + x_1.1.conf.length).le x_1.1.conf.length /\ True /\ ((0 : Nat) + x_1.1.map.length).le x_1.1.map.length /\ ((0 : Nat) + x_1.1.edit.length).le x_1.1.edit.length /\ True /\ True /\ True /\ True /\ True /\ True
 /\ True /\ True /\ True /\ True) /\ ∃ (x : Unit), ((x_1.1.kind = (eventR w (Rd.mk l b)).1.kind /\ x_1.1.node = (eventR w (Rd.mk l b)).1.node /\ x_1.1.to = (eventR w (Rd.mk l b)).1.to /\ x_1.1.n = (eventR w (Rd.mk l
 b)).1.n /\ (1 = 1 /\ x_1.1.keep.length = (eventR w (Rd.mk l b)).1.keep.length /\ ∀ i < x_1.1.keep.length, bl (x_1.1.keep.getD ((0 : Nat) + i) false) = bl ((eventR w (Rd.mk l b)).1.keep.getD i false)) /\ (1 = 1 /\
 x_1.1.conf.length = (eventR w (Rd.mk l b)).1.conf.length /\ ∀ i < x_1.1.conf.length, nm (x_1.1.conf.getD ((0 : Nat) + i) (0 : Int)) = nm ((eventR w (Rd.mk l b)).1.conf.getD i (0 : Int))) /\ bs x_1.1.branch = bs (eventR w
 (Rd.mk l b)).1.branch /\ (2 = 2 /\ x_1.1.map.length = (eventR w (Rd.mk l b)).1.map.length /\ ∀ i < x_1.1.map.length, AV.agg [sl (x_1.1.map.getD ((0 : Nat) + i) ([], [])).1, sl (x_1.1.map.getD ((0 : Nat) + i) ([], [])).2]
 = AV.agg [sl ((eventR w (Rd.mk l b)).1.map.getD i ([], [])).1, sl ((eventR w (Rd.mk l b)).1.map.getD i ([], [])).2]) /\ (3 = 3 /\ x_1.1.edit.length = (eventR w (Rd.mk l b)).1.edit.length /\ ∀ i < x_1.1.edit.length,
 AV.agg [sl (x_1.1.edit.getD ((0 : Nat) + i) ([], false, [])).1, bl (x_1.1.edit.getD ((0 : Nat) + i) ([], false, [])).2.1, sl (x_1.1.edit.getD ((0 : Nat) + i) ([], false, [])).2.2] = AV.agg [sl ((eventR w (Rd.mk l
 b)).1.edit.getD i ([], false, [])).1, bl ((eventR w (Rd.mk l b)).1.edit.getD i ([], false, [])).2.1, sl ((eventR w (Rd.mk l b)).1.edit.getD i ([], false, [])).2.2]) /\ x_1.1.author = (eventR w (Rd.mk l b)).1.author /\ bs
 x_1.1.note = bs (eventR w (Rd.mk l b)).1.note /\ x_1.1.ck = (eventR w (Rd.mk l b)).1.ck /\ x_1.1.client = (eventR w (Rd.mk l b)).1.client /\ x_1.1.seq = (eventR w (Rd.mk l b)).1.seq /\ bs x_1.1.cbranch = bs (eventR w
 (Rd.mk l b)).1.cbranch /\ (k8Q = k8Q /\ 32 = 32 /\ ∀ i < 32, x_1.1.old i = (eventR w (Rd.mk l b)).1.old i) /\ (k8Q = k8Q /\ 32 = 32 /\ ∀ i < 32, x_1.1.new i = (eventR w (Rd.mk l b)).1.new i) /\ (True /\ List.length
 (eventR w (Rd.mk l b)).1.data = 0) /\ True) /\ True) /\ ((125 = 125 /\ bs x_1.2.rest = bs (eventR w (Rd.mk l b)).2.rest /\ true = (eventR w (Rd.mk l b)).2.bad /\ True) /\ True) /\ R ((eventR w (Rd.mk l b)).1.av)
 [LObj.box 125 [sl (eventR w (Rd.mk l b)).2.rest, bl (eventR w (Rd.mk l b)).2.bad]])) := by kernel_rfl
end Go.Proofs.Sz

namespace Go.Proofs.Sz
open Go Go.Am Go.SP
theorem vNums0 (l : Bs) (b : Bool) (R : AV -> List LObj -> Prop) : (vcA false false (List.length ([.box tyRd [sl l, bl b]] : List LObj)) [] Tryz.prog (mkTab []) (optC (Tryz.f66.body.getD .skip)) ([.unroll 1 1 true (λ _
 => [])]) (finalKH Tryz.prog Tryz.f66 (R)) (startStH Tryz.f66 ([.box tyRd [sl l, bl b]]) ([.ptr 0 0 0 0, .pl (.slice none 0 0)]))) = ( True /\ R (AV.tup []) [LObj.box 125 [sl l, bl b]]) := by kernel_rfl
theorem vNums1 (l : Bs) (b : Bool) (e : Ev) (R : AV -> List LObj -> Prop) : (vcA false false (List.length ([.box tyRd [sl l, bl b], .box tyEv (cellsZ e), .prow tyPI [.ptr 1 0 1 0, .ptr 1 0 3 0]] : List LObj)) []
 Tryz.prog (mkTab [(78, .hand tkR TNumber)]) (optC (Tryz.f66.body.getD .skip)) ([.unroll 1 3 true (λ _ => [])]) (finalKH Tryz.prog Tryz.f66 (R)) (startStH Tryz.f66 ([.box tyRd [sl l, bl b], .box tyEv (cellsZ e), .prow
 tyPI [.ptr 1 0 1 0, .ptr 1 0 3 0]]) ([.ptr 0 0 0 0, .own 2 0 2]))) = ( ((0 : Int) <= 0 /\ (0 : Int) + 1 <= (↑ (2 : Nat) : Int)) /\ True /\ (True /\ True) /\ (125 = 125 /\ l.length.le rlim) /\ True /\ ((0 : Int) ≤
 k64Q.wrap ((0 : Int) + 1) /\ k64Q.wrap ((0 : Int) + 1) + 1 <= (↑ (2 : Nat) : Int)) /\ True /\ (True /\ True) /\ (125 = 125 /\ (List.length (numberR (Rd.mk l b)).2.rest).le rlim) /\ True /\ True /\ R (AV.tup []) [LObj.box
 125 [sl (numberR (numberR (Rd.mk l b)).2).2.rest, bl (numberR (numberR (Rd.mk l b)).2).2.bad], LObj.box 62 [nm e.kind, nm (numberR (Rd.mk l b)).1, nm e.to, nm (numberR (numberR (Rd.mk l b)).2).1, nilS, nilS, sl e.branch,
 nilS, nilS, nuQ e.author, sl e.note, nm e.ck, nm e.client, nuQ e.seq, sl e.cbranch, iaQ e.old, iaQ e.new, nilS], LObj.prow 107 [AV.ptr 1 0 1 0, AV.ptr 1 0 3 0]]) := by kernel_rfl
theorem vNums2 (l : Bs) (b : Bool) (e : Ev) (R : AV -> List LObj -> Prop) : (vcA false false (List.length ([.box tyRd [sl l, bl b], .box tyEv (cellsZ e), .prow tyPI [.ptr 1 0 3 0]] : List LObj)) [] Tryz.prog (mkTab [(78,
 .hand tkR TNumber)]) (optC (Tryz.f66.body.getD .skip)) ([.unroll 1 3 true (λ _ => [])]) (finalKH Tryz.prog Tryz.f66 (R)) (startStH Tryz.f66 ([.box tyRd [sl l, bl b], .box tyEv (cellsZ e), .prow tyPI [.ptr 1 0 3 0]])
 ([.ptr 0 0 0 0, .own 2 0 1]))) = ( ((0 : Int) <= 0 /\ (0 : Int) + 1 <= (↑ (1 : Nat) : Int)) /\ True /\ (True /\ True) /\ (125 = 125 /\ l.length.le rlim) /\ True /\ True /\ R (AV.tup []) [LObj.box 125 [sl (numberR (Rd.mk
 l b)).2.rest, bl (numberR (Rd.mk l b)).2.bad], LObj.box 62 [nm e.kind, nm e.node, nm e.to, nm (numberR (Rd.mk l b)).1, nilS, nilS, sl e.branch, nilS, nilS, nuQ e.author, sl e.note, nm e.ck, nm e.client, nuQ e.seq, sl
 e.cbranch, iaQ e.old, iaQ e.new, nilS], LObj.prow 107 [AV.ptr 1 0 3 0]]) := by kernel_rfl
theorem vNums3 (l : Bs) (b : Bool) (e : Ev) (R : AV -> List LObj -> Prop) : (vcA false false (List.length ([.box tyRd [sl l, bl b], .box tyEv (cellsZ e), .prow tyPI [.ptr 1 0 1 0, .ptr 1 0 2 0]] : List LObj)) []
 Tryz.prog (mkTab [(78, .hand tkR TNumber)]) (optC (Tryz.f66.body.getD .skip)) ([.unroll 1 3 true (λ _ => [])]) (finalKH Tryz.prog Tryz.f66 (R)) (startStH Tryz.f66 ([.box tyRd [sl l, bl b], .box tyEv (cellsZ e), .prow
 tyPI [.ptr 1 0 1 0, .ptr 1 0 2 0]]) ([.ptr 0 0 0 0, .own 2 0 2]))) = ( ((0 : Int) <= 0 /\ (0 : Int) + 1 <= (↑ (2 : Nat) : Int)) /\ True /\ (True /\ True) /\ (125 = 125 /\ l.length.le rlim) /\ True /\ ((0 : Int) ≤
 k64Q.wrap ((0 : Int) + 1) /\ k64Q.wrap ((0 : Int) + 1) + 1 <= (↑ (2 : Nat) : Int)) /\ True /\ (True /\ True) /\ (125 = 125 /\ (List.length (numberR (Rd.mk l b)).2.rest).le rlim) /\ True /\ True /\ R (AV.tup []) [LObj.box
 125 [sl (numberR (numberR (Rd.mk l b)).2).2.rest, bl (numberR (numberR (Rd.mk l b)).2).2.bad], LObj.box 62 [nm e.kind, nm (numberR (Rd.mk l b)).1, nm (numberR (numberR (Rd.mk l b)).2).1, nm e.n, nilS, nilS, sl e.branch,
 nilS, nilS, nuQ e.author, sl e.note, nm e.ck, nm e.client, nuQ e.seq, sl e.cbranch, iaQ e.old, iaQ e.new, nilS], LObj.prow 107 [AV.ptr 1 0 1 0, AV.ptr 1 0 2 0]]) := by kernel_rfl
theorem vNums4 (l : Bs) (b : Bool) (e : Ev) (R : AV -> List LObj -> Prop) : (vcA false false (List.length ([.box tyRd [sl l, bl b], .box tyEv (cellsZ e), .prow tyPI [.ptr 1 0 1 0]] : List LObj)) [] Tryz.prog (mkTab [(78,
 .hand tkR TNumber)]) (optC (Tryz.f66.body.getD .skip)) ([.unroll 1 3 true (λ _ => [])]) (finalKH Tryz.prog Tryz.f66 (R)) (startStH Tryz.f66 ([.box tyRd [sl l, bl b], .box tyEv (cellsZ e), .prow tyPI [.ptr 1 0 1 0]])
 ([.ptr 0 0 0 0, .own 2 0 1]))) = ( ((0 : Int) <= 0 /\ (0 : Int) + 1 <= (↑ (1 : Nat) : Int)) /\ True /\ (True /\ True) /\ (125 = 125 /\ l.length.le rlim) /\ True /\ True /\ R (AV.tup []) [LObj.box 125 [sl (numberR (Rd.mk
 l b)).2.rest, bl (numberR (Rd.mk l b)).2.bad], LObj.box 62 [nm e.kind, nm (numberR (Rd.mk l b)).1, nm e.to, nm e.n, nilS, nilS, sl e.branch, nilS, nilS, nuQ e.author, sl e.note, nm e.ck, nm e.client, nuQ e.seq, sl
 e.cbranch, iaQ e.old, iaQ e.new, nilS], LObj.prow 107 [AV.ptr 1 0 1 0]]) := by kernel_rfl
theorem vNums5 (l : Bs) (b : Bool) (e : Ev) (R : AV -> List LObj -> Prop) : (vcA false false (List.length ([.box tyRd [sl l, bl b], .box tyEv (cellsZ e), .prow tyPI [.ptr 1 0 1 0, .ptr 1 0 11 0]] : List LObj)) []
 Tryz.prog (mkTab [(78, .hand tkR TNumber)]) (optC (Tryz.f66.body.getD .skip)) ([.unroll 1 3 true (λ _ => [])]) (finalKH Tryz.prog Tryz.f66 (R)) (startStH Tryz.f66 ([.box tyRd [sl l, bl b], .box tyEv (cellsZ e), .prow
 tyPI [.ptr 1 0 1 0, .ptr 1 0 11 0]]) ([.ptr 0 0 0 0, .own 2 0 2]))) = ( ((0 : Int) <= 0 /\ (0 : Int) + 1 <= (↑ (2 : Nat) : Int)) /\ True /\ (True /\ True) /\ (125 = 125 /\ l.length.le rlim) /\ True /\ ((0 : Int) ≤
 k64Q.wrap ((0 : Int) + 1) /\ k64Q.wrap ((0 : Int) + 1) + 1 <= (↑ (2 : Nat) : Int)) /\ True /\ (True /\ True) /\ (125 = 125 /\ (List.length (numberR (Rd.mk l b)).2.rest).le rlim) /\ True /\ True /\ R (AV.tup []) [LObj.box
 125 [sl (numberR (numberR (Rd.mk l b)).2).2.rest, bl (numberR (numberR (Rd.mk l b)).2).2.bad], LObj.box 62 [nm e.kind, nm (numberR (Rd.mk l b)).1, nm e.to, nm e.n, nilS, nilS, sl e.branch, nilS, nilS, nuQ e.author, sl
 e.note, nm (numberR (numberR (Rd.mk l b)).2).1, nm e.client, nuQ e.seq, sl e.cbranch, iaQ e.old, iaQ e.new, nilS], LObj.prow 107 [AV.ptr 1 0 1 0, AV.ptr 1 0 11 0]]) := by kernel_rfl
theorem vNumsS (l : Bs) (b : Bool) (x y z : Int) (m k t m2 : Nat) (f : Nat -> AV) (R : AV -> List LObj -> Prop) : (vcA false false (List.length ([.box tyRd [sl l, bl b], .box tySc [nm x, nm y, nm z, .own 3 0 m], .prow
 tyPI [.ptr 1 0 0 0, .ptr 1 0 1 0, .ptr 1 0 2 0], .row k t m2 f] : List LObj)) [] Tryz.prog (mkTab [(78, .hand tkR TNumber)]) (optC (Tryz.f66.body.getD .skip)) ([.unroll 1 4 true (λ _ => [])]) (finalKH Tryz.prog
 Tryz.f66 (R)) (startStH Tryz.f66 ([.box tyRd [sl l, bl b], .box tySc [nm x, nm y, nm z, .own 3 0 m], .prow tyPI [.ptr 1 0 0 0, .ptr 1 0 1 0, .ptr 1 0 2 0], .row k t m2 f]) ([.ptr 0 0 0 0, .own 2 0 3]))) = ( ((0 : Int) <=
 0 /\ (0 : Int) + 1 <= (↑ (3 : Nat) : Int)) /\ True /\ (True /\ True) /\ (125 = 125 /\ l.length.le rlim) /\ True /\ ((0 : Int) ≤ k64Q.wrap ((0 : Int) + 1) /\ k64Q.wrap ((0 : Int) + 1) + 1 <= (↑ (3 : Nat) : Int)) /\ True
 /\ (True /\ True) /\ (125 = 125 /\ (List.length (numberR (Rd.mk l b)).2.rest).le rlim) /\ True /\ ((0 : Int) <= k64Q.wrap (k64Q.wrap ((0 : Int) + 1) + 1) /\ k64Q.wrap (k64Q.wrap ((0 : Int) + 1) + 1) + 1 <= (↑ (3 : Nat) :
 Int)) /\ True /\ (True /\ True) /\ (125 = 125 /\ (List.length (numberR (numberR (Rd.mk l b)).2).2.rest).le rlim) /\ True /\ True /\ R (AV.tup []) [LObj.box 125 [sl (numberR (numberR (numberR (Rd.mk l b)).2).2).2.rest, bl
 (numberR (numberR (numberR (Rd.mk l b)).2).2).2.bad], LObj.box 28 [nm (numberR (Rd.mk l b)).1, nm (numberR (numberR (Rd.mk l b)).2).1, nm (numberR (numberR (numberR (Rd.mk l b)).2).2).1, AV.own 3 0 m], LObj.prow 107
 [AV.ptr 1 0 0 0, AV.ptr 1 0 1 0, AV.ptr 1 0 2 0], LObj.row k t m2 f]) := by kernel_rfl
theorem vChange (l : Bs) (b : Bool) (R : AV -> List LObj -> Prop) : (vcA false false (List.length ([.box tyRd [sl l, bl b]] : List LObj)) [] Tryz.prog (mkTab [(80, .hand tkR TText), (81, .lend TCutPre), (65, .hand tkR
 TBlank)]) (optC (Tryz.f83.body.getD .skip)) ([]) (finalKH Tryz.prog Tryz.f83 (λ y H => ∃ _ : Unit, leSt 1 ⟨[y], H⟩ ⟨[.agg [sl (changeR ⟨l, b⟩).1.1, bl (changeR ⟨l, b⟩).1.2.1, sl (changeR ⟨l, b⟩).1.2.2]], [rdO (changeR
 ⟨l, b⟩).2]⟩ (R (.agg [sl (changeR ⟨l, b⟩).1.1, bl (changeR ⟨l, b⟩).1.2.1, sl (changeR ⟨l, b⟩).1.2.2]) [rdO (changeR ⟨l, b⟩).2]))) (startStH Tryz.f83 ([.box tyRd [sl l, bl b]]) ([.ptr 0 0 0 0]))) = ( True /\ (True /\
 True) /\ (125 = 125 /\ l.length.le rlim) /\ True /\ True /\ ((gEq (([45] : Bs).isPrefixOf (textR (Rd.mk l b)).2.rest) true && gEq ((bs (cutPre ([45] : Bs) (textR (Rd.mk l b)).2.rest)).toList == (ByteArray.mk #[]).toList)
 false) = true -> ((0 : Int) <= 0 /\ (0 : Int) + 1 <= (↑ (List.length (cutPre ([45] : Bs) (textR (Rd.mk l b)).2.rest)) : Int)) /\ True) /\ ((bif ([45] : Bs).isPrefixOf (textR (Rd.mk l b)).2.rest then bif (bs (cutPre ([45]
 : Bs) (textR (Rd.mk l b)).2.rest)).toList == (ByteArray.mk #[]).toList then true else (↑ ((cutPre ([45] : Bs) (textR (Rd.mk l b)).2.rest).getD (Int.toNat 0) (0 : UInt8)).toNat : Int) == 32 else false) = true -> (True /\
 True) /\ (125 = 125 /\ (List.length (textR (Rd.mk l b)).2.rest).le rlim) /\ True /\ True /\ (True /\ True) /\ ∃ (x : Unit), ((bs (textR (Rd.mk l b)).1 = bs (changeR (Rd.mk l b)).1.1 /\ false = (changeR (Rd.mk l b)).1.2.1
 /\ ByteArray.mk #[] = bs (changeR (Rd.mk l b)).1.2.2 /\ True) /\ True) /\ ((125 = 125 /\ bs (blankR (textR (Rd.mk l b)).2).2.rest = bs (changeR (Rd.mk l b)).2.rest /\ (blankR (textR (Rd.mk l b)).2).2.bad = (changeR
 (Rd.mk l b)).2.bad /\ True) /\ True) /\ R (AV.agg [sl (changeR (Rd.mk l b)).1.1, bl (changeR (Rd.mk l b)).1.2.1, sl (changeR (Rd.mk l b)).1.2.2]) [LObj.box 125 [sl (changeR (Rd.mk l b)).2.rest, bl (changeR (Rd.mk l
 b)).2.bad]]) /\ ((bif ([45] : Bs).isPrefixOf (textR (Rd.mk l b)).2.rest then bif (bs (cutPre ([45] : Bs) (textR (Rd.mk l b)).2.rest)).toList == (ByteArray.mk #[]).toList then true else (↑ ((cutPre ([45] : Bs) (textR
 (Rd.mk l b)).2.rest).getD (Int.toNat 0) (0 : UInt8)).toNat : Int) == 32 else false) = false -> (True /\ True) /\ (125 = 125 /\ (List.length (textR (Rd.mk l b)).2.rest).le rlim) /\ True /\ True /\ (True /\ True) /\ ∃ (x :
 Unit), ((bs (textR (Rd.mk l b)).1 = bs (changeR (Rd.mk l b)).1.1 /\ true = (changeR (Rd.mk l b)).1.2.1 /\ bs (textR (textR (Rd.mk l b)).2).1 = bs (changeR (Rd.mk l b)).1.2.2 /\ True) /\ True) /\ ((125 = 125 /\ bs (textR
 (textR (Rd.mk l b)).2).2.rest = bs (changeR (Rd.mk l b)).2.rest /\ (textR (textR (Rd.mk l b)).2).2.bad = (changeR (Rd.mk l b)).2.bad /\ True) /\ True) /\ R (AV.agg [sl (changeR (Rd.mk l b)).1.1, bl (changeR (Rd.mk l
 b)).1.2.1, sl (changeR (Rd.mk l b)).1.2.2]) [LObj.box 125 [sl (changeR (Rd.mk l b)).2.rest, bl (changeR (Rd.mk l b)).2.bad]])) := by kernel_rfl
theorem vIdP (l : Bs) (inv inv3 : Nat × Bool -> Prop) (inv2 : Nat × Bool -> Nat -> Prop) (R : AV -> List LObj -> Prop) : (vcA false false 0 [] Tryz.prog (mkTab []) (optC (Tryz.f84.body.getD .skip)) ([.cut 12 (Nat × Bool)
 inv3 (λ x => ⟨slotsOf 51 0 [(0, sl l), (2, .ptr 0 0 0 0), (3, nm 0), (4, .ptr 1 0 0 0), (5, bl x.2)], [.box 57 [.iarr .u8 32 z0], .box 57 [.iarr .u8 32 (idUp l x.1)]]⟩) (λ _ => []), .loop 4 (Nat × Bool) inv (λ x =>
 ⟨slotsOf 51 0 [(0, sl l), (2, .ptr 0 0 0 0), (3, nm 0), (4, .ptr 1 0 0 0), (5, bl x.2), (13, .ptr 2 0 0 0)], [.box 57 [.iarr .u8 32 z0], .box 57 [.iarr .u8 32 (idUp l x.1)], .raw (.stringIter (bs l) x.1)]⟩) (λ x =>
 l.length - x.1) (λ x => [.loop 7 Nat (inv2 x) (λ j => ⟨slotsOf 51 0 [(0, sl l), (2, .ptr 0 0 0 0), (3, nm 0), (4, .ptr 1 0 0 0), (5, bl x.2), (6, nm x.1), (7, .pl (.int .i32 (Utf8.decode (bs l) x.1).1)), (8, nm j),
 (13, .ptr 2 0 0 0)], [.box 57 [.iarr .u8 32 z0], .box 57 [.iarr .u8 32 (idUp l x.1)], .raw (.stringIter (bs l) (x.1 + (Utf8.decode (bs l) x.1).2))]⟩) (λ j => 16 - j) (λ _ => [])])]) (finalK Tryz.prog Tryz.f84 (λ y
 H => ∃ _ : Unit, leSt 0 ⟨[y], H⟩ ⟨[.tup [.agg [.iarr .u8 32 (idR l).1], nm (idE l)]], []⟩ (R (.tup [.agg [.iarr .u8 32 (idR l).1], nm (idE l)]) []))) (startSt Tryz.f84 ([sl l]))) = ( True /\ True /\ ((∃ (x : Nat × Bool),
 (bs l = bs l /\ (True /\ 0 = 0 /\ 0 = 0 /\ 0 = 0) /\ (0 : Int) = 0 /\ (True /\ 0 = 0 /\ 0 = 0 /\ 0 = 0) /\ ((↑ l.length : Int) == 64) = x.2 /\ (True /\ 0 = 0 /\ 0 = 0 /\ 0 = 0) /\ True) /\ ((57 = 57 /\ (k8Q = k8Q /\ 32 =
 32 /\ ∀ i < 32, (0 : Int) = z0 i) /\ True) /\ (57 = 57 /\ (k8Q = k8Q /\ 32 = 32 /\ ∀ i < 32, (0 : Int) = idUp l x.1 i) /\ True) /\ Obj.stringIter (bs l) (0 : Nat) = Obj.stringIter (bs l) x.1 /\ True) /\ inv x) /\ ∀ (x :
 Nat × Bool), inv x -> (x.1 < l.length -> (true = true -> (∃ (x_1 : Nat), (bs l = bs l /\ (True /\ 0 = 0 /\ 0 = 0 /\ 0 = 0) /\ (0 : Int) = 0 /\ (True /\ 0 = 0 /\ 0 = 0 /\ 0 = 0) /\ x.2 = x.2 /\ (↑x.1 : Int) = (↑x.1 : Int)
 /\ (↑ (Utf8.decode (bs l) x.1).1 : Int) = (↑ (Utf8.decode (bs l) x.1).1 : Int) /\ (0 : Int) = (x_1 : Int) /\ (True /\ 0 = 0 /\ 0 = 0 /\ 0 = 0) /\ True) /\ ((57 = 57 /\ (k8Q = k8Q /\ 32 = 32 /\ ∀ i < 32, z0 i = z0 i) /\
 True) /\ (57 = 57 /\ (k8Q = k8Q /\ 32 = 32 /\ ∀ i < 32, idUp l x.1 i = idUp l x.1 i) /\ True) /\ Obj.stringIter (bs l) (x.1 + (Utf8.decode (bs l) x.1).2) = Obj.stringIter (bs l) (x.1 + (Utf8.decode (bs l) x.1).2) /\
 True) /\ inv2 x x_1) /\ ∀ (x_1 : Nat), inv2 x x_1 -> (gEq (decide ((x_1 : Int) < 16)) true = true -> ((0 : Int) <= (x_1 : Int) /\ (x_1 : Int) + 1 <= (↑ (ByteArray.mk #[48, 49, 50, 51, 52, 53, 54, 55, 56, 57, 97, 98, 99, 100, 101, 102]).size : Int)) /\ True) /\ ((bif decide
 ((x_1 : Int) < 16) then IntKind.i32.wrap (↑ (([48, 49, 50, 51, 52, 53, 54, 55, 56, 57, 97, 98, 99, 100, 101, 102] : Bs).getD (x_1 : Int).toNat (0 : UInt8)).toNat : Int) != (↑ (Utf8.decode (bs l) x.1).1 : Int) else
 false) = true -> ∃ (y : Nat), (bs l = bs l /\ (True /\ 0 = 0 /\ 0 = 0 /\ 0 = 0) /\ (0 : Int) = 0 /\ (True /\ 0 = 0 /\ 0 = 0 /\ 0 = 0) /\ x.2 = x.2 /\ (↑x.1 : Int) = (↑x.1 : Int) /\ (↑ (Utf8.decode (bs l) x.1).1 : Int) =
 (↑ (Utf8.decode (bs l) x.1).1 : Int) /\ k64Q.wrap ((x_1 : Int) + 1) = (y : Int) /\ (True /\ 0 = 0 /\ 0 = 0 /\ 0 = 0) /\ True) /\ ((57 = 57 /\ (k8Q = k8Q /\ 32 = 32 /\ ∀ i < 32, z0 i = z0 i) /\ True) /\ (57 = 57 /\ (k8Q
 = k8Q /\ 32 = 32 /\ ∀ i < 32, idUp l x.1 i = idUp l x.1 i) /\ True) /\ Obj.stringIter (bs l) (x.1 + (Utf8.decode (bs l) x.1).2) = Obj.stringIter (bs l) (x.1 + (Utf8.decode (bs l) x.1).2) /\ True) /\ inv2 x y /\ ((16 :
 Nat) - y).succ.le ((16 : Nat) - x_1)) /\ ((bif decide ((x_1 : Int) < 16) then IntKind.i32.wrap (↑ (([48, 49, 50, 51, 52, 53, 54, 55, 56, 57, 97, 98, 99, 100, 101, 102] : Bs).getD (x_1 : Int).toNat (0 : UInt8)).toNat :
 Int) != (↑ (Utf8.decode (bs l) x.1).1 : Int) else false) = false -> ((!bif x.2 then decide ((x_1 : Int) < 16) else false) = true -> ∃ (x_2 : Nat × Bool), (bs l = bs l /\ (True /\ 0 = 0 /\ 0 = 0 /\ 0 = 0) /\ (0 : Int) =
 0 /\ (True /\ 0 = 0 /\ 0 = 0 /\ 0 = 0) /\ (bif x.2 then decide ((x_1 : Int) < 16) else false) = x_2.2 /\ True) /\ ((57 = 57 /\ (k8Q = k8Q /\ 32 = 32 /\ ∀ i < 32, z0 i = z0 i) /\ True) /\ (57 = 57 /\ (k8Q = k8Q /\ 32 =
 32 /\ ∀ i < 32, idUp l x.1 i = idUp l x_2.1 i) /\ True) /\ True) /\ inv3 x_2) /\ ((!bif x.2 then decide ((x_1 : Int) < 16) else false) = false -> ((0 : Int) <= k64Q.wrap ((↑x.1 : Int).tdiv (Int.ofNat (nat_lit 1 + 1)))
 /\ k64Q.wrap ((↑x.1 : Int).tdiv (Int.ofNat (nat_lit 1 + 1))) + 1 <= (↑ (32 : Nat) : Int)) /\ (k64Q.wrap ((↑x.1 : Int).tdiv (Int.ofNat (nat_lit 1 + 1)))).toNat.succ.le (32 : Nat) /\ ((0 : Int) <= k64Q.wrap ((↑x.1 :
 Int).tdiv (Int.ofNat (nat_lit 1 + 1))) /\ k64Q.wrap ((↑x.1 : Int).tdiv (Int.ofNat (nat_lit 1 + 1))) + 1 <= (↑ (32 : Nat) : Int)) /\ (k64Q.wrap ((↑x.1 : Int).tdiv (Int.ofNat (nat_lit 1 + 1)))).toNat.succ.le (32 : Nat) /\
 ∃ (y : Nat × Bool), (bs l = bs l /\ (True /\ 0 = 0 /\ 0 = 0 /\ 0 = 0) /\ (0 : Int) = 0 /\ (True /\ 0 = 0 /\ 0 = 0 /\ 0 = 0) /\ (bif x.2 then decide ((x_1 : Int) < 16) else false) = y.2 /\ (True /\ 0 = 0 /\ 0 = 0 /\ 0 =
 0) /\ True) /\ ((57 = 57 /\ (k8Q = k8Q /\ 32 = 32 /\ ∀ i < 32, z0 i = z0 i) /\ True) /\ (57 = 57 /\ (k8Q = k8Q /\ 32 = 32 /\ ∀ i < 32, (if i = (k64Q.wrap ((↑x.1 : Int).tdiv (Int.ofNat (nat_lit 1 + 1)))).toNat then
 k8Q.wrap (k8Q.wrap (idUp l x.1 (k64Q.wrap ((↑x.1 : Int).tdiv (Int.ofNat (nat_lit 1 + 1)))).toNat * 2 ^ min (nat_lit 4) k8Q.bits) + k8Q.wrap (x_1 : Int)) else idUp l x.1 i) = idUp l y.1 i) /\ True) /\ Obj.stringIter (bs
 l) (x.1 + (Utf8.decode (bs l) x.1).2) = Obj.stringIter (bs l) y.1 /\ True) /\ inv y /\ (l.length - y.1).succ.le (l.length - x.1)))) /\ (true = false -> ∃ (x_1 : Nat × Bool), (bs l = bs l /\ (True /\ 0 = 0 /\ 0 = 0 /\ 0 =
 0) /\ (0 : Int) = 0 /\ (True /\ 0 = 0 /\ 0 = 0 /\ 0 = 0) /\ x.2 = x_1.2 /\ True) /\ ((57 = 57 /\ (k8Q = k8Q /\ 32 = 32 /\ ∀ i < 32, z0 i = z0 i) /\ True) /\ (57 = 57 /\ (k8Q = k8Q /\ 32 = 32 /\ ∀ i < 32, idUp l x.1 i =
 idUp l x_1.1 i) /\ True) /\ True) /\ inv3 x_1)) /\ (¬x.1 < l.length -> (false = true -> False) /\ (false = false -> ∃ (x_1 : Nat × Bool), (bs l = bs l /\ (True /\ 0 = 0 /\ 0 = 0 /\ 0 = 0) /\ (0 : Int) = 0 /\ (True /\ 0 =
 0 /\ 0 = 0 /\ 0 = 0) /\ x.2 = x_1.2 /\ True) /\ ((57 = 57 /\ (k8Q = k8Q /\ 32 = 32 /\ ∀ i < 32, z0 i = z0 i) /\ True) /\ (57 = 57 /\ (k8Q = k8Q /\ 32 = 32 /\ ∀ i < 32, idUp l x.1 i = idUp l x_1.1 i) /\ True) /\ True) /\
 inv3 x_1))) /\ ∀ (x : Nat × Bool), inv3 x -> ((!x.2) = true -> True /\ (True /\ True /\ True) /\ ((True /\ True) /\ True /\ True) /\ ∃ (x : Unit), ((((k8Q = k8Q /\ 32 = 32 /\ ∀ i < 32, (0 : Int) = (idR l).1 i) /\ True)
 /\ (130 : Int) = idE l /\ True) /\ True) /\ True /\ R (AV.tup [AV.agg [iaQ (idR l).1], nm (idE l)]) []) /\ ((!x.2) = false -> True /\ (True /\ True /\ True) /\ ((True /\ True) /\ True /\ True) /\ ∃ (x_1 : Unit), ((((k8Q
 = k8Q /\ 32 = 32 /\ ∀ i < 32, idUp l x.1 i = (idR l).1 i) /\ True) /\ (0 : Int) = idE l /\ True) /\ True) /\ True /\ R (AV.tup [AV.agg [iaQ (idR l).1], nm (idE l)]) [])) := by kernel_rfl
theorem vIdT (f : Nat -> Int) (R : AV -> List LObj -> Prop) (inv : Nat -> Prop) : (vcA false false 0 [] Tryz.prog (mkTab []) (optC (Tryz.f46.body.getD .skip)) ([.loop 3 Nat inv (λ i => ⟨slotsOf 23 0 [(3, .own 0 0 (2 *
 i)), (7, .agg [.iarr .u8 32 f]), (8, nm i)], [.row 1 tyU8 (2 * i) (byteF (bs (idTk f i)))]⟩) (λ i => 32 - i) (λ _ => [])]) (finalK Tryz.prog Tryz.f46 (R)) (startSt Tryz.f46 ([.agg [.iarr .u8 32 f]]))) = ( True /\ (0
 : Int) <= 0 /\ (0 : Int) <= 64 /\ (↑ (1 : Nat) : Int) * 64 <= 281474976710656 /\ (64 : Int) <= 9223372036854775807 /\ (∃ (x : Nat), ((True /\ 0 = 0 /\ (0 : Nat) = 2 * x) /\ ((k8Q = k8Q /\ 32 = 32 /\ ∀ i < 32, f i = f i)
 /\ True) /\ (0 : Int) = (x : Int) /\ True) /\ ((1 = 1 /\ 5 = 5 /\ ((2 : Nat) * x).le (Int.toNat 0) /\ ∀ (i : Nat), i < 2 * x -> AV.pl (Value.int k8Q (0 : Int)) = AV.pl (Value.int k8Q (↑ ((idTk f x).getD i (0 :
 UInt8)).toNat : Int))) /\ True) /\ inv x) /\ ∀ (x : Nat), inv x -> (decide ((x : Int) < 32) = true -> ((0 : Int) <= (x : Int) /\ (x : Int) + 1 <= (↑ (32 : Nat) : Int)) /\ ((0 : Int) <= k8Q.wrap ((f (↑x :
 Int).toNat).tdiv (Int.ofNat (nat_lit 15 + 1))) /\ k8Q.wrap ((f (x : Int).toNat).tdiv (Int.ofNat (nat_lit 15 + 1))) + 1 <= (↑ (ByteArray.mk #[48, 49, 50, 51, 52, 53, 54, 55, 56, 57, 97, 98, 99, 100, 101, 102]).size : Int)) /\ ((0 : Int) <= k8Q.wrap ((f (x : Int).toNat).tdiv
 (Int.ofNat (nat_lit 15 + 1))) /\ k8Q.wrap ((f (x : Int).toNat).tdiv (Int.ofNat (nat_lit 15 + 1))) + 1 <= (↑ (ByteArray.mk #[48, 49, 50, 51, 52, 53, 54, 55, 56, 57, 97, 98, 99, 100, 101, 102]).size : Int)) /\ ((0 : Int) <= (f (x : Int).toNat).tmod (Int.ofNat (nat_lit 15 +
 1)) /\ (f (x : Int).toNat).tmod (Int.ofNat (nat_lit 15 + 1)) + 1 <= (↑ (ByteArray.mk #[48, 49, 50, 51, 52, 53, 54, 55, 56, 57, 97, 98, 99, 100, 101, 102]).size : Int)) /\ ((0 : Int) <= (f (x : Int).toNat).tmod (Int.ofNat (nat_lit 15 + 1)) /\ (f (x : Int).toNat).tmod (Int.ofNat
 (nat_lit 15 + 1)) + 1 <= (↑ (ByteArray.mk #[48, 49, 50, 51, 52, 53, 54, 55, 56, 57, 97, 98, 99, 100, 101, 102]).size : Int)) /\ True /\ (((0 : Nat) + 2).le (2 : Nat) /\ (2 : Nat) * x = 2 * x /\ ((2 : Nat) * x + 2).le maxLen /\ (((2 : Nat) * x + 2) * 1).le (140737488355328 :
 Nat)) /\ ∃ (y : Nat), ((True /\ 0 = 0 /\ (2 : Nat) * x + 2 = 2 * y) /\ ((k8Q = k8Q /\ 32 = 32 /\ ∀ i < 32, f i = f i) /\ True) /\ k64Q.wrap ((x : Int) + 1) = (y : Int) /\ True) /\ ((1 = 1 /\ 5 = 5 /\ ((2 : Nat) * y).le
 ((2 : Nat) * x + 2) /\ ∀ (i : Nat), i < 2 * y -> (if i < 2 * x then AV.pl (Value.int k8Q (↑ ((idTk f x).getD i (0 : UInt8)).toNat : Int)) else rowOf [((0 : Nat), AV.pl (Value.int k8Q (↑ (([48, 49, 50, 51, 52, 53, 54, 55,
 56, 57, 97, 98, 99, 100, 101, 102] : Bs).getD (k8Q.wrap ((f (x : Int).toNat).tdiv (Int.ofNat (nat_lit 15 + 1)))).toNat (0 : UInt8)).toNat : Int))), ((1 : Nat), AV.pl (Value.int k8Q (↑ (([48, 49, 50, 51, 52, 53, 54, 55,
 56, 57, 97, 98, 99, 100, 101, 102] : Bs).getD ((f (x : Int).toNat).tmod (Int.ofNat (nat_lit 15 + 1))).toNat (0 : UInt8)).toNat : Int)))] ((0 : Nat) + (i - 2 * x))) = AV.pl (Value.int k8Q (↑ ((idTk f y).getD i (0 :
 UInt8)).toNat : Int))) /\ True) /\ inv y /\ ((32 : Nat) - y).succ.le ((32 : Nat) - x)) /\ (decide ((x : Int) < 32) = false -> ((0 : Nat) + 2 * x).le ((2 : Nat) * x) /\ ∃ (bs : ByteArray), bs.size = 2 * x /\ (∀ (i :
 Nat), i < 2 * x -> AV.pl (Value.int k8Q (↑ ((SP.bs (idTk f x)).data.toList.getD ((0 : Nat) + i) (0 : UInt8)).toNat : Int)) = AV.pl (Value.int k8Q (↑ (bs.data.toList.getD i (0 : UInt8)).toNat : Int))) /\ (True /\ True) /\
 True /\ R (AV.pl (Value.string bs)) [])) := by kernel_rfl
end Go.Proofs.Sz

namespace Go.Proofs.Sz
open Go Go.Am Go.SP
theorem number_le (r : Rd) : (numberR r).2.rest.length <= r.rest.length := by
 have := blank_le r
 simp only [numberR]
 omega
theorem cutPre_le (p l : Bs) : (cutPre p l).length <= l.length := by
 unfold cutPre
 cases p.isPrefixOf l <;> simp
theorem text_le (r : Rd) : (textR r).2.rest.length <= r.rest.length := by
 unfold textR
 split
 ·rename_i b e hb
  have h1 := cutPre_le [34] r.rest
  have h2 := cutPre_le [32] ((cutPre [34] r.rest).drop (e + 1))
  simp only [textEnd]
  simp at h2
  omega
 ·simp
theorem w01 : IntKind.i64.wrap (0 + 1) = 1 := by decide
theorem w12 : IntKind.i64.wrap (1 + 1) = 2 := by decide
theorem cls_1 {k : Int} (h : clsK k = 1) : kNN k = true := by
 unfold clsK at h
 revert h
 cases kNN k <;> cases kN k <;> cases kNT k <;> cases k1 k <;> cases k == 14 <;> simp
theorem cls_2 {k : Int} (h : clsK k = 2) : kNN k = false /\ kN k = true := by
 unfold clsK at h
 revert h
 cases kNN k <;> cases kN k <;> cases kNT k <;> cases k1 k <;> cases k == 14 <;> simp
theorem cls_3 {k : Int} (h : clsK k = 3) : kNN k = false /\ kN k = false /\ kNT k = true := by
 unfold clsK at h
 revert h
 cases kNN k <;> cases kN k <;> cases kNT k <;> cases k1 k <;> cases k == 14 <;> simp
theorem cls_4 {k : Int} (h : clsK k = 4) : kNN k = false /\ kN k = false /\ kNT k = false /\ k1 k = true := by
 unfold clsK at h
 revert h
 cases kNN k <;> cases kN k <;> cases kNT k <;> cases k1 k <;> cases k == 14 <;> simp
theorem cls_5 {k : Int} (h : clsK k = 5) : kNN k = false /\ kN k = false /\ kNT k = false /\ k1 k = false /\ (k == 14) = true := by
 unfold clsK at h
 revert h
 cases kNN k <;> cases kN k <;> cases kNT k <;> cases k1 k <;> cases k == 14 <;> simp
theorem cls_0 {k : Int} (h : clsK k = 0) : kNN k = false /\ kN k = false /\ kNT k = false /\ k1 k = false /\ (k == 14) = false := by
 unfold clsK at h
 revert h
 cases kNN k <;> cases kN k <;> cases kNT k <;> cases k1 k <;> cases k == 14 <;> simp
theorem XNumbers : EntOk Tryz.prog 66 (.hand tkN TNumbers) := by
 refine ⟨Am.enters_of Tryz.func66 (by kernel_rfl) (by kernel_rfl), λ H0 args R h => ?_⟩
 unfold TNumbers at h
 split at h
 ·rename_i t s b
  obtain ⟨l, rfl⟩ : ∃ l, s = bs l := ⟨_, bs_of s⟩
  obtain ⟨rfl, h⟩ := h
  refine mkHo (vNums0 l b R) (tb az) Tryz.func66 (by kernel_rfl) ?_
  simp only [true_and, and_true, and_self, implies_true, forall_const, gEq_true, gEq_false, nonneg_iff, natle_iff, decide_eq_true_eq, decide_eq_false_iff_not, Int.toNat_natCast, cond_bt, cond_bf, Bool.cond_true, Bool.cond_false, Bool.not_true, Bool.not_false, reduceCtorEq, false_implies, implies_true, Bool.true_eq_false, Bool.false_eq_true, Bool.not_eq_true', Bool.not_eq_false']
  exact h
 ·rename_i t s b t2 cs t3 ps n
  obtain ⟨l, rfl⟩ : ∃ l, s = bs l := ⟨_, bs_of s⟩
  obtain ⟨e, ⟨rfl, h1, rfl, rfl, rfl, hp⟩, h⟩ := h
  have hle := number_le ⟨l, b⟩
  simp only [bs_size, bs_data] at h h1
  dsimp only at hle
  rcases hp with ⟨hk, rfl, rfl⟩ | ⟨hk, rfl, rfl⟩ | ⟨hk, rfl, rfl⟩ | ⟨hk, rfl, rfl⟩ | ⟨hk, rfl, rfl⟩
  ·refine mkHo (vNums1 l b e R) (tb (ac XNumber az)) Tryz.func66 (by kernel_rfl) ?_
   have k := cls_1 hk
   simp only [fieldsN, Ev.setF, k, cond_true, numbersR, rdO, cellsZ] at h
   simp only [true_and, and_true, and_self, implies_true, forall_const, gEq_true, gEq_false, nonneg_iff, natle_iff, decide_eq_true_eq, decide_eq_false_iff_not, Int.toNat_natCast, cond_bt, cond_bf, Bool.cond_true, Bool.cond_false, Bool.not_true, Bool.not_false, reduceCtorEq, false_implies, implies_true, Bool.true_eq_false, Bool.false_eq_true, Bool.not_eq_true', Bool.not_eq_false', bs_size, bs_data, bs_toList, bs_extract, bs_append, bs_mk, byteF, w01, w12]
   (repeat' apply And.intro) <;> first | exact h | omega
  ·refine mkHo (vNums2 l b e R) (tb (ac XNumber az)) Tryz.func66 (by kernel_rfl) ?_
   have k := cls_2 hk
   simp only [fieldsN, Ev.setF, k.1, k.2, cond_true, cond_false, numbersR, rdO, cellsZ] at h
   simp only [true_and, and_true, and_self, implies_true, forall_const, gEq_true, gEq_false, nonneg_iff, natle_iff, decide_eq_true_eq, decide_eq_false_iff_not, Int.toNat_natCast, cond_bt, cond_bf, Bool.cond_true, Bool.cond_false, Bool.not_true, Bool.not_false, reduceCtorEq, false_implies, implies_true, Bool.true_eq_false, Bool.false_eq_true, Bool.not_eq_true', Bool.not_eq_false', bs_size, bs_data, bs_toList, bs_extract, bs_append, bs_mk, byteF, w01, w12]
   (repeat' apply And.intro) <;> first | exact h | omega
  ·refine mkHo (vNums3 l b e R) (tb (ac XNumber az)) Tryz.func66 (by kernel_rfl) ?_
   have k := cls_3 hk
   simp only [fieldsN, Ev.setF, k.1, k.2.1, k.2.2, cond_true, cond_false, numbersR, rdO, cellsZ] at h
   simp only [true_and, and_true, and_self, implies_true, forall_const, gEq_true, gEq_false, nonneg_iff, natle_iff, decide_eq_true_eq, decide_eq_false_iff_not, Int.toNat_natCast, cond_bt, cond_bf, Bool.cond_true, Bool.cond_false, Bool.not_true, Bool.not_false, reduceCtorEq, false_implies, implies_true, Bool.true_eq_false, Bool.false_eq_true, Bool.not_eq_true', Bool.not_eq_false', bs_size, bs_data, bs_toList, bs_extract, bs_append, bs_mk, byteF, w01, w12]
   (repeat' apply And.intro) <;> first | exact h | omega
  ·refine mkHo (vNums4 l b e R) (tb (ac XNumber az)) Tryz.func66 (by kernel_rfl) ?_
   have k := cls_4 hk
   simp only [fieldsN, Ev.setF, k.1, k.2.1, k.2.2.1, k.2.2.2, cond_true, cond_false, numbersR, rdO, cellsZ] at h
   simp only [true_and, and_true, and_self, implies_true, forall_const, gEq_true, gEq_false, nonneg_iff, natle_iff, decide_eq_true_eq, decide_eq_false_iff_not, Int.toNat_natCast, cond_bt, cond_bf, Bool.cond_true, Bool.cond_false, Bool.not_true, Bool.not_false, reduceCtorEq, false_implies, implies_true, Bool.true_eq_false, Bool.false_eq_true, Bool.not_eq_true', Bool.not_eq_false', bs_size, bs_data, bs_toList, bs_extract, bs_append, bs_mk, byteF, w01, w12]
   (repeat' apply And.intro) <;> first | exact h | omega
  ·refine mkHo (vNums5 l b e R) (tb (ac XNumber az)) Tryz.func66 (by kernel_rfl) ?_
   have k := cls_5 hk
   simp only [fieldsN, Ev.setF, k.1, k.2.1, k.2.2.1, k.2.2.2.1, k.2.2.2.2, cond_true, cond_false, numbersR, rdO, cellsZ] at h
   simp only [true_and, and_true, and_self, implies_true, forall_const, gEq_true, gEq_false, nonneg_iff, natle_iff, decide_eq_true_eq, decide_eq_false_iff_not, Int.toNat_natCast, cond_bt, cond_bf, Bool.cond_true, Bool.cond_false, Bool.not_true, Bool.not_false, reduceCtorEq, false_implies, implies_true, Bool.true_eq_false, Bool.false_eq_true, Bool.not_eq_true', Bool.not_eq_false', bs_size, bs_data, bs_toList, bs_extract, bs_append, bs_mk, byteF, w01, w12]
   (repeat' apply And.intro) <;> first | exact h | omega
 ·rename_i t s b t2 x y z m t3 k e m2 f
  obtain ⟨l, rfl⟩ : ∃ l, s = bs l := ⟨_, bs_of s⟩
  obtain ⟨⟨rfl, h1, rfl, rfl⟩, h⟩ := h
  have hle := number_le ⟨l, b⟩
  have hle2 := number_le (numberR ⟨l, b⟩).2
  simp only [bs_size, bs_data] at h h1
  dsimp only at hle
  refine mkHo (vNumsS l b x y z m k e m2 f R) (tb (ac XNumber az)) Tryz.func66 (by kernel_rfl) ?_
  simp only [numbersR, rdO] at h
  simp only [true_and, and_true, and_self, implies_true, forall_const, gEq_true, gEq_false, nonneg_iff, natle_iff, decide_eq_true_eq, decide_eq_false_iff_not, Int.toNat_natCast, cond_bt, cond_bf, Bool.cond_true, Bool.cond_false, Bool.not_true, Bool.not_false, reduceCtorEq, false_implies, implies_true, Bool.true_eq_false, Bool.false_eq_true, Bool.not_eq_true', Bool.not_eq_false', bs_size, bs_data, bs_toList, bs_extract, bs_append, bs_mk, byteF, w01, w12]
  (repeat' apply And.intro) <;> first | exact h | omega
 ·exact h.elim
theorem XChange : EntOk Tryz.prog 83 (.hand tkR TChange) := by
 refine ⟨Am.enters_of Tryz.func83 (by kernel_rfl) (by kernel_rfl), λ H0 args R h => ?_⟩
 unfold TChange at h
 split at h
 ·rename_i t s b
  obtain ⟨l, rfl⟩ : ∃ l, s = bs l := ⟨_, bs_of s⟩
  obtain ⟨⟨rfl, h1⟩, h⟩ := h
  have hle := text_le ⟨l, b⟩
  simp only [bs_size, bs_data] at h h1
  dsimp only at hle
  refine SpecH.weak (Z := Unit) (X := λ _ => .agg [sl (changeR ⟨l, b⟩).1.1, bl (changeR ⟨l, b⟩).1.2.1, sl (changeR ⟨l, b⟩).1.2.2]) (HH := λ _ => [rdO (changeR ⟨l, b⟩).2]) (mkHo (vChange l b R) (tb (ac XText (ac XCutPre (ac XBlank az)))) Tryz.func83 (by kernel_rfl) ?_)
  have e1 : Int.toNat 0 = 0 := rfl
  have e2 : ∀ c : UInt8, (((c.toNat : Nat) : Int) == 32) = (c == 32) := λ c => by
   rw [Bool.eq_iff_iff, beq_iff_eq, beq_iff_eq]
   exact ⟨λ h => UInt8.toNat.inj (by show c.toNat = 32; omega), λ h => by rw [h]; rfl⟩
  have e3 : ∀ l : Bs, ((bs l).toList == (ByteArray.mk #[]).toList) = (l == []) := λ l => by simp [ByteArray.toList_eq]
  simp only [true_and, and_true, and_self, implies_true, forall_const, gEq_true, gEq_false, nonneg_iff, natle_iff, decide_eq_true_eq, decide_eq_false_iff_not, Int.toNat_natCast, cond_bt, cond_bf, Bool.cond_true, Bool.cond_false, Bool.not_true, Bool.not_false, reduceCtorEq, false_implies, implies_true, Bool.true_eq_false, Bool.false_eq_true, Bool.not_eq_true', Bool.not_eq_false', bs_size, bs_data, bs_toList, bs_extract, bs_append, bs_mk, byteF, e1, e2, e3]
  unfold changeR at h ⊢
  generalize textR ⟨l, b⟩ = r at *
  refine ⟨h1, λ q => ⟨by omega, ?_⟩, λ q => ?_, λ q => ?_⟩
  ·rw [Bool.and_eq_true] at q
   have hne : cutPre [45] r.snd.rest ≠ [] := by simpa using q.2
   have := List.length_pos_iff.2 hne
   omega
  ·simp only [q, cond_true] at h ⊢
   exact ⟨by omega, (), by simp, by simp, h⟩
  ·simp only [q, cond_false] at h ⊢
   exact ⟨by omega, (), by simp, by simp, h⟩
 ·exact h.elim
theorem dec_at (l : Bs) (i : Nat) (hi : i < l.length) : ((l.getD i 0).toNat < 128 -> Utf8.decode (bs l) i = ((l.getD i 0).toNat, 1)) /\ (128 <= (l.getD i 0).toNat -> 128 <= (Utf8.decode (bs l) i).1) := by
 have hg : ((bs l).get! (i + 0)).toNat = (l.getD i 0).toNat := by
  simp [bs, ByteArray.get!, List.getD_eq_getElem?_getD, hi]
 constructor
 ·intro h
  unfold Utf8.decode
  simp only [hg]
  rw [if_pos h]
 ·intro h
  unfold Utf8.decode
  simp only [hg]
  rw [if_neg (by omega)]
  (repeat' split) <;> first | (simp only [Utf8.runeError]; omega) | (rename_i q; simp at q ⊢; omega)
theorem dig_hex : ∀ (c : Fin 256) (j : Fin 16), (hexD j.val).toNat = c.val ↔ digV (UInt8.ofNat c.val) = j.val := by decide +kernel
theorem hex_lt : ∀ j : Fin 16, (hexD j.val).toNat < 128 := by decide +kernel
theorem dig_16 : ∀ c : Fin 256, digV (UInt8.ofNat c.val) < 16 ∨ digV (UInt8.ofNat c.val) = 16 := by decide +kernel
theorem dig_hi : ∀ c : Fin 256, 128 <= c.val -> digV (UInt8.ofNat c.val) = 16 := by decide +kernel
theorem wrap_i32 : ∀ c : Fin 256, IntKind.i32.wrap ((c.val : Nat) : Int) = (c.val : Nat) := by decide +kernel
theorem dig_at (l : Bs) (i : Nat) (hi : i < l.length) (j : Nat) (hj : j < 16) : (IntKind.i32.wrap (((([48, 49, 50, 51, 52, 53, 54, 55, 56, 57, 97, 98, 99, 100, 101, 102] : Bs).getD j 0).toNat : Nat) : Int) != (((Utf8.decode (bs l) i).1 : Nat) : Int)) = !(digV (l.getD i 0) == j) := by
 have h1 := digs ⟨j, hj⟩
 have h2 := hex_lt ⟨j, hj⟩
 dsimp only at h1 h2
 rw [h1]
 have h3 := wrap_i32 ⟨(hexD j).toNat, by omega⟩
 dsimp only at h3
 rw [h3]
 obtain ⟨h4, h5⟩ := dec_at l i hi
 have hc := (l.getD i 0).toNat_lt
 have h6 := dig_hex ⟨(l.getD i 0).toNat, hc⟩ ⟨j, hj⟩
 have h7 := dig_hi ⟨(l.getD i 0).toNat, hc⟩
 simp only [UInt8.ofNat_toNat] at h6 h7
 rw [Bool.eq_iff_iff]
 simp only [bne_iff_ne, ne_eq, Bool.not_eq_true', beq_eq_false_iff_ne]
 rcases Nat.lt_or_ge (l.getD i 0).toNat 128 with hlt | hge
 ·rw [h4 hlt, <- h6]
  exact ⟨λ h e => h (by rw [e]), λ h e => h (Int.ofNat.inj e)⟩
 ·have := h5 hge
  rw [h7 hge]
  exact ⟨λ _ => by omega, λ _ e => by omega⟩
theorem dig_dec (l : Bs) (i : Nat) (hi : i < l.length) (h : digV (l.getD i 0) < 16) : (Utf8.decode (bs l) i).2 = 1 := by
 obtain ⟨h4, _⟩ := dec_at l i hi
 have hc := (l.getD i 0).toNat_lt
 have h7 := dig_hi ⟨(l.getD i 0).toNat, hc⟩
 simp only [UInt8.ofNat_toNat] at h7
 rw [h4 (by rcases Nat.lt_or_ge (l.getD i 0).toNat 128 with hlt | hge; exact hlt; have := h7 hge; omega)]
theorem half : ∀ i : Fin 64, IntKind.i64.wrap (((i.val : Nat) : Int).tdiv 2) = ((i.val / 2 : Nat) : Int) := by decide +kernel
theorem dig_put : ∀ (a : Fin 16) (j : Fin 16), IntKind.u8.wrap (IntKind.u8.wrap (((a.val : Nat) : Int) * 2 ^ min 4 IntKind.u8.bits) + IntKind.u8.wrap ((j.val : Nat) : Int)) = ((a.val * 16 + j.val : Nat) : Int) := by decide +kernel
theorem idUp_step (l : Bs) (i : Nat) (hi : i < l.length) (h64 : l.length = 64) (hd : ∀ j, j < i -> digV (l.getD j 0) < 16) (j : Nat) (hj : j < 16) (hdj : digV (l.getD i 0) = j) (k : Nat) :
  (if k = i / 2 then IntKind.u8.wrap (IntKind.u8.wrap (idUp l i (i / 2) * 2 ^ min 4 IntKind.u8.bits) + IntKind.u8.wrap ((j : Nat) : Int)) else idUp l i k) = idUp l (i + 1) k := by
 split
 ·rename_i hk
  subst hk
  rcases Nat.mod_two_eq_zero_or_one i with h2 | h2
  ·have e1 : idUp l i (i / 2) = ((0 : Nat) : Int) := by
    unfold idUp
    rw [if_neg (by omega), if_neg (by omega)]
    rfl
   have e2 : idUp l (i + 1) (i / 2) = ((digV (l.getD i 0) : Nat) : Int) := by
    unfold idUp
    rw [if_neg (by omega), if_pos (by omega), show 2 * (i / 2) = i by omega]
   rw [e1, e2, hdj]
   have := dig_put ⟨0, by omega⟩ ⟨j, hj⟩
   dsimp only at this
   rw [this]
   simp
  ·have hp := hd (i - 1) (by omega)
   have e1 : idUp l i (i / 2) = ((digV (l.getD (i - 1) 0) : Nat) : Int) := by
    unfold idUp
    rw [if_neg (by omega), if_pos (by omega), show 2 * (i / 2) = i - 1 by omega]
   have e2 : idUp l (i + 1) (i / 2) = ((digV (l.getD (i - 1) 0) * 16 + digV (l.getD i 0) : Nat) : Int) := by
    unfold idUp
    rw [if_pos (by omega), show 2 * (i / 2) = i - 1 by omega, show i - 1 + 1 = i by omega]
   rw [e1, e2, hdj]
   exact dig_put ⟨_, hp⟩ ⟨j, hj⟩
 ·unfold idUp
  by_cases h1 : 2 * k + 1 < i
  ·rw [if_pos h1, if_pos (by omega)]
  ·by_cases h2 : 2 * k < i
   ·omega
   ·rw [if_neg h1, if_neg h2, if_neg (by omega), if_neg (by omega)]
theorem XIdP : EntOk Tryz.prog 84 (.lend TIdP) := by
 refine ⟨Am.enters_of Tryz.func84 (by kernel_rfl) (by kernel_rfl), λ args R h => ?_⟩
 unfold TIdP at h
 split at h
 ·rename_i s
  obtain ⟨l, rfl⟩ : ∃ l, s = bs l := ⟨_, bs_of s⟩
  obtain ⟨h1, h⟩ := h
  rw [bs_size] at h1
  rw [bs_data] at h
  unfold rlim at h1
  refine Spec.weak (Z := Unit) (X := λ _ => .tup [.agg [.iarr .u8 32 (idR l).1], nm (idE l)]) (HH := λ _ => []) (mkSo (vIdP l (λ x => x.1 <= l.length /\ (∀ j, j < x.1 -> digV (l.getD j 0) < 16) /\ x.2 = (l.length == 64) /\ (0 < x.1 -> l.length = 64)) (λ x => x.2 = idOk l /\ (x.2 = true -> x.1 = l.length)) (λ x j => j <= 16 /\ ∀ k, k < j -> digV (l.getD x.1 0) ≠ k) R) (tb az) Tryz.func84 (by kernel_rfl) ?_)
  have t2 : Int.ofNat (nat_lit 1 + 1) = 2 := rfl
  simp only [true_and, and_true, and_self, implies_true, forall_const, gEq_true, gEq_false, nonneg_iff, natle_iff, decide_eq_true_eq, decide_eq_false_iff_not, Int.toNat_natCast, cond_bt, cond_bf, Bool.cond_true, Bool.cond_false, Bool.not_true, Bool.not_false, reduceCtorEq, false_implies, implies_true, Bool.true_eq_false, Bool.false_eq_true, Bool.not_eq_true', Bool.not_eq_false', bs_size, bs_data, bs_toList, bs_extract, bs_append, bs_mk, byteF, t2]
  have h16 : ∀ i, digV (l.getD i 0) < 16 ∨ digV (l.getD i 0) = 16 := λ i => by
   have := dig_16 ⟨(l.getD i 0).toNat, (l.getD i 0).toNat_lt⟩
   simpa using this
  have hno : ∀ i, i < l.length -> digV (l.getD i 0) = 16 -> idOk l = false := λ i hi hd => by
   rw [idOk, Bool.and_eq_false_iff]
   right
   rw [List.all_eq_false]
   refine ⟨l.getD i 0, by rw [List.getD_eq_getElem?_getD, List.getElem?_eq_getElem hi]; exact List.getElem_mem hi, by rw [hd]; decide⟩
  refine ⟨⟨⟨(0, l.length == 64), ?_, ⟨λ _ _ => rfl, λ i _ => ?_, rfl⟩, Nat.zero_le _, λ j hj => absurd hj (Nat.not_lt_zero j), rfl, λ hj => absurd hj (Nat.lt_irrefl 0)⟩, λ x hx => ⟨λ hlt => ⟨⟨0, rfl, Nat.zero_le _, λ k hk => absurd hk (Nat.not_lt_zero k)⟩, λ j hj => ⟨λ q => ⟨by omega, by simp; omega⟩, λ q => ?_, λ q => ⟨λ q2 => ⟨(x.1, false), q2, λ _ _ => rfl, ?_, λ hf => by cases hf⟩, λ q2 => ?_⟩⟩⟩, λ hge => ⟨x, rfl, λ _ _ => rfl, ?_, λ _ => by omega⟩⟩⟩, λ x hx => ⟨λ q => ?_, λ q => ?_⟩⟩
  ·rw [Bool.eq_iff_iff]; simp; omega
  ·unfold idUp; rw [if_neg (by omega), if_neg (by omega)]
  ·rw [Bool.and_eq_true, decide_eq_true_eq] at q
   have hd := dig_at l x.1 hlt j (by omega)
   rw [hd] at q
   have hne : digV (l.getD x.1 0) ≠ j := by simpa using q.2
   refine ⟨j + 1, by rw [wrap64] <;> omega, ⟨by omega, λ k hk => ?_⟩, by omega⟩
   rcases Nat.lt_or_ge k j with h2 | h2
   ·exact hj.2 k h2
   ·rw [show k = j by omega]; exact hne
  ·rw [Bool.and_eq_false_iff, decide_eq_false_iff_not] at q2
   rcases q2 with q2 | q2
   ·rw [hx.2.2.1] at q2
    rw [idOk, q2]
    rfl
   ·refine (hno x.1 hlt ?_).symm
    rcases h16 x.1 with h2 | h2
    ·exact absurd rfl (hj.2 _ (by omega))
    ·exact h2
  ·rw [Bool.and_eq_true, decide_eq_true_eq] at q2
   have hj16 : j < 16 := by omega
   have hd := dig_at l x.1 hlt j hj16
   rw [decide_eq_true q2.2, Bool.true_and, hd] at q
   have hdj : digV (l.getD x.1 0) = j := by simpa using q
   have h64 : l.length = 64 := by have := hx.2.2.1; rw [q2.1] at this; simpa using this.symm
   have hdec := dig_dec l x.1 hlt (by omega)
   have hh := half ⟨x.1, by omega⟩
   dsimp only at hh
   rw [hh, Int.toNat_natCast]
   refine ⟨⟨by omega, by omega⟩, by omega, ⟨by omega, by omega⟩, by omega, (x.1 + 1, true), by rw [q2.1, decide_eq_true q2.2]; rfl, ⟨λ k _ => ?_, by rw [hdec]⟩, ⟨by dsimp only; omega, λ k hk => ?_, by rw [<- hx.2.2.1, q2.1], λ _ => h64⟩, by dsimp only; omega⟩
   ·exact idUp_step l x.1 hlt h64 hx.2.1 j hj16 hdj k
   ·dsimp only at hk
    rcases Nat.lt_or_ge k x.1 with h2 | h2
    ·exact hx.2.1 k h2
    ·rw [show k = x.1 by omega]; omega
  ·rw [hx.2.2.1, idOk]
   have : l.all (λ c => decide (digV c < 16)) = true := by
    rw [List.all_eq_true]
    intro c hc
    obtain ⟨i, hi, rfl⟩ := List.mem_iff_getElem.1 hc
    have := hx.2.1 i (by omega)
    rw [List.getD_eq_getElem?_getD, List.getElem?_eq_getElem hi] at this
    simpa using this
   rw [this, Bool.and_true]
  ·have e1 : idOk l = false := by rw [<- hx.1]; exact q
   rw [idE, idR, e1] at h
   rw [idE, idR, e1]
   exact ⟨(), ⟨λ _ _ => rfl, rfl⟩, h⟩
  ·have e1 : idOk l = true := by rw [<- hx.1]; exact q
   have h64 : l.length = 64 := by
    rw [idOk, Bool.and_eq_true] at e1
    simpa using e1.1
   rw [idE, idR, e1] at h
   rw [idE, idR, e1]
   refine ⟨(), ⟨λ i hi => ?_, rfl⟩, h⟩
   rw [hx.2 q, idUp, if_pos (by omega)]
   rfl
 ·exact h.elim
theorem idTk_succ (f : Idv) (n : Nat) : idTk f (n + 1) = idTk f n ++ [hexD ((f n).toNat / 16), hexD ((f n).toNat % 16)] := by
 simp [idTk, List.range_succ]
theorem idTk_len (f : Idv) (n : Nat) : (idTk f n).length = 2 * n := by
 induction n with
 | zero => rfl
 | succ n ih => rw [idTk_succ]; simp [ih]; omega
theorem hx1 : ∀ q : Fin 256, IntKind.u8.wrap (((q.val : Nat) : Int).tdiv 16) = ((q.val / 16 : Nat) : Int) /\ ((q.val : Nat) : Int).tmod 16 = ((q.val % 16 : Nat) : Int) := by decide +kernel
theorem XIdT : EntOk Tryz.prog 46 (.lend TIdT) := by
 refine ⟨Am.enters_of Tryz.func46 (by kernel_rfl) (by kernel_rfl), λ args R h => ?_⟩
 unfold TIdT at h
 split at h
 ·rename_i f
  obtain ⟨hf, h⟩ := h
  refine mkSo (vIdT f R (λ i => i <= 32)) (tb az) Tryz.func46 (by kernel_rfl) ?_
  have t2 : Int.ofNat (nat_lit 15 + 1) = 16 := rfl
  simp only [true_and, and_true, and_self, implies_true, forall_const, gEq_true, gEq_false, nonneg_iff, natle_iff, decide_eq_true_eq, decide_eq_false_iff_not, Int.toNat_natCast, cond_bt, cond_bf, Bool.cond_true, Bool.cond_false, Bool.not_true, Bool.not_false, reduceCtorEq, false_implies, implies_true, Bool.true_eq_false, Bool.false_eq_true, Bool.not_eq_true', Bool.not_eq_false', bs_size, bs_data, bs_toList, bs_extract, bs_append, bs_mk, byteF, t2]
  have hmx := maxLen_eq
  have k6 : ([48, 49, 50, 51, 52, 53, 54, 55, 56, 57, 97, 98, 99, 100, 101, 102] : Bs).length = 16 := rfl
  refine ⟨by omega, by omega, by omega, by omega, ⟨0, ⟨rfl, rfl⟩, ⟨Nat.le_refl _, λ i hi => absurd hi (Nat.not_lt_zero i)⟩, Nat.zero_le _⟩, λ x hx => ⟨λ hlt => ?_, λ hge => ?_⟩⟩
  ·obtain ⟨g0, g1⟩ := hf x (by omega)
   obtain ⟨q, hq⟩ := Int.eq_ofNat_of_zero_le g0
   have hx1 := hx1 ⟨q, by omega⟩
   dsimp only at hx1
   have d1 := digs ⟨q / 16, by omega⟩
   have d2 := digs ⟨q % 16, by omega⟩
   dsimp only at d1 d2
   rw [hq, hx1.1, hx1.2, k6, Int.toNat_natCast, Int.toNat_natCast, d1, d2]
   refine ⟨⟨by omega, by omega⟩, ⟨by omega, by omega⟩, ⟨by omega, by omega⟩, ⟨by omega, by omega⟩, ⟨by omega, by omega⟩, ⟨by omega, by omega, by omega⟩, x + 1, ⟨by omega, by rw [wrap64] <;> omega⟩, ⟨by omega, λ i hi => ?_⟩, by omega, by omega⟩
   rw [idTk_succ, getD_app, idTk_len, hq, Int.toNat_natCast]
   split
   ·rfl
   ·have : i - 2 * x = 0 ∨ i - 2 * x = 1 := by omega
    rcases this with e | e <;> (rw [e]; rfl)
  ·have : x = 32 := by omega
   subst this
   exact ⟨by omega, bs (idL f), by rw [bs_size]; exact idTk_len f 32, λ i _ => by rw [Nat.zero_add, bs_data]; rfl, h⟩
 ·exact h.elim
end Go.Proofs.Sz
