/- A seat of the scripts: condition of the reader of events. -/
import Derived.Test.YtbjhikadmmolfaaDoorSB
set_option linter.unusedSectionVars false
set_option linter.unusedVariables false
set_option linter.unusedSimpArgs false
set_option maxRecDepth 100000
set_option maxHeartbeats 4000000
namespace Go.Proofs.Sd
open Go Go.Am Go.SP
theorem vREvent (l w : Bs) (b : Bool) (s1 : Rd -> Bs) (inv2 inv3 inv7 : Ev × Rd -> Prop) (inv11 : Ev × Rd -> Nat × Bool -> Prop) (inv18 : Ev × Rd -> List Int × Rd -> Prop) (inv21 : Ev × Rd -> List (Bs × Bs) × Rd -> Prop) (inv25 : Ev × Rd -> List (Bs × Bool × Bs) × Rd -> Prop) (inv32 : Ev × Rd -> Ev × Rd -> Prop) (R : AV -> List LObj -> Prop) :
  (vcA false false (List.length ([.box tyRd [sl l, bl b]] : List LObj)) [0, 1, 2] Tryd.prog (mkTab [(39, .lend TWords), (45, .lend TIdxT), (40, .hand tkR TFields), (30, .hand tkN TNumbers), (41, .lend TStamped), (44, .hand tkR TNumber), (46, .hand tkR TText), (29, .hand tkR TBlank), (47, .lend TCutPre), (48, .hand tkR TMore), (49, .hand tkR TChange), (50, .lend TIdP), (38, .lend TWrong)]) (optC (Tryd.f31.body.getD .skip)) ([.cut 2 (Ev × Rd) inv2 (fun x => ⟨slotsOf 176 0 [(0, .ptr 0 0 0 0), (4, .ptr 1 0 0 0)], [rdO x.2, .box tyEv (cellsQ x.1 nilS nilS nilS nilS)]⟩) (fun _ => [.cut 3 (Ev × Rd) inv3 (fun x => ⟨slotsOf 176 0 [(0, .ptr 0 0 0 0), (4, .ptr 1 0 0 0)], [rdO x.2, .box tyEv (cellsQ x.1 nilS nilS nilS nilS)]⟩) (fun _ => [.cut 7 (Ev × Rd) inv7 (fun x => ⟨slotsOf 176 0 [(0, .ptr 0 0 0 0), (4, .ptr 1 0 0 0)], [rdO x.2, .box tyEv (cellsQ x.1 nilS nilS nilS nilS)]⟩) (fun x => [
   .cut 32 (Ev × Rd) (inv32 x) (fun y => ⟨slotsOf 176 0 [(0, .ptr 0 0 0 0), (4, .ptr 1 0 0 0)], [rdO y.2, .box tyEv (cellsQ y.1 (.own 2 0 y.1.keep.length) (.own 3 0 y.1.conf.length) (.own 4 0 y.1.map.length) (.own 5 0 y.1.edit.length)), .row 1 tyBool y.1.keep.length (boolF y.1.keep), .row 1 tyInt y.1.conf.length (intF y.1.conf), .row 2 tyRow y.1.map.length (rowF y.1.map), .row 3 tyChg y.1.edit.length (chgF y.1.edit)]⟩) (fun _ => []),
   .loop 11 (Nat × Bool) (inv11 x) (fun i => ⟨slotsOf 176 0 [(0, .ptr 0 0 0 0), (4, .ptr 1 0 0 0), (7, bl i.2), (61, .rows 1 (s1 x.2).length (byteF (bs (s1 x.2)))), (62, nm (s1 x.2).length), (63, nm i.1)], [rdO (blankR x.2).2, .box tyEv (cellsQ x.1 (.own 2 0 i.1) nilS nilS nilS), .row 1 tyBool i.1 (boolF ((s1 x.2).map (· == 49)))]⟩) (fun i => (s1 x.2).length - i.1) (fun _ => []),
   .loop 18 (List Int × Rd) (inv18 x) (fun y => ⟨slotsOf 176 0 [(0, .ptr 0 0 0 0), (4, .ptr 1 0 0 0)], [rdO y.2, .box tyEv (cellsQ x.1 nilS (.own 2 0 y.1.length) nilS nilS), .row 1 tyInt y.1.length (intF y.1)]⟩) (fun y => y.2.rest.length) (fun _ => []),
   .loop 21 (List (Bs × Bs) × Rd) (inv21 x) (fun y => ⟨slotsOf 176 0 [(0, .ptr 0 0 0 0), (4, .ptr 1 0 0 0)], [rdO y.2, .box tyEv (cellsQ x.1 nilS nilS (.own 2 0 y.1.length) nilS), .row 2 tyRow y.1.length (rowF y.1)]⟩) (fun y => y.2.rest.length) (fun _ => []),
   .loop 25 (List (Bs × Bool × Bs) × Rd) (inv25 x) (fun y => ⟨slotsOf 176 0 [(0, .ptr 0 0 0 0), (4, .ptr 1 0 0 0)], [rdO y.2, .box tyEv (cellsQ x.1 nilS nilS nilS (.own 2 0 y.1.length)), .row 3 tyChg y.1.length (chgF y.1)]⟩) (fun y => y.2.rest.length) (fun _ => [])])])])]) (finalKS Tryd.prog Tryd.f31 (List.length ([.box tyRd [sl l, bl b]] : List LObj)) (fun y H => ∃ _ : Unit, leSt 1 ⟨[y], H⟩ ⟨[(eventR w ⟨l, b⟩).1.av], [rdO (eventR w ⟨l, b⟩).2]⟩ (R (eventR w ⟨l, b⟩).1.av [rdO (eventR w ⟨l, b⟩).2]))) (startStH Tryd.f31 ([.box tyRd [sl l, bl b]]) ([.ptr 0 0 0 0, sl w]))) = (
 True /\ ((((0 : Nat) + (16 : Nat)).le (16 : Nat) /\ True /\ True) /\ ∃ (ls : List Bs), (IsTexts (AV.rows 1 16 fun (i : Nat) => sl (wordsL.getD ((0 : Nat) + i) []))
 ls /\ ls.length.le (1000 : Nat)) /\ True /\ True /\ True /\ ∃ (x : Ev × Rd), ((True /\ 0 = 0 /\ 0 = 0 /\ 0 = 0) /\ (True /\ 0 = 0 /\ 0 = 0 /\ 0 = 0) /\ True) /\ ((94 = 94 /\ bs
 l = bs x.snd.rest /\ b = x.snd.bad /\ True) /\ (64 = 64 /\ (if (0 : Int) > idxT w ls then (0 : Int) else idxT w ls) = x.fst.kind /\ (0 : Int) = x.fst.node /\ (0 : Int)
 = x.fst.to /\ (0 : Int) = x.fst.n /\ Value.slice none (0 : Nat) (0 : Nat) = Value.slice none (0 : Nat) (0 : Nat) /\ Value.slice none (0 : Nat) (0 : Nat) =
 Value.slice none (0 : Nat) (0 : Nat) /\ ByteArray.mk #[] = bs x.fst.branch /\ Value.slice none (0 : Nat) (0 : Nat) = Value.slice none (0 : Nat) (0 : Nat) /\
 Value.slice none (0 : Nat) (0 : Nat) = Value.slice none (0 : Nat) (0 : Nat) /\ (0 : Int) = x.fst.author /\ ByteArray.mk #[] = bs x.fst.note /\ (0 : Int) = x.fst.ck
 /\ (0 : Int) = x.fst.client /\ (0 : Int) = x.fst.seq /\ ByteArray.mk #[] = bs x.fst.cbranch /\ (IntKind.u8 = IntKind.u8 /\ 32 = 32 /\ ∀ (i : Nat), i < (32 : Nat) -> (0
 : Int) = x.fst.old i) /\ (IntKind.u8 = IntKind.u8 /\ 32 = 32 /\ ∀ (i : Nat), i < (32 : Nat) -> (0 : Int) = x.fst.new i) /\ Value.slice none (0 : Nat) (0 : Nat) =
 Value.slice none (0 : Nat) (0 : Nat) /\ True) /\ True) /\ inv2 x) /\ ∀ (x : Ev × Rd), inv2 x -> ((True /\ True) /\ 64 = 64 /\ (clsK x.fst.kind = (1 : Nat) -> (True /\ True
 /\ True) /\ ∃ (e : Ev), (94 = 94 /\ (List.length x.snd.rest).le rlim /\ 64 = 64 /\ 96 = 96 /\ IsZ [nm x.fst.kind, nm x.fst.node, nm x.fst.to, nm x.fst.n, nilS, nilS,
 sl x.fst.branch, nilS, nilS, AV.pl (Value.int IntKind.u32 x.fst.author), sl x.fst.note, nm x.fst.ck, nm x.fst.client, AV.pl (Value.int IntKind.u32 x.fst.seq), sl
 x.fst.cbranch, AV.iarr IntKind.u8 32 x.fst.old, AV.iarr IntKind.u8 32 x.fst.new, nilS] e /\ IsPtrs [AV.ptr 1 0 1 0, AV.ptr 1 0 3 0] (2 : Nat) e.kind) /\ ∃ (x_1 :
 Ev × Rd), ((True /\ 0 = 0 /\ 0 = 0 /\ 0 = 0) /\ (True /\ 0 = 0 /\ 0 = 0 /\ 0 = 0) /\ True) /\ ((94 = 94 /\ bs (numbersR (fieldsN e.kind) x.snd).snd.rest = bs x_1.snd.rest
 /\ (numbersR (fieldsN e.kind) x.snd).snd.bad = x_1.snd.bad /\ True) /\ (64 = 64 /\ (e.setF (numbersR (fieldsN e.kind) x.snd).fst).kind = x_1.fst.kind /\ (e.setF
 (numbersR (fieldsN e.kind) x.snd).fst).node = x_1.fst.node /\ (e.setF (numbersR (fieldsN e.kind) x.snd).fst).to = x_1.fst.to /\ (e.setF (numbersR (fieldsN e.kind)
 x.snd).fst).n = x_1.fst.n /\ Value.slice none (0 : Nat) (0 : Nat) = Value.slice none (0 : Nat) (0 : Nat) /\ Value.slice none (0 : Nat) (0 : Nat) = Value.slice none
 (0 : Nat) (0 : Nat) /\ bs (e.setF (numbersR (fieldsN e.kind) x.snd).fst).branch = bs x_1.fst.branch /\ Value.slice none (0 : Nat) (0 : Nat) = Value.slice none (0 :
 Nat) (0 : Nat) /\ Value.slice none (0 : Nat) (0 : Nat) = Value.slice none (0 : Nat) (0 : Nat) /\ (e.setF (numbersR (fieldsN e.kind) x.snd).fst).author =
 x_1.fst.author /\ bs (e.setF (numbersR (fieldsN e.kind) x.snd).fst).note = bs x_1.fst.note /\ (e.setF (numbersR (fieldsN e.kind) x.snd).fst).ck = x_1.fst.ck /\
 (e.setF (numbersR (fieldsN e.kind) x.snd).fst).client = x_1.fst.client /\ (e.setF (numbersR (fieldsN e.kind) x.snd).fst).seq = x_1.fst.seq /\ bs (e.setF (numbersR
 (fieldsN e.kind) x.snd).fst).cbranch = bs x_1.fst.cbranch /\ (IntKind.u8 = IntKind.u8 /\ 32 = 32 /\ ∀ (i : Nat), i < (32 : Nat) -> (e.setF (numbersR (fieldsN e.kind)
 x.snd).fst).old i = x_1.fst.old i) /\ (IntKind.u8 = IntKind.u8 /\ 32 = 32 /\ ∀ (i : Nat), i < (32 : Nat) -> (e.setF (numbersR (fieldsN e.kind) x.snd).fst).new i =
 x_1.fst.new i) /\ Value.slice none (0 : Nat) (0 : Nat) = Value.slice none (0 : Nat) (0 : Nat) /\ True) /\ True) /\ inv3 x_1) /\ (clsK x.fst.kind = (2 : Nat) -> (True /\
 True /\ True) /\ ∃ (e : Ev), (94 = 94 /\ (List.length x.snd.rest).le rlim /\ 64 = 64 /\ 96 = 96 /\ IsZ [nm x.fst.kind, nm x.fst.node, nm x.fst.to, nm x.fst.n, nilS,
 nilS, sl x.fst.branch, nilS, nilS, AV.pl (Value.int IntKind.u32 x.fst.author), sl x.fst.note, nm x.fst.ck, nm x.fst.client, AV.pl (Value.int IntKind.u32
 x.fst.seq), sl x.fst.cbranch, AV.iarr IntKind.u8 32 x.fst.old, AV.iarr IntKind.u8 32 x.fst.new, nilS] e /\ IsPtrs [AV.ptr 1 0 3 0] (1 : Nat) e.kind) /\ ∃ (x_1 : Ev
 × Rd), ((True /\ 0 = 0 /\ 0 = 0 /\ 0 = 0) /\ (True /\ 0 = 0 /\ 0 = 0 /\ 0 = 0) /\ True) /\ ((94 = 94 /\ bs (numbersR (fieldsN e.kind) x.snd).snd.rest = bs x_1.snd.rest /\
 (numbersR (fieldsN e.kind) x.snd).snd.bad = x_1.snd.bad /\ True) /\ (64 = 64 /\ (e.setF (numbersR (fieldsN e.kind) x.snd).fst).kind = x_1.fst.kind /\ (e.setF
 (numbersR (fieldsN e.kind) x.snd).fst).node = x_1.fst.node /\ (e.setF (numbersR (fieldsN e.kind) x.snd).fst).to = x_1.fst.to /\ (e.setF (numbersR (fieldsN e.kind)
 x.snd).fst).n = x_1.fst.n /\ Value.slice none (0 : Nat) (0 : Nat) = Value.slice none (0 : Nat) (0 : Nat) /\ Value.slice none (0 : Nat) (0 : Nat) = Value.slice none
 (0 : Nat) (0 : Nat) /\ bs (e.setF (numbersR (fieldsN e.kind) x.snd).fst).branch = bs x_1.fst.branch /\ Value.slice none (0 : Nat) (0 : Nat) = Value.slice none (0 :
 Nat) (0 : Nat) /\ Value.slice none (0 : Nat) (0 : Nat) = Value.slice none (0 : Nat) (0 : Nat) /\ (e.setF (numbersR (fieldsN e.kind) x.snd).fst).author =
 x_1.fst.author /\ bs (e.setF (numbersR (fieldsN e.kind) x.snd).fst).note = bs x_1.fst.note /\ (e.setF (numbersR (fieldsN e.kind) x.snd).fst).ck = x_1.fst.ck /\
 (e.setF (numbersR (fieldsN e.kind) x.snd).fst).client = x_1.fst.client /\ (e.setF (numbersR (fieldsN e.kind) x.snd).fst).seq = x_1.fst.seq /\ bs (e.setF (numbersR
 (fieldsN e.kind) x.snd).fst).cbranch = bs x_1.fst.cbranch /\ (IntKind.u8 = IntKind.u8 /\ 32 = 32 /\ ∀ (i : Nat), i < (32 : Nat) -> (e.setF (numbersR (fieldsN e.kind)
 x.snd).fst).old i = x_1.fst.old i) /\ (IntKind.u8 = IntKind.u8 /\ 32 = 32 /\ ∀ (i : Nat), i < (32 : Nat) -> (e.setF (numbersR (fieldsN e.kind) x.snd).fst).new i =
 x_1.fst.new i) /\ Value.slice none (0 : Nat) (0 : Nat) = Value.slice none (0 : Nat) (0 : Nat) /\ True) /\ True) /\ inv3 x_1) /\ (clsK x.fst.kind = (3 : Nat) -> (True /\
 True /\ True) /\ ∃ (e : Ev), (94 = 94 /\ (List.length x.snd.rest).le rlim /\ 64 = 64 /\ 96 = 96 /\ IsZ [nm x.fst.kind, nm x.fst.node, nm x.fst.to, nm x.fst.n, nilS,
 nilS, sl x.fst.branch, nilS, nilS, AV.pl (Value.int IntKind.u32 x.fst.author), sl x.fst.note, nm x.fst.ck, nm x.fst.client, AV.pl (Value.int IntKind.u32
 x.fst.seq), sl x.fst.cbranch, AV.iarr IntKind.u8 32 x.fst.old, AV.iarr IntKind.u8 32 x.fst.new, nilS] e /\ IsPtrs [AV.ptr 1 0 1 0, AV.ptr 1 0 2 0] (2 : Nat)
 e.kind) /\ ∃ (x_1 : Ev × Rd), ((True /\ 0 = 0 /\ 0 = 0 /\ 0 = 0) /\ (True /\ 0 = 0 /\ 0 = 0 /\ 0 = 0) /\ True) /\ ((94 = 94 /\ bs (numbersR (fieldsN e.kind) x.snd).snd.rest
 = bs x_1.snd.rest /\ (numbersR (fieldsN e.kind) x.snd).snd.bad = x_1.snd.bad /\ True) /\ (64 = 64 /\ (e.setF (numbersR (fieldsN e.kind) x.snd).fst).kind =
 x_1.fst.kind /\ (e.setF (numbersR (fieldsN e.kind) x.snd).fst).node = x_1.fst.node /\ (e.setF (numbersR (fieldsN e.kind) x.snd).fst).to = x_1.fst.to /\ (e.setF
 (numbersR (fieldsN e.kind) x.snd).fst).n = x_1.fst.n /\ Value.slice none (0 : Nat) (0 : Nat) = Value.slice none (0 : Nat) (0 : Nat) /\ Value.slice none (0 : Nat)
 (0 : Nat) = Value.slice none (0 : Nat) (0 : Nat) /\ bs (e.setF (numbersR (fieldsN e.kind) x.snd).fst).branch = bs x_1.fst.branch /\ Value.slice none (0 : Nat) (0 :
 Nat) = Value.slice none (0 : Nat) (0 : Nat) /\ Value.slice none (0 : Nat) (0 : Nat) = Value.slice none (0 : Nat) (0 : Nat) /\ (e.setF (numbersR (fieldsN e.kind)
 x.snd).fst).author = x_1.fst.author /\ bs (e.setF (numbersR (fieldsN e.kind) x.snd).fst).note = bs x_1.fst.note /\ (e.setF (numbersR (fieldsN e.kind)
 x.snd).fst).ck = x_1.fst.ck /\ (e.setF (numbersR (fieldsN e.kind) x.snd).fst).client = x_1.fst.client /\ (e.setF (numbersR (fieldsN e.kind) x.snd).fst).seq =
 x_1.fst.seq /\ bs (e.setF (numbersR (fieldsN e.kind) x.snd).fst).cbranch = bs x_1.fst.cbranch /\ (IntKind.u8 = IntKind.u8 /\ 32 = 32 /\ ∀ (i : Nat), i < (32 : Nat) ->
 (e.setF (numbersR (fieldsN e.kind) x.snd).fst).old i = x_1.fst.old i) /\ (IntKind.u8 = IntKind.u8 /\ 32 = 32 /\ ∀ (i : Nat), i < (32 : Nat) -> (e.setF (numbersR
 (fieldsN e.kind) x.snd).fst).new i = x_1.fst.new i) /\ Value.slice none (0 : Nat) (0 : Nat) = Value.slice none (0 : Nat) (0 : Nat) /\ True) /\ True) /\ inv3 x_1) /\
 (clsK x.fst.kind = (4 : Nat) -> (True /\ True /\ True) /\ ∃ (e : Ev), (94 = 94 /\ (List.length x.snd.rest).le rlim /\ 64 = 64 /\ 96 = 96 /\ IsZ [nm x.fst.kind, nm
 x.fst.node, nm x.fst.to, nm x.fst.n, nilS, nilS, sl x.fst.branch, nilS, nilS, AV.pl (Value.int IntKind.u32 x.fst.author), sl x.fst.note, nm x.fst.ck, nm
 x.fst.client, AV.pl (Value.int IntKind.u32 x.fst.seq), sl x.fst.cbranch, AV.iarr IntKind.u8 32 x.fst.old, AV.iarr IntKind.u8 32 x.fst.new, nilS] e /\ IsPtrs
 [AV.ptr 1 0 1 0] (1 : Nat) e.kind) /\ ∃ (x_1 : Ev × Rd), ((True /\ 0 = 0 /\ 0 = 0 /\ 0 = 0) /\ (True /\ 0 = 0 /\ 0 = 0 /\ 0 = 0) /\ True) /\ ((94 = 94 /\ bs (numbersR
 (fieldsN e.kind) x.snd).snd.rest = bs x_1.snd.rest /\ (numbersR (fieldsN e.kind) x.snd).snd.bad = x_1.snd.bad /\ True) /\ (64 = 64 /\ (e.setF (numbersR (fieldsN
 e.kind) x.snd).fst).kind = x_1.fst.kind /\ (e.setF (numbersR (fieldsN e.kind) x.snd).fst).node = x_1.fst.node /\ (e.setF (numbersR (fieldsN e.kind) x.snd).fst).to
 = x_1.fst.to /\ (e.setF (numbersR (fieldsN e.kind) x.snd).fst).n = x_1.fst.n /\ Value.slice none (0 : Nat) (0 : Nat) = Value.slice none (0 : Nat) (0 : Nat) /\
 Value.slice none (0 : Nat) (0 : Nat) = Value.slice none (0 : Nat) (0 : Nat) /\ bs (e.setF (numbersR (fieldsN e.kind) x.snd).fst).branch = bs x_1.fst.branch /\
 Value.slice none (0 : Nat) (0 : Nat) = Value.slice none (0 : Nat) (0 : Nat) /\ Value.slice none (0 : Nat) (0 : Nat) = Value.slice none (0 : Nat) (0 : Nat) /\
 (e.setF (numbersR (fieldsN e.kind) x.snd).fst).author = x_1.fst.author /\ bs (e.setF (numbersR (fieldsN e.kind) x.snd).fst).note = bs x_1.fst.note /\ (e.setF
 (numbersR (fieldsN e.kind) x.snd).fst).ck = x_1.fst.ck /\ (e.setF (numbersR (fieldsN e.kind) x.snd).fst).client = x_1.fst.client /\ (e.setF (numbersR (fieldsN
 e.kind) x.snd).fst).seq = x_1.fst.seq /\ bs (e.setF (numbersR (fieldsN e.kind) x.snd).fst).cbranch = bs x_1.fst.cbranch /\ (IntKind.u8 = IntKind.u8 /\ 32 = 32 /\ ∀
 (i : Nat), i < (32 : Nat) -> (e.setF (numbersR (fieldsN e.kind) x.snd).fst).old i = x_1.fst.old i) /\ (IntKind.u8 = IntKind.u8 /\ 32 = 32 /\ ∀ (i : Nat), i < (32 :
 Nat) -> (e.setF (numbersR (fieldsN e.kind) x.snd).fst).new i = x_1.fst.new i) /\ Value.slice none (0 : Nat) (0 : Nat) = Value.slice none (0 : Nat) (0 : Nat) /\
 True) /\ True) /\ inv3 x_1) /\ (clsK x.fst.kind = (5 : Nat) -> (True /\ True /\ True) /\ ∃ (e : Ev), (94 = 94 /\ (List.length x.snd.rest).le rlim /\ 64 = 64 /\ 96 = 96 /\
 IsZ [nm x.fst.kind, nm x.fst.node, nm x.fst.to, nm x.fst.n, nilS, nilS, sl x.fst.branch, nilS, nilS, AV.pl (Value.int IntKind.u32 x.fst.author), sl x.fst.note,
 nm x.fst.ck, nm x.fst.client, AV.pl (Value.int IntKind.u32 x.fst.seq), sl x.fst.cbranch, AV.iarr IntKind.u8 32 x.fst.old, AV.iarr IntKind.u8 32 x.fst.new, nilS]
 e /\ IsPtrs [AV.ptr 1 0 1 0, AV.ptr 1 0 11 0] (2 : Nat) e.kind) /\ ∃ (x_1 : Ev × Rd), ((True /\ 0 = 0 /\ 0 = 0 /\ 0 = 0) /\ (True /\ 0 = 0 /\ 0 = 0 /\ 0 = 0) /\ True) /\
 ((94 = 94 /\ bs (numbersR (fieldsN e.kind) x.snd).snd.rest = bs x_1.snd.rest /\ (numbersR (fieldsN e.kind) x.snd).snd.bad = x_1.snd.bad /\ True) /\ (64 = 64 /\
 (e.setF (numbersR (fieldsN e.kind) x.snd).fst).kind = x_1.fst.kind /\ (e.setF (numbersR (fieldsN e.kind) x.snd).fst).node = x_1.fst.node /\ (e.setF (numbersR
 (fieldsN e.kind) x.snd).fst).to = x_1.fst.to /\ (e.setF (numbersR (fieldsN e.kind) x.snd).fst).n = x_1.fst.n /\ Value.slice none (0 : Nat) (0 : Nat) = Value.slice
 none (0 : Nat) (0 : Nat) /\ Value.slice none (0 : Nat) (0 : Nat) = Value.slice none (0 : Nat) (0 : Nat) /\ bs (e.setF (numbersR (fieldsN e.kind) x.snd).fst).branch
 = bs x_1.fst.branch /\ Value.slice none (0 : Nat) (0 : Nat) = Value.slice none (0 : Nat) (0 : Nat) /\ Value.slice none (0 : Nat) (0 : Nat) = Value.slice none (0 :
 Nat) (0 : Nat) /\ (e.setF (numbersR (fieldsN e.kind) x.snd).fst).author = x_1.fst.author /\ bs (e.setF (numbersR (fieldsN e.kind) x.snd).fst).note = bs
 x_1.fst.note /\ (e.setF (numbersR (fieldsN e.kind) x.snd).fst).ck = x_1.fst.ck /\ (e.setF (numbersR (fieldsN e.kind) x.snd).fst).client = x_1.fst.client /\ (e.setF
 (numbersR (fieldsN e.kind) x.snd).fst).seq = x_1.fst.seq /\ bs (e.setF (numbersR (fieldsN e.kind) x.snd).fst).cbranch = bs x_1.fst.cbranch /\ (IntKind.u8 =
 IntKind.u8 /\ 32 = 32 /\ ∀ (i : Nat), i < (32 : Nat) -> (e.setF (numbersR (fieldsN e.kind) x.snd).fst).old i = x_1.fst.old i) /\ (IntKind.u8 = IntKind.u8 /\ 32 = 32 /\
 ∀ (i : Nat), i < (32 : Nat) -> (e.setF (numbersR (fieldsN e.kind) x.snd).fst).new i = x_1.fst.new i) /\ Value.slice none (0 : Nat) (0 : Nat) = Value.slice none (0
 : Nat) (0 : Nat) /\ True) /\ True) /\ inv3 x_1) /\ (clsK x.fst.kind = (0 : Nat) -> (True /\ True /\ True) /\ 94 = 94 /\ ∃ (x_1 : Ev × Rd), ((True /\ 0 = 0 /\ 0 = 0 /\ 0 = 0)
 /\ (True /\ 0 = 0 /\ 0 = 0 /\ 0 = 0) /\ True) /\ ((94 = 94 /\ bs x.snd.rest = bs x_1.snd.rest /\ x.snd.bad = x_1.snd.bad /\ True) /\ (64 = 64 /\ x.fst.kind = x_1.fst.kind /\
 x.fst.node = x_1.fst.node /\ x.fst.to = x_1.fst.to /\ x.fst.n = x_1.fst.n /\ Value.slice none (0 : Nat) (0 : Nat) = Value.slice none (0 : Nat) (0 : Nat) /\
 Value.slice none (0 : Nat) (0 : Nat) = Value.slice none (0 : Nat) (0 : Nat) /\ bs x.fst.branch = bs x_1.fst.branch /\ Value.slice none (0 : Nat) (0 : Nat) =
 Value.slice none (0 : Nat) (0 : Nat) /\ Value.slice none (0 : Nat) (0 : Nat) = Value.slice none (0 : Nat) (0 : Nat) /\ x.fst.author = x_1.fst.author /\ bs
 x.fst.note = bs x_1.fst.note /\ x.fst.ck = x_1.fst.ck /\ x.fst.client = x_1.fst.client /\ x.fst.seq = x_1.fst.seq /\ bs x.fst.cbranch = bs x_1.fst.cbranch /\
 (IntKind.u8 = IntKind.u8 /\ 32 = 32 /\ ∀ (i : Nat), i < (32 : Nat) -> x.fst.old i = x_1.fst.old i) /\ (IntKind.u8 = IntKind.u8 /\ 32 = 32 /\ ∀ (i : Nat), i < (32 :
 Nat) -> x.fst.new i = x_1.fst.new i) /\ Value.slice none (0 : Nat) (0 : Nat) = Value.slice none (0 : Nat) (0 : Nat) /\ True) /\ True) /\ inv3 x_1)) /\ ∀ (x : Ev × Rd),
 inv3 x -> ((stampedK x.fst.kind = true -> (True /\ True) /\ (94 = 94 /\ (List.length x.snd.rest).le rlim) /\ True /\ (True /\ True) /\ (94 = 94 /\ (List.length (numberR
 x.snd).snd.rest).le rlim) /\ (True /\ True) /\ (94 = 94 /\ (List.length (textR (Rd.mk (numberR x.snd).snd.rest (bif bif (numberR x.snd).snd.bad then true else decide
 ((numberR x.snd).fst < (0 : Int)) then true else decide ((numberR x.snd).fst > (4294967295 : Int))))).snd.rest).le rlim) /\ True /\ True /\ True /\ ∃ (x_1 : Ev ×
 Rd), ((True /\ 0 = 0 /\ 0 = 0 /\ 0 = 0) /\ (True /\ 0 = 0 /\ 0 = 0 /\ 0 = 0) /\ True) /\ ((94 = 94 /\ bs (textR (textR (Rd.mk (numberR x.snd).snd.rest (bif bif (numberR
 x.snd).snd.bad then true else decide ((numberR x.snd).fst < (0 : Int)) then true else decide ((numberR x.snd).fst > (4294967295 : Int))))).snd).snd.rest = bs
 x_1.snd.rest /\ (textR (textR (Rd.mk (numberR x.snd).snd.rest (bif bif (numberR x.snd).snd.bad then true else decide ((numberR x.snd).fst < (0 : Int)) then true
 else decide ((numberR x.snd).fst > (4294967295 : Int))))).snd).snd.bad = x_1.snd.bad /\ True) /\ (64 = 64 /\ x.fst.kind = x_1.fst.kind /\ x.fst.node = x_1.fst.node /\
 x.fst.to = x_1.fst.to /\ x.fst.n = x_1.fst.n /\ Value.slice none (0 : Nat) (0 : Nat) = Value.slice none (0 : Nat) (0 : Nat) /\ Value.slice none (0 : Nat) (0 : Nat)
 = Value.slice none (0 : Nat) (0 : Nat) /\ bs (textR (Rd.mk (numberR x.snd).snd.rest (bif bif (numberR x.snd).snd.bad then true else decide ((numberR x.snd).fst <
 (0 : Int)) then true else decide ((numberR x.snd).fst > (4294967295 : Int))))).fst = bs x_1.fst.branch /\ Value.slice none (0 : Nat) (0 : Nat) = Value.slice none
 (0 : Nat) (0 : Nat) /\ Value.slice none (0 : Nat) (0 : Nat) = Value.slice none (0 : Nat) (0 : Nat) /\ IntKind.u32.wrap (numberR x.snd).fst = x_1.fst.author /\ bs
 (textR (textR (Rd.mk (numberR x.snd).snd.rest (bif bif (numberR x.snd).snd.bad then true else decide ((numberR x.snd).fst < (0 : Int)) then true else decide
 ((numberR x.snd).fst > (4294967295 : Int))))).snd).fst = bs x_1.fst.note /\ x.fst.ck = x_1.fst.ck /\ x.fst.client = x_1.fst.client /\ x.fst.seq = x_1.fst.seq /\ bs
 x.fst.cbranch = bs x_1.fst.cbranch /\ (IntKind.u8 = IntKind.u8 /\ 32 = 32 /\ ∀ (i : Nat), i < (32 : Nat) -> x.fst.old i = x_1.fst.old i) /\ (IntKind.u8 = IntKind.u8 /\
 32 = 32 /\ ∀ (i : Nat), i < (32 : Nat) -> x.fst.new i = x_1.fst.new i) /\ Value.slice none (0 : Nat) (0 : Nat) = Value.slice none (0 : Nat) (0 : Nat) /\ True) /\
 True) /\ inv7 x_1) /\ (stampedK x.fst.kind = false -> ∃ (x_1 : Ev × Rd), ((True /\ 0 = 0 /\ 0 = 0 /\ 0 = 0) /\ (True /\ 0 = 0 /\ 0 = 0 /\ 0 = 0) /\ True) /\ ((94 = 94 /\ bs
 x.snd.rest = bs x_1.snd.rest /\ x.snd.bad = x_1.snd.bad /\ True) /\ (64 = 64 /\ x.fst.kind = x_1.fst.kind /\ x.fst.node = x_1.fst.node /\ x.fst.to = x_1.fst.to /\
 x.fst.n = x_1.fst.n /\ Value.slice none (0 : Nat) (0 : Nat) = Value.slice none (0 : Nat) (0 : Nat) /\ Value.slice none (0 : Nat) (0 : Nat) = Value.slice none (0 :
 Nat) (0 : Nat) /\ bs x.fst.branch = bs x_1.fst.branch /\ Value.slice none (0 : Nat) (0 : Nat) = Value.slice none (0 : Nat) (0 : Nat) /\ Value.slice none (0 : Nat)
 (0 : Nat) = Value.slice none (0 : Nat) (0 : Nat) /\ x.fst.author = x_1.fst.author /\ bs x.fst.note = bs x_1.fst.note /\ x.fst.ck = x_1.fst.ck /\ x.fst.client =
 x_1.fst.client /\ x.fst.seq = x_1.fst.seq /\ bs x.fst.cbranch = bs x_1.fst.cbranch /\ (IntKind.u8 = IntKind.u8 /\ 32 = 32 /\ ∀ (i : Nat), i < (32 : Nat) -> x.fst.old i
 = x_1.fst.old i) /\ (IntKind.u8 = IntKind.u8 /\ 32 = 32 /\ ∀ (i : Nat), i < (32 : Nat) -> x.fst.new i = x_1.fst.new i) /\ Value.slice none (0 : Nat) (0 : Nat) =
 Value.slice none (0 : Nat) (0 : Nat) /\ True) /\ True) /\ inv7 x_1)) /\ ∀ (x : Ev × Rd), inv7 x -> (((x.fst.kind == (8 : Int)) = true -> (True /\ True) /\ (94 = 94 /\
 (List.length x.snd.rest).le rlim) /\ (List.length (cutPre ([61] : Bs) (blankR x.snd).fst)).le maxLen /\ (∃ (x_1 : Nat × Bool), ((True /\ 0 = 0 /\ 0 = 0 /\ 0 = 0) /\
 (True /\ 0 = 0 /\ 0 = 0 /\ 0 = 0) /\ ([61] : Bs).isPrefixOf (blankR x.snd).fst = x_1.snd /\ (1 = 1 /\ (List.length (cutPre ([61] : Bs) (blankR x.snd).fst)) =
 List.length (s1 x.snd) /\ ∀ (i : Nat), i < (List.length (cutPre ([61] : Bs) (blankR x.snd).fst)) -> AV.pl (Value.int IntKind.u8 (↑ ((cutPre ([61] : Bs) (blankR
 x.snd).fst).getD i (0 : UInt8)).toNat : Int)) = AV.pl (Value.int IntKind.u8 (↑ ((s1 x.snd).getD i (0 : UInt8)).toNat : Int))) /\ (↑ (List.length (cutPre ([61] :
 Bs) (blankR x.snd).fst)) : Int) = (↑ (List.length (s1 x.snd)) : Int) /\ (0 : Int) = (↑x_1.fst : Int) /\ True) /\ ((94 = 94 /\ bs (blankR x.snd).snd.rest = bs (blankR
 x.snd).snd.rest /\ (blankR x.snd).snd.bad = (blankR x.snd).snd.bad /\ True) /\ (64 = 64 /\ x.fst.kind = x.fst.kind /\ x.fst.node = x.fst.node /\ x.fst.to = x.fst.to /\
 x.fst.n = x.fst.n /\ (True /\ True /\ 0 = 0 /\ x_1.fst = (0 : Nat)) /\ Value.slice none (0 : Nat) (0 : Nat) = Value.slice none (0 : Nat) (0 : Nat) /\ bs x.fst.branch =
 bs x.fst.branch /\ Value.slice none (0 : Nat) (0 : Nat) = Value.slice none (0 : Nat) (0 : Nat) /\ Value.slice none (0 : Nat) (0 : Nat) = Value.slice none (0 : Nat)
 (0 : Nat) /\ x.fst.author = x.fst.author /\ bs x.fst.note = bs x.fst.note /\ x.fst.ck = x.fst.ck /\ x.fst.client = x.fst.client /\ x.fst.seq = x.fst.seq /\ bs
 x.fst.cbranch = bs x.fst.cbranch /\ (IntKind.u8 = IntKind.u8 /\ 32 = 32 /\ ∀ (i : Nat), i < (32 : Nat) -> x.fst.old i = x.fst.old i) /\ (IntKind.u8 = IntKind.u8 /\ 32
 = 32 /\ ∀ (i : Nat), i < (32 : Nat) -> x.fst.new i = x.fst.new i) /\ Value.slice none (0 : Nat) (0 : Nat) = Value.slice none (0 : Nat) (0 : Nat) /\ True) /\ x_1.fst =
 (0 : Nat) /\ True) /\ inv11 x x_1) /\ ∀ (x_1 : Nat × Bool), inv11 x x_1 -> (decide ((↑x_1.fst : Int) < (↑ (List.length (s1 x.snd)) : Int)) = true -> ((0 : Int) ≤
 (↑x_1.fst : Int) /\ (↑x_1.fst : Int) + (1 : Int) <= (↑ (List.length (s1 x.snd)) : Int)) /\ True /\ (((0 : Nat) + (1 : Nat)).le (1 : Nat) /\ x_1.fst = x_1.fst /\
 (x_1.fst + (1 : Nat)).le maxLen /\ ((x_1.fst + (1 : Nat)) * (1 : Nat)).le (140737488355328 : Nat)) /\ True /\ ∃ (y : Nat × Bool), ((True /\ 0 = 0 /\ 0 = 0 /\ 0 = 0) /\
 (True /\ 0 = 0 /\ 0 = 0 /\ 0 = 0) /\ (bif x_1.snd then bif (↑ ((s1 x.snd).getD (↑x_1.fst : Int).toNat (0 : UInt8)).toNat : Int) == (48 : Int) then true else (↑ ((s1
 x.snd).getD (↑x_1.fst : Int).toNat (0 : UInt8)).toNat : Int) == (49 : Int) else false) = y.snd /\ (1 = 1 /\ List.length (s1 x.snd) = List.length (s1 x.snd) /\ ∀ (i
 : Nat), i < List.length (s1 x.snd) -> AV.pl (Value.int IntKind.u8 (↑ ((s1 x.snd).getD i (0 : UInt8)).toNat : Int)) = AV.pl (Value.int IntKind.u8 (↑ ((s1
 x.snd).getD i (0 : UInt8)).toNat : Int))) /\ (↑ (List.length (s1 x.snd)) : Int) = (↑ (List.length (s1 x.snd)) : Int) /\ IntKind.i64.wrap ((↑x_1.fst : Int) + (1 :
 Int)) = (↑y.fst : Int) /\ True) /\ ((94 = 94 /\ bs (blankR x.snd).snd.rest = bs (blankR x.snd).snd.rest /\ (blankR x.snd).snd.bad = (blankR x.snd).snd.bad /\ True) /\
 (64 = 64 /\ x.fst.kind = x.fst.kind /\ x.fst.node = x.fst.node /\ x.fst.to = x.fst.to /\ x.fst.n = x.fst.n /\ (True /\ 0 = 0 /\ x_1.fst + (1 : Nat) = y.fst) /\
 Value.slice none (0 : Nat) (0 : Nat) = Value.slice none (0 : Nat) (0 : Nat) /\ bs x.fst.branch = bs x.fst.branch /\ Value.slice none (0 : Nat) (0 : Nat) =
 Value.slice none (0 : Nat) (0 : Nat) /\ Value.slice none (0 : Nat) (0 : Nat) = Value.slice none (0 : Nat) (0 : Nat) /\ x.fst.author = x.fst.author /\ bs x.fst.note
 = bs x.fst.note /\ x.fst.ck = x.fst.ck /\ x.fst.client = x.fst.client /\ x.fst.seq = x.fst.seq /\ bs x.fst.cbranch = bs x.fst.cbranch /\ (IntKind.u8 = IntKind.u8 /\ 32
 = 32 /\ ∀ (i : Nat), i < (32 : Nat) -> x.fst.old i = x.fst.old i) /\ (IntKind.u8 = IntKind.u8 /\ 32 = 32 /\ ∀ (i : Nat), i < (32 : Nat) -> x.fst.new i = x.fst.new i) /\
 Value.slice none (0 : Nat) (0 : Nat) = Value.slice none (0 : Nat) (0 : Nat) /\ True) /\ (1 = 1 /\ 4 = 4 /\ y.fst.le (x_1.fst + (1 : Nat)) /\ ∀ (i : Nat), i < y.fst ->
 (if i < x_1.fst then bl ((List.map (fun (x : UInt8) => x == (49 : UInt8)) (s1 x.snd)).getD i false) else rowOf [((0 : Nat), bl ((↑ ((s1 x.snd).getD (↑x_1.fst :
 Int).toNat (0 : UInt8)).toNat : Int) == (49 : Int)))] ((0 : Nat) + (i - x_1.fst))) = bl ((List.map (fun (x : UInt8) => x == (49 : UInt8)) (s1 x.snd)).getD i
 false)) /\ True) /\ inv11 x y /\ (List.length (s1 x.snd) - y.fst).succ.le (List.length (s1 x.snd) - x_1.fst)) /\ (decide ((↑x_1.fst : Int) < (↑ (List.length (s1
 x.snd)) : Int)) = false -> True /\ ∃ (x_2 : Ev × Rd), ((True /\ 0 = 0 /\ 0 = 0 /\ 0 = 0) /\ (True /\ 0 = 0 /\ 0 = 0 /\ 0 = 0) /\ True) /\ ((94 = 94 /\ bs (blankR
 x.snd).snd.rest = bs x_2.snd.rest /\ (bif (blankR x.snd).snd.bad then true else !x_1.snd) = x_2.snd.bad /\ True) /\ (64 = 64 /\ x.fst.kind = x_2.fst.kind /\
 x.fst.node = x_2.fst.node /\ x.fst.to = x_2.fst.to /\ x.fst.n = x_2.fst.n /\ (True /\ 0 = 0 /\ x_1.fst = x_2.fst.keep.length) /\ (True /\ True /\ 0 = 0 /\
 x_2.fst.conf.length = (0 : Nat)) /\ bs x.fst.branch = bs x_2.fst.branch /\ (True /\ True /\ 0 = 0 /\ x_2.fst.map.length = (0 : Nat)) /\ (True /\ True /\ 0 = 0 /\
 x_2.fst.edit.length = (0 : Nat)) /\ x.fst.author = x_2.fst.author /\ bs x.fst.note = bs x_2.fst.note /\ x.fst.ck = x_2.fst.ck /\ x.fst.client = x_2.fst.client /\
 x.fst.seq = x_2.fst.seq /\ bs x.fst.cbranch = bs x_2.fst.cbranch /\ (IntKind.u8 = IntKind.u8 /\ 32 = 32 /\ ∀ (i : Nat), i < (32 : Nat) -> x.fst.old i = x_2.fst.old i)
 /\ (IntKind.u8 = IntKind.u8 /\ 32 = 32 /\ ∀ (i : Nat), i < (32 : Nat) -> x.fst.new i = x_2.fst.new i) /\ Value.slice none (0 : Nat) (0 : Nat) = Value.slice none (0 :
 Nat) (0 : Nat) /\ True) /\ (1 = 1 /\ 4 = 4 /\ x_2.fst.keep.length.le x_1.fst /\ ∀ (i : Nat), i < x_2.fst.keep.length -> bl ((List.map (fun (x : UInt8) => x == (49 :
 UInt8)) (s1 x.snd)).getD i false) = bl (x_2.fst.keep.getD i false)) /\ x_2.fst.conf.length = (0 : Nat) /\ x_2.fst.map.length = (0 : Nat) /\ x_2.fst.edit.length = (0
 : Nat) /\ True) /\ inv32 x x_2)) /\ ((x.fst.kind == (8 : Int)) = false -> ((x.fst.kind == (10 : Int)) = true -> (∃ (x_1 : List Int × Rd), ((True /\ 0 = 0 /\ 0 = 0 /\ 0 =
 0) /\ (True /\ 0 = 0 /\ 0 = 0 /\ 0 = 0) /\ True) /\ ((94 = 94 /\ bs x.snd.rest = bs x_1.snd.rest /\ x.snd.bad = x_1.snd.bad /\ True) /\ (64 = 64 /\ x.fst.kind = x.fst.kind
 /\ x.fst.node = x.fst.node /\ x.fst.to = x.fst.to /\ x.fst.n = x.fst.n /\ Value.slice none (0 : Nat) (0 : Nat) = Value.slice none (0 : Nat) (0 : Nat) /\ (True /\ True
 /\ 0 = 0 /\ x_1.fst.length = (0 : Nat)) /\ bs x.fst.branch = bs x.fst.branch /\ Value.slice none (0 : Nat) (0 : Nat) = Value.slice none (0 : Nat) (0 : Nat) /\
 Value.slice none (0 : Nat) (0 : Nat) = Value.slice none (0 : Nat) (0 : Nat) /\ x.fst.author = x.fst.author /\ bs x.fst.note = bs x.fst.note /\ x.fst.ck = x.fst.ck /\
 x.fst.client = x.fst.client /\ x.fst.seq = x.fst.seq /\ bs x.fst.cbranch = bs x.fst.cbranch /\ (IntKind.u8 = IntKind.u8 /\ 32 = 32 /\ ∀ (i : Nat), i < (32 : Nat) ->
 x.fst.old i = x.fst.old i) /\ (IntKind.u8 = IntKind.u8 /\ 32 = 32 /\ ∀ (i : Nat), i < (32 : Nat) -> x.fst.new i = x.fst.new i) /\ Value.slice none (0 : Nat) (0 : Nat)
 = Value.slice none (0 : Nat) (0 : Nat) /\ True) /\ x_1.fst.length = (0 : Nat) /\ True) /\ inv18 x x_1) /\ ∀ (x_1 : List Int × Rd), inv18 x x_1 -> (True /\ True) /\ 94 =
 94 /\ (moreR x_1.snd = true -> ((True /\ True) /\ (94 = 94 /\ (List.length x_1.snd.rest).le rlim) /\ True /\ (((0 : Nat) + (1 : Nat)).le (1 : Nat) /\ x_1.fst.length =
 x_1.fst.length /\ (x_1.fst.length + (1 : Nat)).le maxLen /\ ((x_1.fst.length + (1 : Nat)) * (8 : Nat)).le (140737488355328 : Nat)) /\ True /\ ∃ (y : List Int × Rd),
 ((True /\ 0 = 0 /\ 0 = 0 /\ 0 = 0) /\ (True /\ 0 = 0 /\ 0 = 0 /\ 0 = 0) /\ True) /\ ((94 = 94 /\ bs (numberR x_1.snd).snd.rest = bs y.snd.rest /\ (numberR x_1.snd).snd.bad
 = y.snd.bad /\ True) /\ (64 = 64 /\ x.fst.kind = x.fst.kind /\ x.fst.node = x.fst.node /\ x.fst.to = x.fst.to /\ x.fst.n = x.fst.n /\ Value.slice none (0 : Nat) (0 :
 Nat) = Value.slice none (0 : Nat) (0 : Nat) /\ (True /\ 0 = 0 /\ x_1.fst.length + (1 : Nat) = y.fst.length) /\ bs x.fst.branch = bs x.fst.branch /\ Value.slice none
 (0 : Nat) (0 : Nat) = Value.slice none (0 : Nat) (0 : Nat) /\ Value.slice none (0 : Nat) (0 : Nat) = Value.slice none (0 : Nat) (0 : Nat) /\ x.fst.author =
 x.fst.author /\ bs x.fst.note = bs x.fst.note /\ x.fst.ck = x.fst.ck /\ x.fst.client = x.fst.client /\ x.fst.seq = x.fst.seq /\ bs x.fst.cbranch = bs x.fst.cbranch /\
 (IntKind.u8 = IntKind.u8 /\ 32 = 32 /\ ∀ (i : Nat), i < (32 : Nat) -> x.fst.old i = x.fst.old i) /\ (IntKind.u8 = IntKind.u8 /\ 32 = 32 /\ ∀ (i : Nat), i < (32 : Nat)
 -> x.fst.new i = x.fst.new i) /\ Value.slice none (0 : Nat) (0 : Nat) = Value.slice none (0 : Nat) (0 : Nat) /\ True) /\ (1 = 1 /\ 3 = 3 /\ y.fst.length.le
 (x_1.fst.length + (1 : Nat)) /\ ∀ (i : Nat), i < y.fst.length -> (if i < x_1.fst.length then nm (x_1.fst.getD i (0 : Int)) else rowOf [((0 : Nat), nm (numberR
 x_1.snd).fst)] ((0 : Nat) + (i - x_1.fst.length))) = nm (y.fst.getD i (0 : Int))) /\ True) /\ inv18 x y /\ (List.length y.snd.rest).succ.le (List.length
 x_1.snd.rest)) /\ (True /\ True) /\ (94 = 94 /\ (List.length x_1.snd.rest).le rlim) /\ (True /\ (((0 : Nat) + (1 : Nat)).le (1 : Nat) /\ x_1.fst.length = x_1.fst.length
 /\ (x_1.fst.length + (1 : Nat)).le maxLen /\ ((x_1.fst.length + (1 : Nat)) * (8 : Nat)).le (140737488355328 : Nat)) /\ True /\ ∃ (y : List Int × Rd), ((True /\ 0 = 0
 /\ 0 = 0 /\ 0 = 0) /\ (True /\ 0 = 0 /\ 0 = 0 /\ 0 = 0) /\ True) /\ ((94 = 94 /\ bs (numberR x_1.snd).snd.rest = bs y.snd.rest /\ (numberR x_1.snd).snd.bad = y.snd.bad /\
 True) /\ (64 = 64 /\ x.fst.kind = x.fst.kind /\ x.fst.node = x.fst.node /\ x.fst.to = x.fst.to /\ x.fst.n = x.fst.n /\ Value.slice none (0 : Nat) (0 : Nat) =
 Value.slice none (0 : Nat) (0 : Nat) /\ (True /\ 0 = 0 /\ x_1.fst.length + (1 : Nat) = y.fst.length) /\ bs x.fst.branch = bs x.fst.branch /\ Value.slice none (0 :
 Nat) (0 : Nat) = Value.slice none (0 : Nat) (0 : Nat) /\ Value.slice none (0 : Nat) (0 : Nat) = Value.slice none (0 : Nat) (0 : Nat) /\ x.fst.author = x.fst.author
 /\ bs x.fst.note = bs x.fst.note /\ x.fst.ck = x.fst.ck /\ x.fst.client = x.fst.client /\ x.fst.seq = x.fst.seq /\ bs x.fst.cbranch = bs x.fst.cbranch /\ (IntKind.u8 =
 IntKind.u8 /\ 32 = 32 /\ ∀ (i : Nat), i < (32 : Nat) -> x.fst.old i = x.fst.old i) /\ (IntKind.u8 = IntKind.u8 /\ 32 = 32 /\ ∀ (i : Nat), i < (32 : Nat) -> x.fst.new i
 = x.fst.new i) /\ Value.slice none (0 : Nat) (0 : Nat) = Value.slice none (0 : Nat) (0 : Nat) /\ True) /\ (1 = 1 /\ 3 = 3 /\ y.fst.length.le (x_1.fst.length + (1 :
 Nat)) /\ ∀ (i : Nat), i < y.fst.length -> (if i < x_1.fst.length then nm (x_1.fst.getD i (0 : Int)) else rowOf [((0 : Nat), nm (numberR x_1.snd).fst)] ((0 : Nat) +
 (i - x_1.fst.length))) = nm (y.fst.getD i (0 : Int))) /\ True) /\ inv18 x y /\ (List.length y.snd.rest).succ.le (List.length x_1.snd.rest)) /\ True /\ (((0 : Nat) +
 (1 : Nat)).le (1 : Nat) /\ x_1.fst.length = x_1.fst.length /\ (x_1.fst.length + (1 : Nat)).le maxLen /\ ((x_1.fst.length + (1 : Nat)) * (8 : Nat)).le
 (140737488355328 : Nat)) /\ True /\ ∃ (y : List Int × Rd), ((True /\ 0 = 0 /\ 0 = 0 /\ 0 = 0) /\ (True /\ 0 = 0 /\ 0 = 0 /\ 0 = 0) /\ True) /\ ((94 = 94 /\ bs (numberR
 x_1.snd).snd.rest = bs y.snd.rest /\ (numberR x_1.snd).snd.bad = y.snd.bad /\ True) /\ (64 = 64 /\ x.fst.kind = x.fst.kind /\ x.fst.node = x.fst.node /\ x.fst.to =
 x.fst.to /\ x.fst.n = x.fst.n /\ Value.slice none (0 : Nat) (0 : Nat) = Value.slice none (0 : Nat) (0 : Nat) /\ (True /\ 0 = 0 /\ x_1.fst.length + (1 : Nat) =
 y.fst.length) /\ bs x.fst.branch = bs x.fst.branch /\ Value.slice none (0 : Nat) (0 : Nat) = Value.slice none (0 : Nat) (0 : Nat) /\ Value.slice none (0 : Nat) (0 :
 Nat) = Value.slice none (0 : Nat) (0 : Nat) /\ x.fst.author = x.fst.author /\ bs x.fst.note = bs x.fst.note /\ x.fst.ck = x.fst.ck /\ x.fst.client = x.fst.client /\
 x.fst.seq = x.fst.seq /\ bs x.fst.cbranch = bs x.fst.cbranch /\ (IntKind.u8 = IntKind.u8 /\ 32 = 32 /\ ∀ (i : Nat), i < (32 : Nat) -> x.fst.old i = x.fst.old i) /\
 (IntKind.u8 = IntKind.u8 /\ 32 = 32 /\ ∀ (i : Nat), i < (32 : Nat) -> x.fst.new i = x.fst.new i) /\ Value.slice none (0 : Nat) (0 : Nat) = Value.slice none (0 : Nat)
 (0 : Nat) /\ True) /\ (1 = 1 /\ 3 = 3 /\ y.fst.length.le (x_1.fst.length + (1 : Nat)) /\ ∀ (i : Nat), i < y.fst.length -> (if i < x_1.fst.length then nm (x_1.fst.getD
 i (0 : Int)) else rowOf [((0 : Nat), nm (numberR x_1.snd).fst)] ((0 : Nat) + (i - x_1.fst.length))) = nm (y.fst.getD i (0 : Int))) /\ True) /\ inv18 x y /\
 (List.length y.snd.rest).succ.le (List.length x_1.snd.rest)) /\ (moreR x_1.snd = false -> ∃ (x_2 : Ev × Rd), ((True /\ 0 = 0 /\ 0 = 0 /\ 0 = 0) /\ (True /\ 0 = 0 /\ 0 =
 0 /\ 0 = 0) /\ True) /\ ((94 = 94 /\ bs x_1.snd.rest = bs x_2.snd.rest /\ x_1.snd.bad = x_2.snd.bad /\ True) /\ (64 = 64 /\ x.fst.kind = x_2.fst.kind /\ x.fst.node =
 x_2.fst.node /\ x.fst.to = x_2.fst.to /\ x.fst.n = x_2.fst.n /\ (True /\ True /\ 0 = 0 /\ x_2.fst.keep.length = (0 : Nat)) /\ (True /\ 0 = 0 /\ x_1.fst.length =
 x_2.fst.conf.length) /\ bs x.fst.branch = bs x_2.fst.branch /\ (True /\ True /\ 0 = 0 /\ x_2.fst.map.length = (0 : Nat)) /\ (True /\ True /\ 0 = 0 /\ x_2.fst.edit.length
 = (0 : Nat)) /\ x.fst.author = x_2.fst.author /\ bs x.fst.note = bs x_2.fst.note /\ x.fst.ck = x_2.fst.ck /\ x.fst.client = x_2.fst.client /\ x.fst.seq = x_2.fst.seq
 /\ bs x.fst.cbranch = bs x_2.fst.cbranch /\ (IntKind.u8 = IntKind.u8 /\ 32 = 32 /\ ∀ (i : Nat), i < (32 : Nat) -> x.fst.old i = x_2.fst.old i) /\ (IntKind.u8 =
 IntKind.u8 /\ 32 = 32 /\ ∀ (i : Nat), i < (32 : Nat) -> x.fst.new i = x_2.fst.new i) /\ Value.slice none (0 : Nat) (0 : Nat) = Value.slice none (0 : Nat) (0 : Nat) /\
 True) /\ x_2.fst.keep.length = (0 : Nat) /\ (1 = 1 /\ 3 = 3 /\ x_2.fst.conf.length.le x_1.fst.length /\ ∀ (i : Nat), i < x_2.fst.conf.length -> nm (x_1.fst.getD i (0 :
 Int)) = nm (x_2.fst.conf.getD i (0 : Int))) /\ x_2.fst.map.length = (0 : Nat) /\ x_2.fst.edit.length = (0 : Nat) /\ True) /\ inv32 x x_2)) /\ ((x.fst.kind == (10 :
 Int)) = false -> ((x.fst.kind == (11 : Int)) = true -> (∃ (x_1 : List (Bs × Bs) × Rd), ((True /\ 0 = 0 /\ 0 = 0 /\ 0 = 0) /\ (True /\ 0 = 0 /\ 0 = 0 /\ 0 = 0) /\ True) /\
 ((94 = 94 /\ bs x.snd.rest = bs x_1.snd.rest /\ x.snd.bad = x_1.snd.bad /\ True) /\ (64 = 64 /\ x.fst.kind = x.fst.kind /\ x.fst.node = x.fst.node /\ x.fst.to =
 x.fst.to /\ x.fst.n = x.fst.n /\ Value.slice none (0 : Nat) (0 : Nat) = Value.slice none (0 : Nat) (0 : Nat) /\ Value.slice none (0 : Nat) (0 : Nat) = Value.slice
 none (0 : Nat) (0 : Nat) /\ bs x.fst.branch = bs x.fst.branch /\ (True /\ True /\ 0 = 0 /\ x_1.fst.length = (0 : Nat)) /\ Value.slice none (0 : Nat) (0 : Nat) =
 Value.slice none (0 : Nat) (0 : Nat) /\ x.fst.author = x.fst.author /\ bs x.fst.note = bs x.fst.note /\ x.fst.ck = x.fst.ck /\ x.fst.client = x.fst.client /\
 x.fst.seq = x.fst.seq /\ bs x.fst.cbranch = bs x.fst.cbranch /\ (IntKind.u8 = IntKind.u8 /\ 32 = 32 /\ ∀ (i : Nat), i < (32 : Nat) -> x.fst.old i = x.fst.old i) /\
 (IntKind.u8 = IntKind.u8 /\ 32 = 32 /\ ∀ (i : Nat), i < (32 : Nat) -> x.fst.new i = x.fst.new i) /\ Value.slice none (0 : Nat) (0 : Nat) = Value.slice none (0 : Nat)
 (0 : Nat) /\ True) /\ x_1.fst.length = (0 : Nat) /\ True) /\ inv21 x x_1) /\ ∀ (x_1 : List (Bs × Bs) × Rd), inv21 x x_1 -> (True /\ True) /\ 94 = 94 /\ (moreR x_1.snd =
 true -> ((True /\ True) /\ (94 = 94 /\ (List.length x_1.snd.rest).le rlim) /\ (True /\ True) /\ (94 = 94 /\ (List.length (textR x_1.snd).snd.rest).le rlim) /\ True /\ (((0
 : Nat) + (1 : Nat)).le (1 : Nat) /\ x_1.fst.length = x_1.fst.length /\ (x_1.fst.length + (1 : Nat)).le maxLen /\ ((x_1.fst.length + (1 : Nat)) * (32 : Nat)).le
 (140737488355328 : Nat)) /\ True /\ ∃ (y : List (Bs × Bs) × Rd), ((True /\ 0 = 0 /\ 0 = 0 /\ 0 = 0) /\ (True /\ 0 = 0 /\ 0 = 0 /\ 0 = 0) /\ True) /\ ((94 = 94 /\ bs (textR
 (textR x_1.snd).snd).snd.rest = bs y.snd.rest /\ (textR (textR x_1.snd).snd).snd.bad = y.snd.bad /\ True) /\ (64 = 64 /\ x.fst.kind = x.fst.kind /\ x.fst.node =
 x.fst.node /\ x.fst.to = x.fst.to /\ x.fst.n = x.fst.n /\ Value.slice none (0 : Nat) (0 : Nat) = Value.slice none (0 : Nat) (0 : Nat) /\ Value.slice none (0 : Nat)
 (0 : Nat) = Value.slice none (0 : Nat) (0 : Nat) /\ bs x.fst.branch = bs x.fst.branch /\ (True /\ 0 = 0 /\ x_1.fst.length + (1 : Nat) = y.fst.length) /\ Value.slice
 none (0 : Nat) (0 : Nat) = Value.slice none (0 : Nat) (0 : Nat) /\ x.fst.author = x.fst.author /\ bs x.fst.note = bs x.fst.note /\ x.fst.ck = x.fst.ck /\
 x.fst.client = x.fst.client /\ x.fst.seq = x.fst.seq /\ bs x.fst.cbranch = bs x.fst.cbranch /\ (IntKind.u8 = IntKind.u8 /\ 32 = 32 /\ ∀ (i : Nat), i < (32 : Nat) ->
 x.fst.old i = x.fst.old i) /\ (IntKind.u8 = IntKind.u8 /\ 32 = 32 /\ ∀ (i : Nat), i < (32 : Nat) -> x.fst.new i = x.fst.new i) /\ Value.slice none (0 : Nat) (0 : Nat)
 = Value.slice none (0 : Nat) (0 : Nat) /\ True) /\ (2 = 2 /\ 111 = 111 /\ y.fst.length.le (x_1.fst.length + (1 : Nat)) /\ ∀ (i : Nat), i < y.fst.length -> (if i <
 x_1.fst.length then AV.agg [sl (x_1.fst.getD i ([], [])).fst, sl (x_1.fst.getD i ([], [])).snd] else rowOf [((0 : Nat), AV.agg [sl (textR x_1.snd).fst, sl (textR
 (textR x_1.snd).snd).fst])] ((0 : Nat) + (i - x_1.fst.length))) = AV.agg [sl (y.fst.getD i ([], [])).fst, sl (y.fst.getD i ([], [])).snd]) /\ True) /\ inv21 x y /\
 (List.length y.snd.rest).succ.le (List.length x_1.snd.rest)) /\ (True /\ True) /\ (94 = 94 /\ (List.length x_1.snd.rest).le rlim) /\ ((True /\ True) /\ (94 = 94 /\
 (List.length (textR x_1.snd).snd.rest).le rlim) /\ True /\ (((0 : Nat) + (1 : Nat)).le (1 : Nat) /\ x_1.fst.length = x_1.fst.length /\ (x_1.fst.length + (1 :
 Nat)).le maxLen /\ ((x_1.fst.length + (1 : Nat)) * (32 : Nat)).le (140737488355328 : Nat)) /\ True /\ ∃ (y : List (Bs × Bs) × Rd), ((True /\ 0 = 0 /\ 0 = 0 /\ 0 = 0) /\
 (True /\ 0 = 0 /\ 0 = 0 /\ 0 = 0) /\ True) /\ ((94 = 94 /\ bs (textR (textR x_1.snd).snd).snd.rest = bs y.snd.rest /\ (textR (textR x_1.snd).snd).snd.bad = y.snd.bad /\
 True) /\ (64 = 64 /\ x.fst.kind = x.fst.kind /\ x.fst.node = x.fst.node /\ x.fst.to = x.fst.to /\ x.fst.n = x.fst.n /\ Value.slice none (0 : Nat) (0 : Nat) =
 Value.slice none (0 : Nat) (0 : Nat) /\ Value.slice none (0 : Nat) (0 : Nat) = Value.slice none (0 : Nat) (0 : Nat) /\ bs x.fst.branch = bs x.fst.branch /\ (True /\
 0 = 0 /\ x_1.fst.length + (1 : Nat) = y.fst.length) /\ Value.slice none (0 : Nat) (0 : Nat) = Value.slice none (0 : Nat) (0 : Nat) /\ x.fst.author = x.fst.author /\
 bs x.fst.note = bs x.fst.note /\ x.fst.ck = x.fst.ck /\ x.fst.client = x.fst.client /\ x.fst.seq = x.fst.seq /\ bs x.fst.cbranch = bs x.fst.cbranch /\ (IntKind.u8 =
 IntKind.u8 /\ 32 = 32 /\ ∀ (i : Nat), i < (32 : Nat) -> x.fst.old i = x.fst.old i) /\ (IntKind.u8 = IntKind.u8 /\ 32 = 32 /\ ∀ (i : Nat), i < (32 : Nat) -> x.fst.new i
 = x.fst.new i) /\ Value.slice none (0 : Nat) (0 : Nat) = Value.slice none (0 : Nat) (0 : Nat) /\ True) /\ (2 = 2 /\ 111 = 111 /\ y.fst.length.le (x_1.fst.length + (1
 : Nat)) /\ ∀ (i : Nat), i < y.fst.length -> (if i < x_1.fst.length then AV.agg [sl (x_1.fst.getD i ([], [])).fst, sl (x_1.fst.getD i ([], [])).snd] else rowOf [((0
 : Nat), AV.agg [sl (textR x_1.snd).fst, sl (textR (textR x_1.snd).snd).fst])] ((0 : Nat) + (i - x_1.fst.length))) = AV.agg [sl (y.fst.getD i ([], [])).fst, sl
 (y.fst.getD i ([], [])).snd]) /\ True) /\ inv21 x y /\ (List.length y.snd.rest).succ.le (List.length x_1.snd.rest)) /\ (True /\ True) /\ (94 = 94 /\ (List.length (textR
 x_1.snd).snd.rest).le rlim) /\ (True /\ (((0 : Nat) + (1 : Nat)).le (1 : Nat) /\ x_1.fst.length = x_1.fst.length /\ (x_1.fst.length + (1 : Nat)).le maxLen /\
 ((x_1.fst.length + (1 : Nat)) * (32 : Nat)).le (140737488355328 : Nat)) /\ True /\ ∃ (y : List (Bs × Bs) × Rd), ((True /\ 0 = 0 /\ 0 = 0 /\ 0 = 0) /\ (True /\ 0 = 0 /\ 0
 = 0 /\ 0 = 0) /\ True) /\ ((94 = 94 /\ bs (textR (textR x_1.snd).snd).snd.rest = bs y.snd.rest /\ (textR (textR x_1.snd).snd).snd.bad = y.snd.bad /\ True) /\ (64 = 64 /\
 x.fst.kind = x.fst.kind /\ x.fst.node = x.fst.node /\ x.fst.to = x.fst.to /\ x.fst.n = x.fst.n /\ Value.slice none (0 : Nat) (0 : Nat) = Value.slice none (0 : Nat)
 (0 : Nat) /\ Value.slice none (0 : Nat) (0 : Nat) = Value.slice none (0 : Nat) (0 : Nat) /\ bs x.fst.branch = bs x.fst.branch /\ (True /\ 0 = 0 /\ x_1.fst.length + (1
 : Nat) = y.fst.length) /\ Value.slice none (0 : Nat) (0 : Nat) = Value.slice none (0 : Nat) (0 : Nat) /\ x.fst.author = x.fst.author /\ bs x.fst.note = bs
 x.fst.note /\ x.fst.ck = x.fst.ck /\ x.fst.client = x.fst.client /\ x.fst.seq = x.fst.seq /\ bs x.fst.cbranch = bs x.fst.cbranch /\ (IntKind.u8 = IntKind.u8 /\ 32 = 32
 /\ ∀ (i : Nat), i < (32 : Nat) -> x.fst.old i = x.fst.old i) /\ (IntKind.u8 = IntKind.u8 /\ 32 = 32 /\ ∀ (i : Nat), i < (32 : Nat) -> x.fst.new i = x.fst.new i) /\
 Value.slice none (0 : Nat) (0 : Nat) = Value.slice none (0 : Nat) (0 : Nat) /\ True) /\ (2 = 2 /\ 111 = 111 /\ y.fst.length.le (x_1.fst.length + (1 : Nat)) /\ ∀ (i :
 Nat), i < y.fst.length -> (if i < x_1.fst.length then AV.agg [sl (x_1.fst.getD i ([], [])).fst, sl (x_1.fst.getD i ([], [])).snd] else rowOf [((0 : Nat), AV.agg
 [sl (textR x_1.snd).fst, sl (textR (textR x_1.snd).snd).fst])] ((0 : Nat) + (i - x_1.fst.length))) = AV.agg [sl (y.fst.getD i ([], [])).fst, sl (y.fst.getD i
 ([], [])).snd]) /\ True) /\ inv21 x y /\ (List.length y.snd.rest).succ.le (List.length x_1.snd.rest)) /\ True /\ (((0 : Nat) + (1 : Nat)).le (1 : Nat) /\
 x_1.fst.length = x_1.fst.length /\ (x_1.fst.length + (1 : Nat)).le maxLen /\ ((x_1.fst.length + (1 : Nat)) * (32 : Nat)).le (140737488355328 : Nat)) /\ True /\ ∃ (y
 : List (Bs × Bs) × Rd), ((True /\ 0 = 0 /\ 0 = 0 /\ 0 = 0) /\ (True /\ 0 = 0 /\ 0 = 0 /\ 0 = 0) /\ True) /\ ((94 = 94 /\ bs (textR (textR x_1.snd).snd).snd.rest = bs
 y.snd.rest /\ (textR (textR x_1.snd).snd).snd.bad = y.snd.bad /\ True) /\ (64 = 64 /\ x.fst.kind = x.fst.kind /\ x.fst.node = x.fst.node /\ x.fst.to = x.fst.to /\
 x.fst.n = x.fst.n /\ Value.slice none (0 : Nat) (0 : Nat) = Value.slice none (0 : Nat) (0 : Nat) /\ Value.slice none (0 : Nat) (0 : Nat) = Value.slice none (0 :
 Nat) (0 : Nat) /\ bs x.fst.branch = bs x.fst.branch /\ (True /\ 0 = 0 /\ x_1.fst.length + (1 : Nat) = y.fst.length) /\ Value.slice none (0 : Nat) (0 : Nat) =
 Value.slice none (0 : Nat) (0 : Nat) /\ x.fst.author = x.fst.author /\ bs x.fst.note = bs x.fst.note /\ x.fst.ck = x.fst.ck /\ x.fst.client = x.fst.client /\
 x.fst.seq = x.fst.seq /\ bs x.fst.cbranch = bs x.fst.cbranch /\ (IntKind.u8 = IntKind.u8 /\ 32 = 32 /\ ∀ (i : Nat), i < (32 : Nat) -> x.fst.old i = x.fst.old i) /\
 (IntKind.u8 = IntKind.u8 /\ 32 = 32 /\ ∀ (i : Nat), i < (32 : Nat) -> x.fst.new i = x.fst.new i) /\ Value.slice none (0 : Nat) (0 : Nat) = Value.slice none (0 : Nat)
 (0 : Nat) /\ True) /\ (2 = 2 /\ 111 = 111 /\ y.fst.length.le (x_1.fst.length + (1 : Nat)) /\ ∀ (i : Nat), i < y.fst.length -> (if i < x_1.fst.length then AV.agg [sl
 (x_1.fst.getD i ([], [])).fst, sl (x_1.fst.getD i ([], [])).snd] else rowOf [((0 : Nat), AV.agg [sl (textR x_1.snd).fst, sl (textR (textR x_1.snd).snd).fst])]
 ((0 : Nat) + (i - x_1.fst.length))) = AV.agg [sl (y.fst.getD i ([], [])).fst, sl (y.fst.getD i ([], [])).snd]) /\ True) /\ inv21 x y /\ (List.length
 y.snd.rest).succ.le (List.length x_1.snd.rest)) /\ (moreR x_1.snd = false -> ∃ (x_2 : Ev × Rd), ((True /\ 0 = 0 /\ 0 = 0 /\ 0 = 0) /\ (True /\ 0 = 0 /\ 0 = 0 /\ 0 = 0) /\
 True) /\ ((94 = 94 /\ bs x_1.snd.rest = bs x_2.snd.rest /\ x_1.snd.bad = x_2.snd.bad /\ True) /\ (64 = 64 /\ x.fst.kind = x_2.fst.kind /\ x.fst.node = x_2.fst.node /\
 x.fst.to = x_2.fst.to /\ x.fst.n = x_2.fst.n /\ (True /\ True /\ 0 = 0 /\ x_2.fst.keep.length = (0 : Nat)) /\ (True /\ True /\ 0 = 0 /\ x_2.fst.conf.length = (0 : Nat)) /\
 bs x.fst.branch = bs x_2.fst.branch /\ (True /\ 0 = 0 /\ x_1.fst.length = x_2.fst.map.length) /\ (True /\ True /\ 0 = 0 /\ x_2.fst.edit.length = (0 : Nat)) /\
 x.fst.author = x_2.fst.author /\ bs x.fst.note = bs x_2.fst.note /\ x.fst.ck = x_2.fst.ck /\ x.fst.client = x_2.fst.client /\ x.fst.seq = x_2.fst.seq /\ bs
 x.fst.cbranch = bs x_2.fst.cbranch /\ (IntKind.u8 = IntKind.u8 /\ 32 = 32 /\ ∀ (i : Nat), i < (32 : Nat) -> x.fst.old i = x_2.fst.old i) /\ (IntKind.u8 = IntKind.u8 /\
 32 = 32 /\ ∀ (i : Nat), i < (32 : Nat) -> x.fst.new i = x_2.fst.new i) /\ Value.slice none (0 : Nat) (0 : Nat) = Value.slice none (0 : Nat) (0 : Nat) /\ True) /\
 x_2.fst.keep.length = (0 : Nat) /\ x_2.fst.conf.length = (0 : Nat) /\ (2 = 2 /\ 111 = 111 /\ x_2.fst.map.length.le x_1.fst.length /\ ∀ (i : Nat), i <
 x_2.fst.map.length -> AV.agg [sl (x_1.fst.getD i ([], [])).fst, sl (x_1.fst.getD i ([], [])).snd] = AV.agg [sl (x_2.fst.map.getD i ([], [])).fst, sl
 (x_2.fst.map.getD i ([], [])).snd]) /\ x_2.fst.edit.length = (0 : Nat) /\ True) /\ inv32 x x_2)) /\ ((x.fst.kind == (11 : Int)) = false -> ((x.fst.kind == (12 : Int))
 = true -> (∃ (x_1 : List (Bs × Bool × Bs) × Rd), ((True /\ 0 = 0 /\ 0 = 0 /\ 0 = 0) /\ (True /\ 0 = 0 /\ 0 = 0 /\ 0 = 0) /\ True) /\ ((94 = 94 /\ bs x.snd.rest = bs
 x_1.snd.rest /\ x.snd.bad = x_1.snd.bad /\ True) /\ (64 = 64 /\ x.fst.kind = x.fst.kind /\ x.fst.node = x.fst.node /\ x.fst.to = x.fst.to /\ x.fst.n = x.fst.n /\
 Value.slice none (0 : Nat) (0 : Nat) = Value.slice none (0 : Nat) (0 : Nat) /\ Value.slice none (0 : Nat) (0 : Nat) = Value.slice none (0 : Nat) (0 : Nat) /\ bs
 x.fst.branch = bs x.fst.branch /\ Value.slice none (0 : Nat) (0 : Nat) = Value.slice none (0 : Nat) (0 : Nat) /\ (True /\ True /\ 0 = 0 /\ x_1.fst.length = (0 : Nat))
 /\ x.fst.author = x.fst.author /\ bs x.fst.note = bs x.fst.note /\ x.fst.ck = x.fst.ck /\ x.fst.client = x.fst.client /\ x.fst.seq = x.fst.seq /\ bs x.fst.cbranch = bs
 x.fst.cbranch /\ (IntKind.u8 = IntKind.u8 /\ 32 = 32 /\ ∀ (i : Nat), i < (32 : Nat) -> x.fst.old i = x.fst.old i) /\ (IntKind.u8 = IntKind.u8 /\ 32 = 32 /\ ∀ (i : Nat),
 i < (32 : Nat) -> x.fst.new i = x.fst.new i) /\ Value.slice none (0 : Nat) (0 : Nat) = Value.slice none (0 : Nat) (0 : Nat) /\ True) /\ x_1.fst.length = (0 : Nat) /\
 True) /\ inv25 x x_1) /\ ∀ (x_1 : List (Bs × Bool × Bs) × Rd), inv25 x x_1 -> (True /\ True) /\ 94 = 94 /\ (moreR x_1.snd = true -> ((True /\ True) /\ (94 = 94 /\
 (List.length x_1.snd.rest).le rlim) /\ True /\ (((0 : Nat) + (1 : Nat)).le (1 : Nat) /\ x_1.fst.length = x_1.fst.length /\ (x_1.fst.length + (1 : Nat)).le maxLen /\
 ((x_1.fst.length + (1 : Nat)) * (40 : Nat)).le (140737488355328 : Nat)) /\ True /\ ∃ (y : List (Bs × Bool × Bs) × Rd), ((True /\ 0 = 0 /\ 0 = 0 /\ 0 = 0) /\ (True /\ 0
 = 0 /\ 0 = 0 /\ 0 = 0) /\ True) /\ ((94 = 94 /\ bs (changeR x_1.snd).snd.rest = bs y.snd.rest /\ (changeR x_1.snd).snd.bad = y.snd.bad /\ True) /\ (64 = 64 /\ x.fst.kind
 = x.fst.kind /\ x.fst.node = x.fst.node /\ x.fst.to = x.fst.to /\ x.fst.n = x.fst.n /\ Value.slice none (0 : Nat) (0 : Nat) = Value.slice none (0 : Nat) (0 : Nat) /\
 Value.slice none (0 : Nat) (0 : Nat) = Value.slice none (0 : Nat) (0 : Nat) /\ bs x.fst.branch = bs x.fst.branch /\ Value.slice none (0 : Nat) (0 : Nat) =
 Value.slice none (0 : Nat) (0 : Nat) /\ (True /\ 0 = 0 /\ x_1.fst.length + (1 : Nat) = y.fst.length) /\ x.fst.author = x.fst.author /\ bs x.fst.note = bs x.fst.note /\
 x.fst.ck = x.fst.ck /\ x.fst.client = x.fst.client /\ x.fst.seq = x.fst.seq /\ bs x.fst.cbranch = bs x.fst.cbranch /\ (IntKind.u8 = IntKind.u8 /\ 32 = 32 /\ ∀ (i :
 Nat), i < (32 : Nat) -> x.fst.old i = x.fst.old i) /\ (IntKind.u8 = IntKind.u8 /\ 32 = 32 /\ ∀ (i : Nat), i < (32 : Nat) -> x.fst.new i = x.fst.new i) /\ Value.slice
 none (0 : Nat) (0 : Nat) = Value.slice none (0 : Nat) (0 : Nat) /\ True) /\ (3 = 3 /\ 68 = 68 /\ y.fst.length.le (x_1.fst.length + (1 : Nat)) /\ ∀ (i : Nat), i <
 y.fst.length -> (if i < x_1.fst.length then AV.agg [sl (x_1.fst.getD i ([], false, [])).fst, bl (x_1.fst.getD i ([], false, [])).snd.fst, sl (x_1.fst.getD i ([],
 false, [])).snd.snd] else rowOf [((0 : Nat), AV.agg [sl (changeR x_1.snd).fst.fst, bl (changeR x_1.snd).fst.snd.fst, sl (changeR x_1.snd).fst.snd.snd])] ((0 :
 Nat) + (i - x_1.fst.length))) = AV.agg [sl (y.fst.getD i ([], false, [])).fst, bl (y.fst.getD i ([], false, [])).snd.fst, sl (y.fst.getD i ([], false,
 [])).snd.snd]) /\ True) /\ inv25 x y /\ (List.length y.snd.rest).succ.le (List.length x_1.snd.rest)) /\ (True /\ True) /\ (94 = 94 /\ (List.length x_1.snd.rest).le
 rlim) /\ (True /\ (((0 : Nat) + (1 : Nat)).le (1 : Nat) /\ x_1.fst.length = x_1.fst.length /\ (x_1.fst.length + (1 : Nat)).le maxLen /\ ((x_1.fst.length + (1 : Nat))
 * (40 : Nat)).le (140737488355328 : Nat)) /\ True /\ ∃ (y : List (Bs × Bool × Bs) × Rd), ((True /\ 0 = 0 /\ 0 = 0 /\ 0 = 0) /\ (True /\ 0 = 0 /\ 0 = 0 /\ 0 = 0) /\ True) /\
 ((94 = 94 /\ bs (changeR x_1.snd).snd.rest = bs y.snd.rest /\ (changeR x_1.snd).snd.bad = y.snd.bad /\ True) /\ (64 = 64 /\ x.fst.kind = x.fst.kind /\ x.fst.node =
 x.fst.node /\ x.fst.to = x.fst.to /\ x.fst.n = x.fst.n /\ Value.slice none (0 : Nat) (0 : Nat) = Value.slice none (0 : Nat) (0 : Nat) /\ Value.slice none (0 : Nat)
 (0 : Nat) = Value.slice none (0 : Nat) (0 : Nat) /\ bs x.fst.branch = bs x.fst.branch /\ Value.slice none (0 : Nat) (0 : Nat) = Value.slice none (0 : Nat) (0 :
 Nat) /\ (True /\ 0 = 0 /\ x_1.fst.length + (1 : Nat) = y.fst.length) /\ x.fst.author = x.fst.author /\ bs x.fst.note = bs x.fst.note /\ x.fst.ck = x.fst.ck /\
 x.fst.client = x.fst.client /\ x.fst.seq = x.fst.seq /\ bs x.fst.cbranch = bs x.fst.cbranch /\ (IntKind.u8 = IntKind.u8 /\ 32 = 32 /\ ∀ (i : Nat), i < (32 : Nat) ->
 x.fst.old i = x.fst.old i) /\ (IntKind.u8 = IntKind.u8 /\ 32 = 32 /\ ∀ (i : Nat), i < (32 : Nat) -> x.fst.new i = x.fst.new i) /\ Value.slice none (0 : Nat) (0 : Nat)
 = Value.slice none (0 : Nat) (0 : Nat) /\ True) /\ (3 = 3 /\ 68 = 68 /\ y.fst.length.le (x_1.fst.length + (1 : Nat)) /\ ∀ (i : Nat), i < y.fst.length -> (if i <
 x_1.fst.length then AV.agg [sl (x_1.fst.getD i ([], false, [])).fst, bl (x_1.fst.getD i ([], false, [])).snd.fst, sl (x_1.fst.getD i ([], false, [])).snd.snd]
 else rowOf [((0 : Nat), AV.agg [sl (changeR x_1.snd).fst.fst, bl (changeR x_1.snd).fst.snd.fst, sl (changeR x_1.snd).fst.snd.snd])] ((0 : Nat) + (i -
 x_1.fst.length))) = AV.agg [sl (y.fst.getD i ([], false, [])).fst, bl (y.fst.getD i ([], false, [])).snd.fst, sl (y.fst.getD i ([], false, [])).snd.snd]) /\ True)
 /\ inv25 x y /\ (List.length y.snd.rest).succ.le (List.length x_1.snd.rest)) /\ True /\ (((0 : Nat) + (1 : Nat)).le (1 : Nat) /\ x_1.fst.length = x_1.fst.length /\
 (x_1.fst.length + (1 : Nat)).le maxLen /\ ((x_1.fst.length + (1 : Nat)) * (40 : Nat)).le (140737488355328 : Nat)) /\ True /\ ∃ (y : List (Bs × Bool × Bs) × Rd),
 ((True /\ 0 = 0 /\ 0 = 0 /\ 0 = 0) /\ (True /\ 0 = 0 /\ 0 = 0 /\ 0 = 0) /\ True) /\ ((94 = 94 /\ bs (changeR x_1.snd).snd.rest = bs y.snd.rest /\ (changeR x_1.snd).snd.bad
 = y.snd.bad /\ True) /\ (64 = 64 /\ x.fst.kind = x.fst.kind /\ x.fst.node = x.fst.node /\ x.fst.to = x.fst.to /\ x.fst.n = x.fst.n /\ Value.slice none (0 : Nat) (0 :
 Nat) = Value.slice none (0 : Nat) (0 : Nat) /\ Value.slice none (0 : Nat) (0 : Nat) = Value.slice none (0 : Nat) (0 : Nat) /\ bs x.fst.branch = bs x.fst.branch /\
 Value.slice none (0 : Nat) (0 : Nat) = Value.slice none (0 : Nat) (0 : Nat) /\ (True /\ 0 = 0 /\ x_1.fst.length + (1 : Nat) = y.fst.length) /\ x.fst.author =
 x.fst.author /\ bs x.fst.note = bs x.fst.note /\ x.fst.ck = x.fst.ck /\ x.fst.client = x.fst.client /\ x.fst.seq = x.fst.seq /\ bs x.fst.cbranch = bs x.fst.cbranch /\
 (IntKind.u8 = IntKind.u8 /\ 32 = 32 /\ ∀ (i : Nat), i < (32 : Nat) -> x.fst.old i = x.fst.old i) /\ (IntKind.u8 = IntKind.u8 /\ 32 = 32 /\ ∀ (i : Nat), i < (32 : Nat)
 -> x.fst.new i = x.fst.new i) /\ Value.slice none (0 : Nat) (0 : Nat) = Value.slice none (0 : Nat) (0 : Nat) /\ True) /\ (3 = 3 /\ 68 = 68 /\ y.fst.length.le
 (x_1.fst.length + (1 : Nat)) /\ ∀ (i : Nat), i < y.fst.length -> (if i < x_1.fst.length then AV.agg [sl (x_1.fst.getD i ([], false, [])).fst, bl (x_1.fst.getD i
 ([], false, [])).snd.fst, sl (x_1.fst.getD i ([], false, [])).snd.snd] else rowOf [((0 : Nat), AV.agg [sl (changeR x_1.snd).fst.fst, bl (changeR
 x_1.snd).fst.snd.fst, sl (changeR x_1.snd).fst.snd.snd])] ((0 : Nat) + (i - x_1.fst.length))) = AV.agg [sl (y.fst.getD i ([], false, [])).fst, bl (y.fst.getD i
 ([], false, [])).snd.fst, sl (y.fst.getD i ([], false, [])).snd.snd]) /\ True) /\ inv25 x y /\ (List.length y.snd.rest).succ.le (List.length x_1.snd.rest)) /\ (moreR
 x_1.snd = false -> ∃ (x_2 : Ev × Rd), ((True /\ 0 = 0 /\ 0 = 0 /\ 0 = 0) /\ (True /\ 0 = 0 /\ 0 = 0 /\ 0 = 0) /\ True) /\ ((94 = 94 /\ bs x_1.snd.rest = bs x_2.snd.rest /\
 x_1.snd.bad = x_2.snd.bad /\ True) /\ (64 = 64 /\ x.fst.kind = x_2.fst.kind /\ x.fst.node = x_2.fst.node /\ x.fst.to = x_2.fst.to /\ x.fst.n = x_2.fst.n /\ (True /\ True
 /\ 0 = 0 /\ x_2.fst.keep.length = (0 : Nat)) /\ (True /\ True /\ 0 = 0 /\ x_2.fst.conf.length = (0 : Nat)) /\ bs x.fst.branch = bs x_2.fst.branch /\ (True /\ True /\ 0 = 0
 /\ x_2.fst.map.length = (0 : Nat)) /\ (True /\ 0 = 0 /\ x_1.fst.length = x_2.fst.edit.length) /\ x.fst.author = x_2.fst.author /\ bs x.fst.note = bs x_2.fst.note /\
 x.fst.ck = x_2.fst.ck /\ x.fst.client = x_2.fst.client /\ x.fst.seq = x_2.fst.seq /\ bs x.fst.cbranch = bs x_2.fst.cbranch /\ (IntKind.u8 = IntKind.u8 /\ 32 = 32 /\ ∀
 (i : Nat), i < (32 : Nat) -> x.fst.old i = x_2.fst.old i) /\ (IntKind.u8 = IntKind.u8 /\ 32 = 32 /\ ∀ (i : Nat), i < (32 : Nat) -> x.fst.new i = x_2.fst.new i) /\
 Value.slice none (0 : Nat) (0 : Nat) = Value.slice none (0 : Nat) (0 : Nat) /\ True) /\ x_2.fst.keep.length = (0 : Nat) /\ x_2.fst.conf.length = (0 : Nat) /\
 x_2.fst.map.length = (0 : Nat) /\ (3 = 3 /\ 68 = 68 /\ x_2.fst.edit.length.le x_1.fst.length /\ ∀ (i : Nat), i < x_2.fst.edit.length -> AV.agg [sl (x_1.fst.getD i
 ([], false, [])).fst, bl (x_1.fst.getD i ([], false, [])).snd.fst, sl (x_1.fst.getD i ([], false, [])).snd.snd] = AV.agg [sl (x_2.fst.edit.getD i ([], false,
 [])).fst, bl (x_2.fst.edit.getD i ([], false, [])).snd.fst, sl (x_2.fst.edit.getD i ([], false, [])).snd.snd]) /\ True) /\ inv32 x x_2)) /\ ((x.fst.kind == (12 :
 Int)) = false -> ((x.fst.kind == (13 : Int)) = true -> (∃ (x_1 : List (Bs × Bool × Bs) × Rd), ((True /\ 0 = 0 /\ 0 = 0 /\ 0 = 0) /\ (True /\ 0 = 0 /\ 0 = 0 /\ 0 = 0) /\
 True) /\ ((94 = 94 /\ bs x.snd.rest = bs x_1.snd.rest /\ x.snd.bad = x_1.snd.bad /\ True) /\ (64 = 64 /\ x.fst.kind = x.fst.kind /\ x.fst.node = x.fst.node /\ x.fst.to =
 x.fst.to /\ x.fst.n = x.fst.n /\ Value.slice none (0 : Nat) (0 : Nat) = Value.slice none (0 : Nat) (0 : Nat) /\ Value.slice none (0 : Nat) (0 : Nat) = Value.slice
 none (0 : Nat) (0 : Nat) /\ bs x.fst.branch = bs x.fst.branch /\ Value.slice none (0 : Nat) (0 : Nat) = Value.slice none (0 : Nat) (0 : Nat) /\ (True /\ True /\ 0 = 0
 /\ x_1.fst.length = (0 : Nat)) /\ x.fst.author = x.fst.author /\ bs x.fst.note = bs x.fst.note /\ x.fst.ck = x.fst.ck /\ x.fst.client = x.fst.client /\ x.fst.seq =
 x.fst.seq /\ bs x.fst.cbranch = bs x.fst.cbranch /\ (IntKind.u8 = IntKind.u8 /\ 32 = 32 /\ ∀ (i : Nat), i < (32 : Nat) -> x.fst.old i = x.fst.old i) /\ (IntKind.u8 =
 IntKind.u8 /\ 32 = 32 /\ ∀ (i : Nat), i < (32 : Nat) -> x.fst.new i = x.fst.new i) /\ Value.slice none (0 : Nat) (0 : Nat) = Value.slice none (0 : Nat) (0 : Nat) /\
 True) /\ x_1.fst.length = (0 : Nat) /\ True) /\ inv25 x x_1) /\ ∀ (x_1 : List (Bs × Bool × Bs) × Rd), inv25 x x_1 -> (True /\ True) /\ 94 = 94 /\ (moreR x_1.snd = true ->
 ((True /\ True) /\ (94 = 94 /\ (List.length x_1.snd.rest).le rlim) /\ True /\ (((0 : Nat) + (1 : Nat)).le (1 : Nat) /\ x_1.fst.length = x_1.fst.length /\
 (x_1.fst.length + (1 : Nat)).le maxLen /\ ((x_1.fst.length + (1 : Nat)) * (40 : Nat)).le (140737488355328 : Nat)) /\ True /\ ∃ (y : List (Bs × Bool × Bs) × Rd),
 ((True /\ 0 = 0 /\ 0 = 0 /\ 0 = 0) /\ (True /\ 0 = 0 /\ 0 = 0 /\ 0 = 0) /\ True) /\ ((94 = 94 /\ bs (changeR x_1.snd).snd.rest = bs y.snd.rest /\ (changeR x_1.snd).snd.bad
 = y.snd.bad /\ True) /\ (64 = 64 /\ x.fst.kind = x.fst.kind /\ x.fst.node = x.fst.node /\ x.fst.to = x.fst.to /\ x.fst.n = x.fst.n /\ Value.slice none (0 : Nat) (0 :
 Nat) = Value.slice none (0 : Nat) (0 : Nat) /\ Value.slice none (0 : Nat) (0 : Nat) = Value.slice none (0 : Nat) (0 : Nat) /\ bs x.fst.branch = bs x.fst.branch /\
 Value.slice none (0 : Nat) (0 : Nat) = Value.slice none (0 : Nat) (0 : Nat) /\ (True /\ 0 = 0 /\ x_1.fst.length + (1 : Nat) = y.fst.length) /\ x.fst.author =
 x.fst.author /\ bs x.fst.note = bs x.fst.note /\ x.fst.ck = x.fst.ck /\ x.fst.client = x.fst.client /\ x.fst.seq = x.fst.seq /\ bs x.fst.cbranch = bs x.fst.cbranch /\
 (IntKind.u8 = IntKind.u8 /\ 32 = 32 /\ ∀ (i : Nat), i < (32 : Nat) -> x.fst.old i = x.fst.old i) /\ (IntKind.u8 = IntKind.u8 /\ 32 = 32 /\ ∀ (i : Nat), i < (32 : Nat)
 -> x.fst.new i = x.fst.new i) /\ Value.slice none (0 : Nat) (0 : Nat) = Value.slice none (0 : Nat) (0 : Nat) /\ True) /\ (3 = 3 /\ 68 = 68 /\ y.fst.length.le
 (x_1.fst.length + (1 : Nat)) /\ ∀ (i : Nat), i < y.fst.length -> (if i < x_1.fst.length then AV.agg [sl (x_1.fst.getD i ([], false, [])).fst, bl (x_1.fst.getD i
 ([], false, [])).snd.fst, sl (x_1.fst.getD i ([], false, [])).snd.snd] else rowOf [((0 : Nat), AV.agg [sl (changeR x_1.snd).fst.fst, bl (changeR
 x_1.snd).fst.snd.fst, sl (changeR x_1.snd).fst.snd.snd])] ((0 : Nat) + (i - x_1.fst.length))) = AV.agg [sl (y.fst.getD i ([], false, [])).fst, bl (y.fst.getD i
 ([], false, [])).snd.fst, sl (y.fst.getD i ([], false, [])).snd.snd]) /\ True) /\ inv25 x y /\ (List.length y.snd.rest).succ.le (List.length x_1.snd.rest)) /\ (True
 /\ True) /\ (94 = 94 /\ (List.length x_1.snd.rest).le rlim) /\ (True /\ (((0 : Nat) + (1 : Nat)).le (1 : Nat) /\ x_1.fst.length = x_1.fst.length /\ (x_1.fst.length + (1
 : Nat)).le maxLen /\ ((x_1.fst.length + (1 : Nat)) * (40 : Nat)).le (140737488355328 : Nat)) /\ True /\ ∃ (y : List (Bs × Bool × Bs) × Rd), ((True /\ 0 = 0 /\ 0 = 0 /\
 0 = 0) /\ (True /\ 0 = 0 /\ 0 = 0 /\ 0 = 0) /\ True) /\ ((94 = 94 /\ bs (changeR x_1.snd).snd.rest = bs y.snd.rest /\ (changeR x_1.snd).snd.bad = y.snd.bad /\ True) /\ (64
 = 64 /\ x.fst.kind = x.fst.kind /\ x.fst.node = x.fst.node /\ x.fst.to = x.fst.to /\ x.fst.n = x.fst.n /\ Value.slice none (0 : Nat) (0 : Nat) = Value.slice none (0 :
 Nat) (0 : Nat) /\ Value.slice none (0 : Nat) (0 : Nat) = Value.slice none (0 : Nat) (0 : Nat) /\ bs x.fst.branch = bs x.fst.branch /\ Value.slice none (0 : Nat) (0
 : Nat) = Value.slice none (0 : Nat) (0 : Nat) /\ (True /\ 0 = 0 /\ x_1.fst.length + (1 : Nat) = y.fst.length) /\ x.fst.author = x.fst.author /\ bs x.fst.note = bs
 x.fst.note /\ x.fst.ck = x.fst.ck /\ x.fst.client = x.fst.client /\ x.fst.seq = x.fst.seq /\ bs x.fst.cbranch = bs x.fst.cbranch /\ (IntKind.u8 = IntKind.u8 /\ 32 = 32
 /\ ∀ (i : Nat), i < (32 : Nat) -> x.fst.old i = x.fst.old i) /\ (IntKind.u8 = IntKind.u8 /\ 32 = 32 /\ ∀ (i : Nat), i < (32 : Nat) -> x.fst.new i = x.fst.new i) /\
 Value.slice none (0 : Nat) (0 : Nat) = Value.slice none (0 : Nat) (0 : Nat) /\ True) /\ (3 = 3 /\ 68 = 68 /\ y.fst.length.le (x_1.fst.length + (1 : Nat)) /\ ∀ (i :
 Nat), i < y.fst.length -> (if i < x_1.fst.length then AV.agg [sl (x_1.fst.getD i ([], false, [])).fst, bl (x_1.fst.getD i ([], false, [])).snd.fst, sl
 (x_1.fst.getD i ([], false, [])).snd.snd] else rowOf [((0 : Nat), AV.agg [sl (changeR x_1.snd).fst.fst, bl (changeR x_1.snd).fst.snd.fst, sl (changeR
 x_1.snd).fst.snd.snd])] ((0 : Nat) + (i - x_1.fst.length))) = AV.agg [sl (y.fst.getD i ([], false, [])).fst, bl (y.fst.getD i ([], false, [])).snd.fst, sl
 (y.fst.getD i ([], false, [])).snd.snd]) /\ True) /\ inv25 x y /\ (List.length y.snd.rest).succ.le (List.length x_1.snd.rest)) /\ True /\ (((0 : Nat) + (1 : Nat)).le
 (1 : Nat) /\ x_1.fst.length = x_1.fst.length /\ (x_1.fst.length + (1 : Nat)).le maxLen /\ ((x_1.fst.length + (1 : Nat)) * (40 : Nat)).le (140737488355328 : Nat)) /\
 True /\ ∃ (y : List (Bs × Bool × Bs) × Rd), ((True /\ 0 = 0 /\ 0 = 0 /\ 0 = 0) /\ (True /\ 0 = 0 /\ 0 = 0 /\ 0 = 0) /\ True) /\ ((94 = 94 /\ bs (changeR x_1.snd).snd.rest =
 bs y.snd.rest /\ (changeR x_1.snd).snd.bad = y.snd.bad /\ True) /\ (64 = 64 /\ x.fst.kind = x.fst.kind /\ x.fst.node = x.fst.node /\ x.fst.to = x.fst.to /\ x.fst.n =
 x.fst.n /\ Value.slice none (0 : Nat) (0 : Nat) = Value.slice none (0 : Nat) (0 : Nat) /\ Value.slice none (0 : Nat) (0 : Nat) = Value.slice none (0 : Nat) (0 :
 Nat) /\ bs x.fst.branch = bs x.fst.branch /\ Value.slice none (0 : Nat) (0 : Nat) = Value.slice none (0 : Nat) (0 : Nat) /\ (True /\ 0 = 0 /\ x_1.fst.length + (1 :
 Nat) = y.fst.length) /\ x.fst.author = x.fst.author /\ bs x.fst.note = bs x.fst.note /\ x.fst.ck = x.fst.ck /\ x.fst.client = x.fst.client /\ x.fst.seq = x.fst.seq /\
 bs x.fst.cbranch = bs x.fst.cbranch /\ (IntKind.u8 = IntKind.u8 /\ 32 = 32 /\ ∀ (i : Nat), i < (32 : Nat) -> x.fst.old i = x.fst.old i) /\ (IntKind.u8 = IntKind.u8 /\
 32 = 32 /\ ∀ (i : Nat), i < (32 : Nat) -> x.fst.new i = x.fst.new i) /\ Value.slice none (0 : Nat) (0 : Nat) = Value.slice none (0 : Nat) (0 : Nat) /\ True) /\ (3 = 3
 /\ 68 = 68 /\ y.fst.length.le (x_1.fst.length + (1 : Nat)) /\ ∀ (i : Nat), i < y.fst.length -> (if i < x_1.fst.length then AV.agg [sl (x_1.fst.getD i ([], false,
 [])).fst, bl (x_1.fst.getD i ([], false, [])).snd.fst, sl (x_1.fst.getD i ([], false, [])).snd.snd] else rowOf [((0 : Nat), AV.agg [sl (changeR x_1.snd).fst.fst,
 bl (changeR x_1.snd).fst.snd.fst, sl (changeR x_1.snd).fst.snd.snd])] ((0 : Nat) + (i - x_1.fst.length))) = AV.agg [sl (y.fst.getD i ([], false, [])).fst, bl
 (y.fst.getD i ([], false, [])).snd.fst, sl (y.fst.getD i ([], false, [])).snd.snd]) /\ True) /\ inv25 x y /\ (List.length y.snd.rest).succ.le (List.length
 x_1.snd.rest)) /\ (moreR x_1.snd = false -> ∃ (x_2 : Ev × Rd), ((True /\ 0 = 0 /\ 0 = 0 /\ 0 = 0) /\ (True /\ 0 = 0 /\ 0 = 0 /\ 0 = 0) /\ True) /\ ((94 = 94 /\ bs
 x_1.snd.rest = bs x_2.snd.rest /\ x_1.snd.bad = x_2.snd.bad /\ True) /\ (64 = 64 /\ x.fst.kind = x_2.fst.kind /\ x.fst.node = x_2.fst.node /\ x.fst.to = x_2.fst.to /\
 x.fst.n = x_2.fst.n /\ (True /\ True /\ 0 = 0 /\ x_2.fst.keep.length = (0 : Nat)) /\ (True /\ True /\ 0 = 0 /\ x_2.fst.conf.length = (0 : Nat)) /\ bs x.fst.branch = bs
 x_2.fst.branch /\ (True /\ True /\ 0 = 0 /\ x_2.fst.map.length = (0 : Nat)) /\ (True /\ 0 = 0 /\ x_1.fst.length = x_2.fst.edit.length) /\ x.fst.author = x_2.fst.author /\
 bs x.fst.note = bs x_2.fst.note /\ x.fst.ck = x_2.fst.ck /\ x.fst.client = x_2.fst.client /\ x.fst.seq = x_2.fst.seq /\ bs x.fst.cbranch = bs x_2.fst.cbranch /\
 (IntKind.u8 = IntKind.u8 /\ 32 = 32 /\ ∀ (i : Nat), i < (32 : Nat) -> x.fst.old i = x_2.fst.old i) /\ (IntKind.u8 = IntKind.u8 /\ 32 = 32 /\ ∀ (i : Nat), i < (32 :
 Nat) -> x.fst.new i = x_2.fst.new i) /\ Value.slice none (0 : Nat) (0 : Nat) = Value.slice none (0 : Nat) (0 : Nat) /\ True) /\ x_2.fst.keep.length = (0 : Nat) /\
 x_2.fst.conf.length = (0 : Nat) /\ x_2.fst.map.length = (0 : Nat) /\ (3 = 3 /\ 68 = 68 /\ x_2.fst.edit.length.le x_1.fst.length /\ ∀ (i : Nat), i <
 x_2.fst.edit.length -> AV.agg [sl (x_1.fst.getD i ([], false, [])).fst, bl (x_1.fst.getD i ([], false, [])).snd.fst, sl (x_1.fst.getD i ([], false, [])).snd.snd]
 = AV.agg [sl (x_2.fst.edit.getD i ([], false, [])).fst, bl (x_2.fst.edit.getD i ([], false, [])).snd.fst, sl (x_2.fst.edit.getD i ([], false, [])).snd.snd]) /\
 True) /\ inv32 x x_2)) /\ ((x.fst.kind == (13 : Int)) = false -> ((x.fst.kind == (14 : Int)) = true -> (True /\ True) /\ (94 = 94 /\ (List.length x.snd.rest).le rlim) /\
 True /\ (True /\ True) /\ (94 = 94 /\ (List.length (textR x.snd).snd.rest).le rlim) /\ (List.length (blankR (textR x.snd).snd).fst).le rlim /\ True /\ True /\ True /\
 True /\ ∃ (x_1 : Ev × Rd), ((True /\ 0 = 0 /\ 0 = 0 /\ 0 = 0) /\ (True /\ 0 = 0 /\ 0 = 0 /\ 0 = 0) /\ True) /\ ((94 = 94 /\ bs (blankR (textR x.snd).snd).snd.rest = bs
 x_1.snd.rest /\ (bif (blankR (textR x.snd).snd).snd.bad then true else idE (blankR (textR x.snd).snd).fst != (0 : Int)) = x_1.snd.bad /\ True) /\ (64 = 64 /\
 x.fst.kind = x_1.fst.kind /\ x.fst.node = x_1.fst.node /\ x.fst.to = x_1.fst.to /\ x.fst.n = x_1.fst.n /\ (True /\ True /\ 0 = 0 /\ x_1.fst.keep.length = (0 : Nat)) /\
 (True /\ True /\ 0 = 0 /\ x_1.fst.conf.length = (0 : Nat)) /\ bs x.fst.branch = bs x_1.fst.branch /\ (True /\ True /\ 0 = 0 /\ x_1.fst.map.length = (0 : Nat)) /\ (True /\
 True /\ 0 = 0 /\ x_1.fst.edit.length = (0 : Nat)) /\ x.fst.author = x_1.fst.author /\ bs x.fst.note = bs x_1.fst.note /\ x.fst.ck = x_1.fst.ck /\ x.fst.client =
 x_1.fst.client /\ x.fst.seq = x_1.fst.seq /\ bs (textR x.snd).fst = bs x_1.fst.cbranch /\ (IntKind.u8 = IntKind.u8 /\ 32 = 32 /\ ∀ (i : Nat), i < (32 : Nat) ->
 x.fst.old i = x_1.fst.old i) /\ (IntKind.u8 = IntKind.u8 /\ 32 = 32 /\ ∀ (i : Nat), i < (32 : Nat) -> (idR (blankR (textR x.snd).snd).fst).fst i = x_1.fst.new i) /\
 Value.slice none (0 : Nat) (0 : Nat) = Value.slice none (0 : Nat) (0 : Nat) /\ True) /\ x_1.fst.keep.length = (0 : Nat) /\ x_1.fst.conf.length = (0 : Nat) /\
 x_1.fst.map.length = (0 : Nat) /\ x_1.fst.edit.length = (0 : Nat) /\ True) /\ inv32 x x_1) /\ ((x.fst.kind == (14 : Int)) = false -> ∃ (x_1 : Ev × Rd), ((True /\ 0 = 0
 /\ 0 = 0 /\ 0 = 0) /\ (True /\ 0 = 0 /\ 0 = 0 /\ 0 = 0) /\ True) /\ ((94 = 94 /\ bs x.snd.rest = bs x_1.snd.rest /\ x.snd.bad = x_1.snd.bad /\ True) /\ (64 = 64 /\ x.fst.kind
 = x_1.fst.kind /\ x.fst.node = x_1.fst.node /\ x.fst.to = x_1.fst.to /\ x.fst.n = x_1.fst.n /\ (True /\ True /\ 0 = 0 /\ x_1.fst.keep.length = (0 : Nat)) /\ (True /\ True
 /\ 0 = 0 /\ x_1.fst.conf.length = (0 : Nat)) /\ bs x.fst.branch = bs x_1.fst.branch /\ (True /\ True /\ 0 = 0 /\ x_1.fst.map.length = (0 : Nat)) /\ (True /\ True /\ 0 = 0
 /\ x_1.fst.edit.length = (0 : Nat)) /\ x.fst.author = x_1.fst.author /\ bs x.fst.note = bs x_1.fst.note /\ x.fst.ck = x_1.fst.ck /\ x.fst.client = x_1.fst.client /\
 x.fst.seq = x_1.fst.seq /\ bs x.fst.cbranch = bs x_1.fst.cbranch /\ (IntKind.u8 = IntKind.u8 /\ 32 = 32 /\ ∀ (i : Nat), i < (32 : Nat) -> x.fst.old i = x_1.fst.old i)
 /\ (IntKind.u8 = IntKind.u8 /\ 32 = 32 /\ ∀ (i : Nat), i < (32 : Nat) -> x.fst.new i = x_1.fst.new i) /\ Value.slice none (0 : Nat) (0 : Nat) = Value.slice none (0 :
 Nat) (0 : Nat) /\ True) /\ x_1.fst.keep.length = (0 : Nat) /\ x_1.fst.conf.length = (0 : Nat) /\ x_1.fst.map.length = (0 : Nat) /\ x_1.fst.edit.length = (0 : Nat) /\
 True) /\ inv32 x x_1))))))) /\ ∀ (x_1 : Ev × Rd), inv32 x x_1 -> (gEq x_1.snd.bad false = true -> ((True /\ True /\ True /\ True /\ ((0 : Nat) + x_1.fst.keep.length).le
 x_1.fst.keep.length /\ ((0 : Nat) + x_1.fst.conf.length).le x_1.fst.conf.length /\ True /\ ((0 : Nat) + x_1.fst.map.length).le x_1.fst.map.length /\ ((0 : Nat) +
 x_1.fst.edit.length).le x_1.fst.edit.length /\ True /\ True /\ True /\ True /\ True /\ True /\ True /\ True /\ True /\ True) /\ True) /\ ∃ (e : Ev), IsEv (AV.agg [nm
 x_1.fst.kind, nm x_1.fst.node, nm x_1.fst.to, nm x_1.fst.n, AV.rows 1 x_1.fst.keep.length fun (i : Nat) => bl (x_1.fst.keep.getD ((0 : Nat) + i) false), AV.rows
 1 x_1.fst.conf.length fun (i : Nat) => nm (x_1.fst.conf.getD ((0 : Nat) + i) (0 : Int)), sl x_1.fst.branch, AV.rows 2 x_1.fst.map.length fun (i : Nat) => AV.agg
 [sl (x_1.fst.map.getD ((0 : Nat) + i) ([], [])).fst, sl (x_1.fst.map.getD ((0 : Nat) + i) ([], [])).snd], AV.rows 3 x_1.fst.edit.length fun (i : Nat) => AV.agg
 [sl (x_1.fst.edit.getD ((0 : Nat) + i) ([], false, [])).fst, bl (x_1.fst.edit.getD ((0 : Nat) + i) ([], false, [])).snd.fst, sl (x_1.fst.edit.getD ((0 : Nat) +
 i) ([], false, [])).snd.snd], AV.pl (Value.int IntKind.u32 x_1.fst.author), sl x_1.fst.note, nm x_1.fst.ck, nm x_1.fst.client, AV.pl (Value.int IntKind.u32
 x_1.fst.seq), sl x_1.fst.cbranch, AV.iarr IntKind.u8 32 x_1.fst.old, AV.iarr IntKind.u8 32 x_1.fst.new, nilS]) e /\ True /\ True /\ true = true /\ True /\ True /\
 (True /\ True) /\ (True /\ True /\ True /\ True /\ ((0 : Nat) + x_1.fst.keep.length).le x_1.fst.keep.length /\ ((0 : Nat) + x_1.fst.conf.length).le x_1.fst.conf.length
 /\ True /\ ((0 : Nat) + x_1.fst.map.length).le x_1.fst.map.length /\ ((0 : Nat) + x_1.fst.edit.length).le x_1.fst.edit.length /\ True /\ True /\ True /\ True /\ True /\
 True /\ True /\ True /\ True /\ True) /\ ∃ (x : Unit), ((x_1.fst.kind = (eventR w (Rd.mk l b)).fst.kind /\ x_1.fst.node = (eventR w (Rd.mk l b)).fst.node /\ x_1.fst.to
 = (eventR w (Rd.mk l b)).fst.to /\ x_1.fst.n = (eventR w (Rd.mk l b)).fst.n /\ (1 = 1 /\ x_1.fst.keep.length = (eventR w (Rd.mk l b)).fst.keep.length /\ ∀ (i : Nat),
 i < x_1.fst.keep.length -> bl (x_1.fst.keep.getD ((0 : Nat) + i) false) = bl ((eventR w (Rd.mk l b)).fst.keep.getD i false)) /\ (1 = 1 /\ x_1.fst.conf.length =
 (eventR w (Rd.mk l b)).fst.conf.length /\ ∀ (i : Nat), i < x_1.fst.conf.length -> nm (x_1.fst.conf.getD ((0 : Nat) + i) (0 : Int)) = nm ((eventR w (Rd.mk l
 b)).fst.conf.getD i (0 : Int))) /\ bs x_1.fst.branch = bs (eventR w (Rd.mk l b)).fst.branch /\ (2 = 2 /\ x_1.fst.map.length = (eventR w (Rd.mk l b)).fst.map.length
 /\ ∀ (i : Nat), i < x_1.fst.map.length -> AV.agg [sl (x_1.fst.map.getD ((0 : Nat) + i) ([], [])).fst, sl (x_1.fst.map.getD ((0 : Nat) + i) ([], [])).snd] = AV.agg
 [sl ((eventR w (Rd.mk l b)).fst.map.getD i ([], [])).fst, sl ((eventR w (Rd.mk l b)).fst.map.getD i ([], [])).snd]) /\ (3 = 3 /\ x_1.fst.edit.length = (eventR w
 (Rd.mk l b)).fst.edit.length /\ ∀ (i : Nat), i < x_1.fst.edit.length -> AV.agg [sl (x_1.fst.edit.getD ((0 : Nat) + i) ([], false, [])).fst, bl (x_1.fst.edit.getD
 ((0 : Nat) + i) ([], false, [])).snd.fst, sl (x_1.fst.edit.getD ((0 : Nat) + i) ([], false, [])).snd.snd] = AV.agg [sl ((eventR w (Rd.mk l b)).fst.edit.getD i
 ([], false, [])).fst, bl ((eventR w (Rd.mk l b)).fst.edit.getD i ([], false, [])).snd.fst, sl ((eventR w (Rd.mk l b)).fst.edit.getD i ([], false, [])).snd.snd])
 /\ x_1.fst.author = (eventR w (Rd.mk l b)).fst.author /\ bs x_1.fst.note = bs (eventR w (Rd.mk l b)).fst.note /\ x_1.fst.ck = (eventR w (Rd.mk l b)).fst.ck /\
 x_1.fst.client = (eventR w (Rd.mk l b)).fst.client /\ x_1.fst.seq = (eventR w (Rd.mk l b)).fst.seq /\ bs x_1.fst.cbranch = bs (eventR w (Rd.mk l b)).fst.cbranch /\
 (IntKind.u8 = IntKind.u8 /\ 32 = 32 /\ ∀ (i : Nat), i < (32 : Nat) -> x_1.fst.old i = (eventR w (Rd.mk l b)).fst.old i) /\ (IntKind.u8 = IntKind.u8 /\ 32 = 32 /\ ∀ (i
 : Nat), i < (32 : Nat) -> x_1.fst.new i = (eventR w (Rd.mk l b)).fst.new i) /\ (True /\ List.length (eventR w (Rd.mk l b)).fst.data = (0 : Nat)) /\ True) /\ True) /\
 ((94 = 94 /\ bs x_1.snd.rest = bs (eventR w (Rd.mk l b)).snd.rest /\ (bif false then true else wrongE e) = (eventR w (Rd.mk l b)).snd.bad /\ True) /\ True) /\ R
 (AV.agg [nm (eventR w (Rd.mk l b)).fst.kind, nm (eventR w (Rd.mk l b)).fst.node, nm (eventR w (Rd.mk l b)).fst.to, nm (eventR w (Rd.mk l b)).fst.n, AV.rows 1
 (eventR w (Rd.mk l b)).fst.keep.length (boolF (eventR w (Rd.mk l b)).fst.keep), AV.rows 1 (eventR w (Rd.mk l b)).fst.conf.length (intF (eventR w (Rd.mk l
 b)).fst.conf), sl (eventR w (Rd.mk l b)).fst.branch, AV.rows 2 (eventR w (Rd.mk l b)).fst.map.length (rowF (eventR w (Rd.mk l b)).fst.map), AV.rows 3 (eventR w
 (Rd.mk l b)).fst.edit.length (chgF (eventR w (Rd.mk l b)).fst.edit), AV.pl (Value.int IntKind.u32 (eventR w (Rd.mk l b)).fst.author), sl (eventR w (Rd.mk l
 b)).fst.note, nm (eventR w (Rd.mk l b)).fst.ck, nm (eventR w (Rd.mk l b)).fst.client, AV.pl (Value.int IntKind.u32 (eventR w (Rd.mk l b)).fst.seq), sl (eventR w
 (Rd.mk l b)).fst.cbranch, AV.iarr IntKind.u8 32 (eventR w (Rd.mk l b)).fst.old, AV.iarr IntKind.u8 32 (eventR w (Rd.mk l b)).fst.new, AV.rows 1 (List.length
 (eventR w (Rd.mk l b)).fst.data) (byteF (bs (eventR w (Rd.mk l b)).fst.data))]) [LObj.box 94 [sl (eventR w (Rd.mk l b)).snd.rest, bl (eventR w (Rd.mk l
 b)).snd.bad]]) /\ (gEq x_1.snd.bad false = false -> true = true /\ True /\ True /\ (True /\ True) /\ (True /\ True /\ True /\ True /\ ((0 : Nat) + x_1.fst.keep.length).le
 x_1.fst.keep.length /\ ((0 : Nat) + x_1.fst.conf.length).le x_1.fst.conf.length /\ True /\ ((0 : Nat) + x_1.fst.map.length).le x_1.fst.map.length /\ ((0 : Nat) +
 x_1.fst.edit.length).le x_1.fst.edit.length /\ True /\ True /\ True /\ True /\ True /\ True /\ True /\ True /\ True /\ True) /\ ∃ (x : Unit), ((x_1.fst.kind = (eventR w
 (Rd.mk l b)).fst.kind /\ x_1.fst.node = (eventR w (Rd.mk l b)).fst.node /\ x_1.fst.to = (eventR w (Rd.mk l b)).fst.to /\ x_1.fst.n = (eventR w (Rd.mk l b)).fst.n /\
 (1 = 1 /\ x_1.fst.keep.length = (eventR w (Rd.mk l b)).fst.keep.length /\ ∀ (i : Nat), i < x_1.fst.keep.length -> bl (x_1.fst.keep.getD ((0 : Nat) + i) false) = bl
 ((eventR w (Rd.mk l b)).fst.keep.getD i false)) /\ (1 = 1 /\ x_1.fst.conf.length = (eventR w (Rd.mk l b)).fst.conf.length /\ ∀ (i : Nat), i < x_1.fst.conf.length ->
 nm (x_1.fst.conf.getD ((0 : Nat) + i) (0 : Int)) = nm ((eventR w (Rd.mk l b)).fst.conf.getD i (0 : Int))) /\ bs x_1.fst.branch = bs (eventR w (Rd.mk l
 b)).fst.branch /\ (2 = 2 /\ x_1.fst.map.length = (eventR w (Rd.mk l b)).fst.map.length /\ ∀ (i : Nat), i < x_1.fst.map.length -> AV.agg [sl (x_1.fst.map.getD ((0 :
 Nat) + i) ([], [])).fst, sl (x_1.fst.map.getD ((0 : Nat) + i) ([], [])).snd] = AV.agg [sl ((eventR w (Rd.mk l b)).fst.map.getD i ([], [])).fst, sl ((eventR w
 (Rd.mk l b)).fst.map.getD i ([], [])).snd]) /\ (3 = 3 /\ x_1.fst.edit.length = (eventR w (Rd.mk l b)).fst.edit.length /\ ∀ (i : Nat), i < x_1.fst.edit.length ->
 AV.agg [sl (x_1.fst.edit.getD ((0 : Nat) + i) ([], false, [])).fst, bl (x_1.fst.edit.getD ((0 : Nat) + i) ([], false, [])).snd.fst, sl (x_1.fst.edit.getD ((0 :
 Nat) + i) ([], false, [])).snd.snd] = AV.agg [sl ((eventR w (Rd.mk l b)).fst.edit.getD i ([], false, [])).fst, bl ((eventR w (Rd.mk l b)).fst.edit.getD i ([],
 false, [])).snd.fst, sl ((eventR w (Rd.mk l b)).fst.edit.getD i ([], false, [])).snd.snd]) /\ x_1.fst.author = (eventR w (Rd.mk l b)).fst.author /\ bs x_1.fst.note
 = bs (eventR w (Rd.mk l b)).fst.note /\ x_1.fst.ck = (eventR w (Rd.mk l b)).fst.ck /\ x_1.fst.client = (eventR w (Rd.mk l b)).fst.client /\ x_1.fst.seq = (eventR w
 (Rd.mk l b)).fst.seq /\ bs x_1.fst.cbranch = bs (eventR w (Rd.mk l b)).fst.cbranch /\ (IntKind.u8 = IntKind.u8 /\ 32 = 32 /\ ∀ (i : Nat), i < (32 : Nat) ->
 x_1.fst.old i = (eventR w (Rd.mk l b)).fst.old i) /\ (IntKind.u8 = IntKind.u8 /\ 32 = 32 /\ ∀ (i : Nat), i < (32 : Nat) -> x_1.fst.new i = (eventR w (Rd.mk l
 b)).fst.new i) /\ (True /\ List.length (eventR w (Rd.mk l b)).fst.data = (0 : Nat)) /\ True) /\ True) /\ ((94 = 94 /\ bs x_1.snd.rest = bs (eventR w (Rd.mk l
 b)).snd.rest /\ true = (eventR w (Rd.mk l b)).snd.bad /\ True) /\ True) /\ R (AV.agg [nm (eventR w (Rd.mk l b)).fst.kind, nm (eventR w (Rd.mk l b)).fst.node, nm
 (eventR w (Rd.mk l b)).fst.to, nm (eventR w (Rd.mk l b)).fst.n, AV.rows 1 (eventR w (Rd.mk l b)).fst.keep.length (boolF (eventR w (Rd.mk l b)).fst.keep), AV.rows
 1 (eventR w (Rd.mk l b)).fst.conf.length (intF (eventR w (Rd.mk l b)).fst.conf), sl (eventR w (Rd.mk l b)).fst.branch, AV.rows 2 (eventR w (Rd.mk l
 b)).fst.map.length (rowF (eventR w (Rd.mk l b)).fst.map), AV.rows 3 (eventR w (Rd.mk l b)).fst.edit.length (chgF (eventR w (Rd.mk l b)).fst.edit), AV.pl
 (Value.int IntKind.u32 (eventR w (Rd.mk l b)).fst.author), sl (eventR w (Rd.mk l b)).fst.note, nm (eventR w (Rd.mk l b)).fst.ck, nm (eventR w (Rd.mk l
 b)).fst.client, AV.pl (Value.int IntKind.u32 (eventR w (Rd.mk l b)).fst.seq), sl (eventR w (Rd.mk l b)).fst.cbranch, AV.iarr IntKind.u8 32 (eventR w (Rd.mk l
 b)).fst.old, AV.iarr IntKind.u8 32 (eventR w (Rd.mk l b)).fst.new, AV.rows 1 (List.length (eventR w (Rd.mk l b)).fst.data) (byteF (bs (eventR w (Rd.mk l
 b)).fst.data))]) [LObj.box 94 [sl (eventR w (Rd.mk l b)).snd.rest, bl (eventR w (Rd.mk l b)).snd.bad]])) := by kernel_rfl
end Go.Proofs.Sd

namespace Go.Proofs.Sd
open Go Go.Am Go.SP
theorem vNums0 (l : Bs) (b : Bool) (R : AV -> List LObj -> Prop) :
  (vcA false false (List.length ([.box tyRd [sl l, bl b]] : List LObj)) [] Tryd.prog (mkTab []) (optC (Tryd.f30.body.getD .skip)) ([.unroll 1 1 true (fun _ => [])]) (finalKH Tryd.prog Tryd.f30 (R)) (startStH Tryd.f30 ([.box tyRd [sl l, bl b]]) ([.ptr 0 0 0 0, .pl (.slice none 0 0)]))) = (
 True /\ R (AV.tup []) [LObj.box 94 [sl l, bl b]]) := by kernel_rfl
theorem vNums1 (l : Bs) (b : Bool) (e : Ev) (R : AV -> List LObj -> Prop) :
  (vcA false false (List.length ([.box tyRd [sl l, bl b], .box tyEv (cellsZ e), .prow tyPI [.ptr 1 0 1 0, .ptr 1 0 3 0]] : List LObj)) [] Tryd.prog (mkTab [(44, .hand tkR TNumber)]) (optC (Tryd.f30.body.getD .skip)) ([.unroll 1 3 true (fun _ => [])]) (finalKH Tryd.prog Tryd.f30 (R)) (startStH Tryd.f30 ([.box tyRd [sl l, bl b], .box tyEv (cellsZ e), .prow tyPI [.ptr 1 0 1 0, .ptr 1 0 3 0]]) ([.ptr 0 0 0 0, .own 2 0 2]))) = (
 ((0 : Int) <= (0 : Int) /\ (0 : Int) + (1 : Int) <= (↑ (2 : Nat) : Int)) /\ True /\ (True /\ True) /\ (94 = 94 /\ (List.length l).le rlim) /\ True /\ ((0 : Int) ≤
 IntKind.i64.wrap ((0 : Int) + (1 : Int)) /\ IntKind.i64.wrap ((0 : Int) + (1 : Int)) + (1 : Int) <= (↑ (2 : Nat) : Int)) /\ True /\ (True /\ True) /\ (94 = 94 /\
 (List.length (numberR (Rd.mk l b)).snd.rest).le rlim) /\ True /\ True /\ R (AV.tup []) [LObj.box 94 [sl (numberR (numberR (Rd.mk l b)).snd).snd.rest, bl (numberR
 (numberR (Rd.mk l b)).snd).snd.bad], LObj.box 64 [nm e.kind, nm (numberR (Rd.mk l b)).fst, nm e.to, nm (numberR (numberR (Rd.mk l b)).snd).fst, nilS, nilS, sl
 e.branch, nilS, nilS, AV.pl (Value.int IntKind.u32 e.author), sl e.note, nm e.ck, nm e.client, AV.pl (Value.int IntKind.u32 e.seq), sl e.cbranch, AV.iarr
 IntKind.u8 32 e.old, AV.iarr IntKind.u8 32 e.new, nilS], LObj.prow 96 [AV.ptr 1 0 1 0, AV.ptr 1 0 3 0]]) := by kernel_rfl
theorem vNums2 (l : Bs) (b : Bool) (e : Ev) (R : AV -> List LObj -> Prop) :
  (vcA false false (List.length ([.box tyRd [sl l, bl b], .box tyEv (cellsZ e), .prow tyPI [.ptr 1 0 3 0]] : List LObj)) [] Tryd.prog (mkTab [(44, .hand tkR TNumber)]) (optC (Tryd.f30.body.getD .skip)) ([.unroll 1 3 true (fun _ => [])]) (finalKH Tryd.prog Tryd.f30 (R)) (startStH Tryd.f30 ([.box tyRd [sl l, bl b], .box tyEv (cellsZ e), .prow tyPI [.ptr 1 0 3 0]]) ([.ptr 0 0 0 0, .own 2 0 1]))) = (
 ((0 : Int) <= (0 : Int) /\ (0 : Int) + (1 : Int) <= (↑ (1 : Nat) : Int)) /\ True /\ (True /\ True) /\ (94 = 94 /\ (List.length l).le rlim) /\ True /\ True /\ R (AV.tup [])
 [LObj.box 94 [sl (numberR (Rd.mk l b)).snd.rest, bl (numberR (Rd.mk l b)).snd.bad], LObj.box 64 [nm e.kind, nm e.node, nm e.to, nm (numberR (Rd.mk l b)).fst,
 nilS, nilS, sl e.branch, nilS, nilS, AV.pl (Value.int IntKind.u32 e.author), sl e.note, nm e.ck, nm e.client, AV.pl (Value.int IntKind.u32 e.seq), sl e.cbranch,
 AV.iarr IntKind.u8 32 e.old, AV.iarr IntKind.u8 32 e.new, nilS], LObj.prow 96 [AV.ptr 1 0 3 0]]) := by kernel_rfl
theorem vNums3 (l : Bs) (b : Bool) (e : Ev) (R : AV -> List LObj -> Prop) :
  (vcA false false (List.length ([.box tyRd [sl l, bl b], .box tyEv (cellsZ e), .prow tyPI [.ptr 1 0 1 0, .ptr 1 0 2 0]] : List LObj)) [] Tryd.prog (mkTab [(44, .hand tkR TNumber)]) (optC (Tryd.f30.body.getD .skip)) ([.unroll 1 3 true (fun _ => [])]) (finalKH Tryd.prog Tryd.f30 (R)) (startStH Tryd.f30 ([.box tyRd [sl l, bl b], .box tyEv (cellsZ e), .prow tyPI [.ptr 1 0 1 0, .ptr 1 0 2 0]]) ([.ptr 0 0 0 0, .own 2 0 2]))) = (
 ((0 : Int) <= (0 : Int) /\ (0 : Int) + (1 : Int) <= (↑ (2 : Nat) : Int)) /\ True /\ (True /\ True) /\ (94 = 94 /\ (List.length l).le rlim) /\ True /\ ((0 : Int) ≤
 IntKind.i64.wrap ((0 : Int) + (1 : Int)) /\ IntKind.i64.wrap ((0 : Int) + (1 : Int)) + (1 : Int) <= (↑ (2 : Nat) : Int)) /\ True /\ (True /\ True) /\ (94 = 94 /\
 (List.length (numberR (Rd.mk l b)).snd.rest).le rlim) /\ True /\ True /\ R (AV.tup []) [LObj.box 94 [sl (numberR (numberR (Rd.mk l b)).snd).snd.rest, bl (numberR
 (numberR (Rd.mk l b)).snd).snd.bad], LObj.box 64 [nm e.kind, nm (numberR (Rd.mk l b)).fst, nm (numberR (numberR (Rd.mk l b)).snd).fst, nm e.n, nilS, nilS, sl
 e.branch, nilS, nilS, AV.pl (Value.int IntKind.u32 e.author), sl e.note, nm e.ck, nm e.client, AV.pl (Value.int IntKind.u32 e.seq), sl e.cbranch, AV.iarr
 IntKind.u8 32 e.old, AV.iarr IntKind.u8 32 e.new, nilS], LObj.prow 96 [AV.ptr 1 0 1 0, AV.ptr 1 0 2 0]]) := by kernel_rfl
theorem vNums4 (l : Bs) (b : Bool) (e : Ev) (R : AV -> List LObj -> Prop) :
  (vcA false false (List.length ([.box tyRd [sl l, bl b], .box tyEv (cellsZ e), .prow tyPI [.ptr 1 0 1 0]] : List LObj)) [] Tryd.prog (mkTab [(44, .hand tkR TNumber)]) (optC (Tryd.f30.body.getD .skip)) ([.unroll 1 3 true (fun _ => [])]) (finalKH Tryd.prog Tryd.f30 (R)) (startStH Tryd.f30 ([.box tyRd [sl l, bl b], .box tyEv (cellsZ e), .prow tyPI [.ptr 1 0 1 0]]) ([.ptr 0 0 0 0, .own 2 0 1]))) = (
 ((0 : Int) <= (0 : Int) /\ (0 : Int) + (1 : Int) <= (↑ (1 : Nat) : Int)) /\ True /\ (True /\ True) /\ (94 = 94 /\ (List.length l).le rlim) /\ True /\ True /\ R (AV.tup [])
 [LObj.box 94 [sl (numberR (Rd.mk l b)).snd.rest, bl (numberR (Rd.mk l b)).snd.bad], LObj.box 64 [nm e.kind, nm (numberR (Rd.mk l b)).fst, nm e.to, nm e.n, nilS,
 nilS, sl e.branch, nilS, nilS, AV.pl (Value.int IntKind.u32 e.author), sl e.note, nm e.ck, nm e.client, AV.pl (Value.int IntKind.u32 e.seq), sl e.cbranch,
 AV.iarr IntKind.u8 32 e.old, AV.iarr IntKind.u8 32 e.new, nilS], LObj.prow 96 [AV.ptr 1 0 1 0]]) := by kernel_rfl
theorem vNums5 (l : Bs) (b : Bool) (e : Ev) (R : AV -> List LObj -> Prop) :
  (vcA false false (List.length ([.box tyRd [sl l, bl b], .box tyEv (cellsZ e), .prow tyPI [.ptr 1 0 1 0, .ptr 1 0 11 0]] : List LObj)) [] Tryd.prog (mkTab [(44, .hand tkR TNumber)]) (optC (Tryd.f30.body.getD .skip)) ([.unroll 1 3 true (fun _ => [])]) (finalKH Tryd.prog Tryd.f30 (R)) (startStH Tryd.f30 ([.box tyRd [sl l, bl b], .box tyEv (cellsZ e), .prow tyPI [.ptr 1 0 1 0, .ptr 1 0 11 0]]) ([.ptr 0 0 0 0, .own 2 0 2]))) = (
 ((0 : Int) <= (0 : Int) /\ (0 : Int) + (1 : Int) <= (↑ (2 : Nat) : Int)) /\ True /\ (True /\ True) /\ (94 = 94 /\ (List.length l).le rlim) /\ True /\ ((0 : Int) ≤
 IntKind.i64.wrap ((0 : Int) + (1 : Int)) /\ IntKind.i64.wrap ((0 : Int) + (1 : Int)) + (1 : Int) <= (↑ (2 : Nat) : Int)) /\ True /\ (True /\ True) /\ (94 = 94 /\
 (List.length (numberR (Rd.mk l b)).snd.rest).le rlim) /\ True /\ True /\ R (AV.tup []) [LObj.box 94 [sl (numberR (numberR (Rd.mk l b)).snd).snd.rest, bl (numberR
 (numberR (Rd.mk l b)).snd).snd.bad], LObj.box 64 [nm e.kind, nm (numberR (Rd.mk l b)).fst, nm e.to, nm e.n, nilS, nilS, sl e.branch, nilS, nilS, AV.pl (Value.int
 IntKind.u32 e.author), sl e.note, nm (numberR (numberR (Rd.mk l b)).snd).fst, nm e.client, AV.pl (Value.int IntKind.u32 e.seq), sl e.cbranch, AV.iarr IntKind.u8
 32 e.old, AV.iarr IntKind.u8 32 e.new, nilS], LObj.prow 96 [AV.ptr 1 0 1 0, AV.ptr 1 0 11 0]]) := by kernel_rfl
theorem vNumsS (l : Bs) (b : Bool) (x y z : Int) (m k t m2 : Nat) (f : Nat -> AV) (R : AV -> List LObj -> Prop) :
  (vcA false false (List.length ([.box tyRd [sl l, bl b], .box tySc [nm x, nm y, nm z, .own 3 0 m], .prow tyPI [.ptr 1 0 0 0, .ptr 1 0 1 0, .ptr 1 0 2 0], .row k t m2 f] : List LObj)) [] Tryd.prog (mkTab [(44, .hand tkR TNumber)]) (optC (Tryd.f30.body.getD .skip)) ([.unroll 1 4 true (fun _ => [])]) (finalKH Tryd.prog Tryd.f30 (R)) (startStH Tryd.f30 ([.box tyRd [sl l, bl b], .box tySc [nm x, nm y, nm z, .own 3 0 m], .prow tyPI [.ptr 1 0 0 0, .ptr 1 0 1 0, .ptr 1 0 2 0], .row k t m2 f]) ([.ptr 0 0 0 0, .own 2 0 3]))) = (
 ((0 : Int) <= (0 : Int) /\ (0 : Int) + (1 : Int) <= (↑ (3 : Nat) : Int)) /\ True /\ (True /\ True) /\ (94 = 94 /\ (List.length l).le rlim) /\ True /\ ((0 : Int) ≤
 IntKind.i64.wrap ((0 : Int) + (1 : Int)) /\ IntKind.i64.wrap ((0 : Int) + (1 : Int)) + (1 : Int) <= (↑ (3 : Nat) : Int)) /\ True /\ (True /\ True) /\ (94 = 94 /\
 (List.length (numberR (Rd.mk l b)).snd.rest).le rlim) /\ True /\ ((0 : Int) <= IntKind.i64.wrap (IntKind.i64.wrap ((0 : Int) + (1 : Int)) + (1 : Int)) /\
 IntKind.i64.wrap (IntKind.i64.wrap ((0 : Int) + (1 : Int)) + (1 : Int)) + (1 : Int) <= (↑ (3 : Nat) : Int)) /\ True /\ (True /\ True) /\ (94 = 94 /\ (List.length
 (numberR (numberR (Rd.mk l b)).snd).snd.rest).le rlim) /\ True /\ True /\ R (AV.tup []) [LObj.box 94 [sl (numberR (numberR (numberR (Rd.mk l b)).snd).snd).snd.rest,
 bl (numberR (numberR (numberR (Rd.mk l b)).snd).snd).snd.bad], LObj.box 27 [nm (numberR (Rd.mk l b)).fst, nm (numberR (numberR (Rd.mk l b)).snd).fst, nm (numberR
 (numberR (numberR (Rd.mk l b)).snd).snd).fst, AV.own 3 0 m], LObj.prow 96 [AV.ptr 1 0 0 0, AV.ptr 1 0 1 0, AV.ptr 1 0 2 0], LObj.row k t m2 f]) := by kernel_rfl
theorem vChange (l : Bs) (b : Bool) (R : AV -> List LObj -> Prop) :
  (vcA false false (List.length ([.box tyRd [sl l, bl b]] : List LObj)) [] Tryd.prog (mkTab [(46, .hand tkR TText), (47, .lend TCutPre), (29, .hand tkR TBlank)]) (optC (Tryd.f49.body.getD .skip)) ([]) (finalKH Tryd.prog Tryd.f49 (fun y H => ∃ _ : Unit, leSt 1 ⟨[y], H⟩ ⟨[.agg [sl (changeR ⟨l, b⟩).1.1, bl (changeR ⟨l, b⟩).1.2.1, sl (changeR ⟨l, b⟩).1.2.2]], [rdO (changeR ⟨l, b⟩).2]⟩ (R (.agg [sl (changeR ⟨l, b⟩).1.1, bl (changeR ⟨l, b⟩).1.2.1, sl (changeR ⟨l, b⟩).1.2.2]) [rdO (changeR ⟨l, b⟩).2]))) (startStH Tryd.f49 ([.box tyRd [sl l, bl b]]) ([.ptr 0 0 0 0]))) = (
 True /\ (True /\ True) /\ (94 = 94 /\ (List.length l).le rlim) /\ True /\ True /\ ((gEq (([45] : Bs).isPrefixOf (textR (Rd.mk l b)).snd.rest) true && gEq ((bs (cutPre
 ([45] : Bs) (textR (Rd.mk l b)).snd.rest)).toList == (ByteArray.mk #[]).toList) false) = true -> ((0 : Int) <= (0 : Int) /\ (0 : Int) + (1 : Int) <= (↑ (List.length
 (cutPre ([45] : Bs) (textR (Rd.mk l b)).snd.rest)) : Int)) /\ True) /\ ((bif ([45] : Bs).isPrefixOf (textR (Rd.mk l b)).snd.rest then bif (bs (cutPre ([45] : Bs)
 (textR (Rd.mk l b)).snd.rest)).toList == (ByteArray.mk #[]).toList then true else (↑ ((cutPre ([45] : Bs) (textR (Rd.mk l b)).snd.rest).getD (Int.toNat (0 :
 Int)) (0 : UInt8)).toNat : Int) == (32 : Int) else false) = true -> (True /\ True) /\ (94 = 94 /\ (List.length (textR (Rd.mk l b)).snd.rest).le rlim) /\ True /\ True /\
 (True /\ True) /\ ∃ (x : Unit), ((bs (textR (Rd.mk l b)).fst = bs (changeR (Rd.mk l b)).fst.fst /\ false = (changeR (Rd.mk l b)).fst.snd.fst /\ ByteArray.mk #[] = bs
 (changeR (Rd.mk l b)).fst.snd.snd /\ True) /\ True) /\ ((94 = 94 /\ bs (blankR (textR (Rd.mk l b)).snd).snd.rest = bs (changeR (Rd.mk l b)).snd.rest /\ (blankR (textR
 (Rd.mk l b)).snd).snd.bad = (changeR (Rd.mk l b)).snd.bad /\ True) /\ True) /\ R (AV.agg [sl (changeR (Rd.mk l b)).fst.fst, bl (changeR (Rd.mk l b)).fst.snd.fst, sl
 (changeR (Rd.mk l b)).fst.snd.snd]) [LObj.box 94 [sl (changeR (Rd.mk l b)).snd.rest, bl (changeR (Rd.mk l b)).snd.bad]]) /\ ((bif ([45] : Bs).isPrefixOf (textR
 (Rd.mk l b)).snd.rest then bif (bs (cutPre ([45] : Bs) (textR (Rd.mk l b)).snd.rest)).toList == (ByteArray.mk #[]).toList then true else (↑ ((cutPre ([45] : Bs)
 (textR (Rd.mk l b)).snd.rest).getD (Int.toNat (0 : Int)) (0 : UInt8)).toNat : Int) == (32 : Int) else false) = false -> (True /\ True) /\ (94 = 94 /\ (List.length
 (textR (Rd.mk l b)).snd.rest).le rlim) /\ True /\ True /\ (True /\ True) /\ ∃ (x : Unit), ((bs (textR (Rd.mk l b)).fst = bs (changeR (Rd.mk l b)).fst.fst /\ true =
 (changeR (Rd.mk l b)).fst.snd.fst /\ bs (textR (textR (Rd.mk l b)).snd).fst = bs (changeR (Rd.mk l b)).fst.snd.snd /\ True) /\ True) /\ ((94 = 94 /\ bs (textR (textR
 (Rd.mk l b)).snd).snd.rest = bs (changeR (Rd.mk l b)).snd.rest /\ (textR (textR (Rd.mk l b)).snd).snd.bad = (changeR (Rd.mk l b)).snd.bad /\ True) /\ True) /\ R
 (AV.agg [sl (changeR (Rd.mk l b)).fst.fst, bl (changeR (Rd.mk l b)).fst.snd.fst, sl (changeR (Rd.mk l b)).fst.snd.snd]) [LObj.box 94 [sl (changeR (Rd.mk l
 b)).snd.rest, bl (changeR (Rd.mk l b)).snd.bad]])) := by kernel_rfl
theorem vIdP (l : Bs) (inv inv3 : Nat × Bool -> Prop) (inv2 : Nat × Bool -> Nat -> Prop) (R : AV -> List LObj -> Prop) :
  (vcA false false 0 [] Tryd.prog (mkTab []) (optC (Tryd.f50.body.getD .skip)) ([.cut 12 (Nat × Bool) inv3 (fun x => ⟨slotsOf 51 0 [(0, sl l), (2, .ptr 0 0 0 0), (3, nm 0), (4, .ptr 1 0 0 0), (5, bl x.2)], [.box 39 [.iarr .u8 32 z0], .box 39 [.iarr .u8 32 (idUp l x.1)]]⟩) (fun _ => []), .loop 4 (Nat × Bool) inv (fun x => ⟨slotsOf 51 0 [(0, sl l), (2, .ptr 0 0 0 0), (3, nm 0), (4, .ptr 1 0 0 0), (5, bl x.2), (13, .ptr 2 0 0 0)], [.box 39 [.iarr .u8 32 z0], .box 39 [.iarr .u8 32 (idUp l x.1)], .raw (.stringIter (bs l) x.1)]⟩) (fun x => l.length - x.1) (fun x => [.loop 7 Nat (inv2 x) (fun j => ⟨slotsOf 51 0 [(0, sl l), (2, .ptr 0 0 0 0), (3, nm 0), (4, .ptr 1 0 0 0), (5, bl x.2), (6, nm x.1), (7, .pl (.int .i32 (Utf8.decode (bs l) x.1).1)), (8, nm j), (13, .ptr 2 0 0 0)], [.box 39 [.iarr .u8 32 z0], .box 39 [.iarr .u8 32 (idUp l x.1)], .raw (.stringIter (bs l) (x.1 + (Utf8.decode (bs l) x.1).2))]⟩) (fun j => 16 - j) (fun _ => [])])]) (finalK Tryd.prog Tryd.f50 (fun y H => ∃ _ : Unit, leSt 0 ⟨[y], H⟩ ⟨[.tup [.agg [.iarr .u8 32 (idR l).1], nm (idE l)]], []⟩ (R (.tup [.agg [.iarr .u8 32 (idR l).1], nm (idE l)]) []))) (startSt Tryd.f50 ([sl l]))) = (
 True /\ True /\ ((∃ (x : Nat × Bool), (bs l = bs l /\ (True /\ 0 = 0 /\ 0 = 0 /\ 0 = 0) /\ (0 : Int) = (0 : Int) /\ (True /\ 0 = 0 /\ 0 = 0 /\ 0 = 0) /\ ((↑ (List.length l)
 : Int) == (64 : Int)) = x.snd /\ (True /\ 0 = 0 /\ 0 = 0 /\ 0 = 0) /\ True) /\ ((39 = 39 /\ (IntKind.u8 = IntKind.u8 /\ 32 = 32 /\ ∀ (i : Nat), i < (32 : Nat) -> (0 : Int)
 = z0 i) /\ True) /\ (39 = 39 /\ (IntKind.u8 = IntKind.u8 /\ 32 = 32 /\ ∀ (i : Nat), i < (32 : Nat) -> (0 : Int) = idUp l x.fst i) /\ True) /\ Obj.stringIter (bs l) (0 :
 Nat) = Obj.stringIter (bs l) x.fst /\ True) /\ inv x) /\ ∀ (x : Nat × Bool), inv x -> (x.fst < (List.length l) -> (true = true -> (∃ (x_1 : Nat), (bs l = bs l /\ (True
 /\ 0 = 0 /\ 0 = 0 /\ 0 = 0) /\ (0 : Int) = (0 : Int) /\ (True /\ 0 = 0 /\ 0 = 0 /\ 0 = 0) /\ x.snd = x.snd /\ (↑x.fst : Int) = (↑x.fst : Int) /\ (↑ (Utf8.decode (bs l)
 x.fst).fst : Int) = (↑ (Utf8.decode (bs l) x.fst).fst : Int) /\ (0 : Int) = (x_1 : Int) /\ (True /\ 0 = 0 /\ 0 = 0 /\ 0 = 0) /\ True) /\ ((39 = 39 /\ (IntKind.u8 =
 IntKind.u8 /\ 32 = 32 /\ ∀ (i : Nat), i < (32 : Nat) -> z0 i = z0 i) /\ True) /\ (39 = 39 /\ (IntKind.u8 = IntKind.u8 /\ 32 = 32 /\ ∀ (i : Nat), i < (32 : Nat) -> idUp l
 x.fst i = idUp l x.fst i) /\ True) /\ Obj.stringIter (bs l) (x.fst + (Utf8.decode (bs l) x.fst).snd) = Obj.stringIter (bs l) (x.fst + (Utf8.decode (bs l)
 x.fst).snd) /\ True) /\ inv2 x x_1) /\ ∀ (x_1 : Nat), inv2 x x_1 -> (gEq (decide ((x_1 : Int) < (16 : Int))) true = true -> ((0 : Int) <= (x_1 : Int) /\ (x_1 : Int)
 + (1 : Int) <= (↑ (ByteArray.mk #[48, 49, 50, 51, 52, 53, 54, 55, 56,
 57, 97, 98, 99, 100, 101, 102]).size : Int)) /\ True) /\ ((bif decide ((x_1 : Int) < (16 :
 Int)) then IntKind.i32.wrap (↑ (([48, 49, 50, 51, 52, 53, 54, 55, 56, 57, 97, 98, 99, 100, 101, 102] : Bs).getD (x_1 : Int).toNat (0 : UInt8)).toNat : Int) !=
 (↑ (Utf8.decode (bs l) x.fst).fst : Int) else false) = true -> ∃ (y : Nat), (bs l = bs l /\ (True /\ 0 = 0 /\ 0 = 0 /\ 0 = 0) /\ (0 : Int) = (0 : Int) /\ (True /\ 0 = 0
 /\ 0 = 0 /\ 0 = 0) /\ x.snd = x.snd /\ (↑x.fst : Int) = (↑x.fst : Int) /\ (↑ (Utf8.decode (bs l) x.fst).fst : Int) = (↑ (Utf8.decode (bs l) x.fst).fst : Int) /\
 IntKind.i64.wrap ((x_1 : Int) + (1 : Int)) = (y : Int) /\ (True /\ 0 = 0 /\ 0 = 0 /\ 0 = 0) /\ True) /\ ((39 = 39 /\ (IntKind.u8 = IntKind.u8 /\ 32 = 32 /\ ∀ (i : Nat),
 i < (32 : Nat) -> z0 i = z0 i) /\ True) /\ (39 = 39 /\ (IntKind.u8 = IntKind.u8 /\ 32 = 32 /\ ∀ (i : Nat), i < (32 : Nat) -> idUp l x.fst i = idUp l x.fst i) /\ True) /\
 Obj.stringIter (bs l) (x.fst + (Utf8.decode (bs l) x.fst).snd) = Obj.stringIter (bs l) (x.fst + (Utf8.decode (bs l) x.fst).snd) /\ True) /\ inv2 x y /\ ((16 : Nat)
 - y).succ.le ((16 : Nat) - x_1)) /\ ((bif decide ((x_1 : Int) < (16 : Int)) then IntKind.i32.wrap (↑ (([48, 49, 50, 51, 52, 53, 54, 55, 56, 57, 97, 98, 99, 100,
 101, 102] : Bs).getD (x_1 : Int).toNat (0 : UInt8)).toNat : Int) != (↑ (Utf8.decode (bs l) x.fst).fst : Int) else false) = false -> ((!bif x.snd then decide
 ((x_1 : Int) < (16 : Int)) else false) = true -> ∃ (x_2 : Nat × Bool), (bs l = bs l /\ (True /\ 0 = 0 /\ 0 = 0 /\ 0 = 0) /\ (0 : Int) = (0 : Int) /\ (True /\ 0 = 0 /\ 0
 = 0 /\ 0 = 0) /\ (bif x.snd then decide ((x_1 : Int) < (16 : Int)) else false) = x_2.snd /\ True) /\ ((39 = 39 /\ (IntKind.u8 = IntKind.u8 /\ 32 = 32 /\ ∀ (i : Nat), i
 < (32 : Nat) -> z0 i = z0 i) /\ True) /\ (39 = 39 /\ (IntKind.u8 = IntKind.u8 /\ 32 = 32 /\ ∀ (i : Nat), i < (32 : Nat) -> idUp l x.fst i = idUp l x_2.fst i) /\ True) /\
 True) /\ inv3 x_2) /\ ((!bif x.snd then decide ((x_1 : Int) < (16 : Int)) else false) = false -> ((0 : Int) <= IntKind.i64.wrap ((↑x.fst : Int).tdiv (Int.ofNat
 (nat_lit 1 + (1 : Nat)))) /\ IntKind.i64.wrap ((↑x.fst : Int).tdiv (Int.ofNat (nat_lit 1 + (1 : Nat)))) + (1 : Int) <= (↑ (32 : Nat) : Int)) /\ (IntKind.i64.wrap
 ((↑x.fst : Int).tdiv (Int.ofNat (nat_lit 1 + (1 : Nat))))).toNat.succ.le (32 : Nat) /\ ((0 : Int) <= IntKind.i64.wrap ((↑x.fst : Int).tdiv (Int.ofNat (nat_lit 1 +
 (1 : Nat)))) /\ IntKind.i64.wrap ((↑x.fst : Int).tdiv (Int.ofNat (nat_lit 1 + (1 : Nat)))) + (1 : Int) <= (↑ (32 : Nat) : Int)) /\ (IntKind.i64.wrap ((↑x.fst :
 Int).tdiv (Int.ofNat (nat_lit 1 + (1 : Nat))))).toNat.succ.le (32 : Nat) /\ ∃ (y : Nat × Bool), (bs l = bs l /\ (True /\ 0 = 0 /\ 0 = 0 /\ 0 = 0) /\ (0 : Int) = (0 :
 Int) /\ (True /\ 0 = 0 /\ 0 = 0 /\ 0 = 0) /\ (bif x.snd then decide ((x_1 : Int) < (16 : Int)) else false) = y.snd /\ (True /\ 0 = 0 /\ 0 = 0 /\ 0 = 0) /\ True) /\ ((39 =
 39 /\ (IntKind.u8 = IntKind.u8 /\ 32 = 32 /\ ∀ (i : Nat), i < (32 : Nat) -> z0 i = z0 i) /\ True) /\ (39 = 39 /\ (IntKind.u8 = IntKind.u8 /\ 32 = 32 /\ ∀ (i : Nat), i <
 (32 : Nat) -> (if i = (IntKind.i64.wrap ((↑x.fst : Int).tdiv (Int.ofNat (nat_lit 1 + (1 : Nat))))).toNat then IntKind.u8.wrap (IntKind.u8.wrap (idUp l x.fst
 (IntKind.i64.wrap ((↑x.fst : Int).tdiv (Int.ofNat (nat_lit 1 + (1 : Nat))))).toNat * (2 : Int) ^ min (nat_lit 4) IntKind.u8.bits) + IntKind.u8.wrap (x_1 : Int))
 else idUp l x.fst i) = idUp l y.fst i) /\ True) /\ Obj.stringIter (bs l) (x.fst + (Utf8.decode (bs l) x.fst).snd) = Obj.stringIter (bs l) y.fst /\ True) /\ inv y /\
 (List.length l - y.fst).succ.le (List.length l - x.fst)))) /\ (true = false -> ∃ (x_1 : Nat × Bool), (bs l = bs l /\ (True /\ 0 = 0 /\ 0 = 0 /\ 0 = 0) /\ (0 : Int) = (0
 : Int) /\ (True /\ 0 = 0 /\ 0 = 0 /\ 0 = 0) /\ x.snd = x_1.snd /\ True) /\ ((39 = 39 /\ (IntKind.u8 = IntKind.u8 /\ 32 = 32 /\ ∀ (i : Nat), i < (32 : Nat) -> z0 i = z0 i) /\
 True) /\ (39 = 39 /\ (IntKind.u8 = IntKind.u8 /\ 32 = 32 /\ ∀ (i : Nat), i < (32 : Nat) -> idUp l x.fst i = idUp l x_1.fst i) /\ True) /\ True) /\ inv3 x_1)) /\ (¬x.fst <
 (List.length l) -> (false = true -> False) /\ (false = false -> ∃ (x_1 : Nat × Bool), (bs l = bs l /\ (True /\ 0 = 0 /\ 0 = 0 /\ 0 = 0) /\ (0 : Int) = (0 : Int) /\ (True /\
 0 = 0 /\ 0 = 0 /\ 0 = 0) /\ x.snd = x_1.snd /\ True) /\ ((39 = 39 /\ (IntKind.u8 = IntKind.u8 /\ 32 = 32 /\ ∀ (i : Nat), i < (32 : Nat) -> z0 i = z0 i) /\ True) /\ (39 = 39
 /\ (IntKind.u8 = IntKind.u8 /\ 32 = 32 /\ ∀ (i : Nat), i < (32 : Nat) -> idUp l x.fst i = idUp l x_1.fst i) /\ True) /\ True) /\ inv3 x_1))) /\ ∀ (x : Nat × Bool), inv3
 x -> ((!x.snd) = true -> True /\ (True /\ True /\ True) /\ ((True /\ True) /\ True /\ True) /\ ∃ (x : Unit), ((((IntKind.u8 = IntKind.u8 /\ 32 = 32 /\ ∀ (i : Nat), i < (32 :
 Nat) -> (0 : Int) = (idR l).fst i) /\ True) /\ (130 : Int) = idE l /\ True) /\ True) /\ True /\ R (AV.tup [AV.agg [AV.iarr IntKind.u8 32 (idR l).fst], nm (idE l)]) [])
 /\ ((!x.snd) = false -> True /\ (True /\ True /\ True) /\ ((True /\ True) /\ True /\ True) /\ ∃ (x_1 : Unit), ((((IntKind.u8 = IntKind.u8 /\ 32 = 32 /\ ∀ (i : Nat), i < (32
 : Nat) -> idUp l x.fst i = (idR l).fst i) /\ True) /\ (0 : Int) = idE l /\ True) /\ True) /\ True /\ R (AV.tup [AV.agg [AV.iarr IntKind.u8 32 (idR l).fst], nm (idE l)])
 [])) := by kernel_rfl
theorem vIdT (f : Nat -> Int) (R : AV -> List LObj -> Prop) (inv : Nat -> Prop) :
  (vcA false false 0 [] Tryd.prog (mkTab []) (optC (Tryd.f20.body.getD .skip)) ([.loop 3 Nat inv (fun i => ⟨slotsOf 23 0 [(3, .own 0 0 (2 * i)), (7, .agg [.iarr .u8 32 f]), (8, nm i)], [.row 1 tyU8 (2 * i) (byteF (bs (idTk f i)))]⟩) (fun i => 32 - i) (fun _ => [])]) (finalK Tryd.prog Tryd.f20 (R)) (startSt Tryd.f20 ([.agg [.iarr .u8 32 f]]))) = (
 True /\ (0 : Int) <= (0 : Int) /\ (0 : Int) <= (64 : Int) /\ (↑ (1 : Nat) : Int) * (64 : Int) <= (281474976710656 : Int) /\ (64 : Int) <= (9223372036854775807 : Int) /\
 (∃ (x : Nat), ((True /\ 0 = 0 /\ (0 : Nat) = (2 : Nat) * x) /\ ((IntKind.u8 = IntKind.u8 /\ 32 = 32 /\ ∀ (i : Nat), i < (32 : Nat) -> f i = f i) /\ True) /\ (0 : Int) =
 (x : Int) /\ True) /\ ((1 = 1 /\ 5 = 5 /\ ((2 : Nat) * x).le (Int.toNat (0 : Int)) /\ ∀ (i : Nat), i < (2 : Nat) * x -> AV.pl (Value.int IntKind.u8 (0 : Int)) = AV.pl
 (Value.int IntKind.u8 (↑ ((idTk f x).getD i (0 : UInt8)).toNat : Int))) /\ True) /\ inv x) /\ ∀ (x : Nat), inv x -> (decide ((x : Int) < (32 : Int)) = true -> ((0 :
 Int) <= (x : Int) /\ (x : Int) + (1 : Int) <= (↑ (32 : Nat) : Int)) /\ ((0 : Int) <= IntKind.u8.wrap ((f (x : Int).toNat).tdiv (Int.ofNat (nat_lit 15 + (1 :
 Nat)))) /\ IntKind.u8.wrap ((f (x : Int).toNat).tdiv (Int.ofNat (nat_lit 15 + (1 : Nat)))) + (1 : Int) <= (↑ (ByteArray.mk #[48, 49, 50, 51, 52, 53, 54, 55, 56, 57, 97, 98, 99, 100, 101, 102]).size : Int)) /\ ((0 : Int) <= IntKind.u8.wrap ((f (x : Int).toNat).tdiv (Int.ofNat (nat_lit 15 + (1 : Nat)))) /\
 IntKind.u8.wrap ((f (x : Int).toNat).tdiv (Int.ofNat (nat_lit 15 + (1 : Nat)))) + (1 : Int) <= (↑ (ByteArray.mk #[48, 49, 50, 51, 52, 53, 54, 55, 56, 57, 97, 98, 99, 100, 101, 102]).size : Int)) /\ ((0 : Int) <= (f (x : Int).toNat).tmod (Int.ofNat (nat_lit 15 + (1 : Nat))) /\ (f (x : Int).toNat).tmod (Int.ofNat
 (nat_lit 15 + (1 : Nat))) + (1 : Int) <= (↑ (ByteArray.mk #[(48 : UInt8), (49 : UInt8), (50 : UInt8), (51 : UInt8), (52 : UInt8), (53 : UInt8), (54 : UInt8), (55
 : UInt8), (56 : UInt8), (57 : UInt8), (97 : UInt8), (98 : UInt8), (99 : UInt8), (100 : UInt8), (101 : UInt8), (102 : UInt8)]).size : Int)) /\ ((0 : Int) <= (f (↑x
 : Int).toNat).tmod (Int.ofNat (nat_lit 15 + (1 : Nat))) /\ (f (x : Int).toNat).tmod (Int.ofNat (nat_lit 15 + (1 : Nat))) + (1 : Int) <= (↑ (ByteArray.mk #[48, 49, 50, 51, 52, 53, 54, 55, 56, 57, 97, 98,
 99, 100, 101, 102]).size : Int)) /\ True /\ (((0 : Nat) + (2 : Nat)).le (2 : Nat) /\ (2 : Nat) * x = (2 : Nat) * x /\ ((2 :
 Nat) * x + (2 : Nat)).le maxLen /\ (((2 : Nat) * x + (2 : Nat)) * (1 : Nat)).le (140737488355328 : Nat)) /\ ∃ (y : Nat), ((True /\ 0 = 0 /\ (2 : Nat) * x + (2 : Nat)
 = (2 : Nat) * y) /\ ((IntKind.u8 = IntKind.u8 /\ 32 = 32 /\ ∀ (i : Nat), i < (32 : Nat) -> f i = f i) /\ True) /\ IntKind.i64.wrap ((x : Int) + (1 : Int)) = (↑y :
 Int) /\ True) /\ ((1 = 1 /\ 5 = 5 /\ ((2 : Nat) * y).le ((2 : Nat) * x + (2 : Nat)) /\ ∀ (i : Nat), i < (2 : Nat) * y -> (if i < (2 : Nat) * x then AV.pl (Value.int
 IntKind.u8 (↑ ((idTk f x).getD i (0 : UInt8)).toNat : Int)) else rowOf [((0 : Nat), AV.pl (Value.int IntKind.u8 (↑ (([48, 49, 50, 51, 52, 53, 54, 55, 56, 57, 97,
 98, 99, 100, 101, 102] : Bs).getD (IntKind.u8.wrap ((f (x : Int).toNat).tdiv (Int.ofNat (nat_lit 15 + (1 : Nat))))).toNat (0 : UInt8)).toNat : Int))), ((1 :
 Nat), AV.pl (Value.int IntKind.u8 (↑ (([48, 49, 50, 51, 52, 53, 54, 55, 56, 57, 97, 98, 99, 100, 101, 102] : Bs).getD ((f (x : Int).toNat).tmod (Int.ofNat
 (nat_lit 15 + (1 : Nat)))).toNat (0 : UInt8)).toNat : Int)))] ((0 : Nat) + (i - (2 : Nat) * x))) = AV.pl (Value.int IntKind.u8 (↑ ((idTk f y).getD i (0 :
 UInt8)).toNat : Int))) /\ True) /\ inv y /\ ((32 : Nat) - y).succ.le ((32 : Nat) - x)) /\ (decide ((x : Int) < (32 : Int)) = false -> ((0 : Nat) + (2 : Nat) * x).le
 ((2 : Nat) * x) /\ ∃ (bs : ByteArray), bs.size = (2 : Nat) * x /\ (∀ (i : Nat), i < (2 : Nat) * x -> AV.pl (Value.int IntKind.u8 (↑ ((SP.bs (idTk f
 x)).data.toList.getD ((0 : Nat) + i) (0 : UInt8)).toNat : Int)) = AV.pl (Value.int IntKind.u8 (↑ (bs.data.toList.getD i (0 : UInt8)).toNat : Int))) /\ (True /\
 True) /\ True /\ R (AV.pl (Value.string bs)) [])) := by kernel_rfl
end Go.Proofs.Sd

namespace Go.Proofs.Sd
open Go Go.Am Go.SP
theorem number_le (r : Rd) : (numberR r).2.rest.length <= r.rest.length := by
 have := blank_le r
 simp only [numberR]
 omega
theorem cutPre_le (p l : Bs) : (cutPre p l).length <= l.length := by
 unfold cutPre
 cases p.isPrefixOf l <;> simp
theorem text_le (r : Rd) : (textR r).2.rest.length <= r.rest.length := by
 unfold textR
 split
 ·rename_i b e hb
  have h1 := cutPre_le [34] r.rest
  have h2 := cutPre_le [32] ((cutPre [34] r.rest).drop (e + 1))
  simp only [textEnd]
  simp at h2
  omega
 ·simp
theorem w01 : IntKind.i64.wrap (0 + 1) = 1 := by decide
theorem w12 : IntKind.i64.wrap (1 + 1) = 2 := by decide
theorem cls_1 {k : Int} (h : clsK k = 1) : kNN k = true := by
 unfold clsK at h
 revert h
 cases kNN k <;> cases kN k <;> cases kNT k <;> cases k1 k <;> cases k == 14 <;> simp
theorem cls_2 {k : Int} (h : clsK k = 2) : kNN k = false /\ kN k = true := by
 unfold clsK at h
 revert h
 cases kNN k <;> cases kN k <;> cases kNT k <;> cases k1 k <;> cases k == 14 <;> simp
theorem cls_3 {k : Int} (h : clsK k = 3) : kNN k = false /\ kN k = false /\ kNT k = true := by
 unfold clsK at h
 revert h
 cases kNN k <;> cases kN k <;> cases kNT k <;> cases k1 k <;> cases k == 14 <;> simp
theorem cls_4 {k : Int} (h : clsK k = 4) : kNN k = false /\ kN k = false /\ kNT k = false /\ k1 k = true := by
 unfold clsK at h
 revert h
 cases kNN k <;> cases kN k <;> cases kNT k <;> cases k1 k <;> cases k == 14 <;> simp
theorem cls_5 {k : Int} (h : clsK k = 5) : kNN k = false /\ kN k = false /\ kNT k = false /\ k1 k = false /\ (k == 14) = true := by
 unfold clsK at h
 revert h
 cases kNN k <;> cases kN k <;> cases kNT k <;> cases k1 k <;> cases k == 14 <;> simp
theorem cls_0 {k : Int} (h : clsK k = 0) : kNN k = false /\ kN k = false /\ kNT k = false /\ k1 k = false /\ (k == 14) = false := by
 unfold clsK at h
 revert h
 cases kNN k <;> cases kN k <;> cases kNT k <;> cases k1 k <;> cases k == 14 <;> simp
theorem XNumbers : EntOk Tryd.prog 30 (.hand tkN TNumbers) := by
 refine ⟨Am.enters_of Tryd.func30 (by kernel_rfl) (by kernel_rfl), fun H0 args R h => ?_⟩
 unfold TNumbers at h
 split at h
 ·rename_i t s b
  obtain ⟨l, rfl⟩ : ∃ l, s = bs l := ⟨_, bs_of s⟩
  obtain ⟨rfl, h⟩ := h
  refine mkHo (vNums0 l b R) (tb az) Tryd.func30 (by kernel_rfl) ?_
  simp only [true_and, and_true, and_self, implies_true, forall_const, gEq_true, gEq_false, nonneg_iff, natle_iff, decide_eq_true_eq, decide_eq_false_iff_not, Int.toNat_natCast, cond_bt, cond_bf, Bool.cond_true, Bool.cond_false, Bool.not_true, Bool.not_false, reduceCtorEq, false_implies, implies_true, Bool.true_eq_false, Bool.false_eq_true, Bool.not_eq_true', Bool.not_eq_false']
  exact h
 ·rename_i t s b t2 cs t3 ps n
  obtain ⟨l, rfl⟩ : ∃ l, s = bs l := ⟨_, bs_of s⟩
  obtain ⟨e, ⟨rfl, h1, rfl, rfl, rfl, hp⟩, h⟩ := h
  have hle := number_le ⟨l, b⟩
  simp only [bs_size, bs_data] at h h1
  dsimp only at hle
  rcases hp with ⟨hk, rfl, rfl⟩ | ⟨hk, rfl, rfl⟩ | ⟨hk, rfl, rfl⟩ | ⟨hk, rfl, rfl⟩ | ⟨hk, rfl, rfl⟩
  ·refine mkHo (vNums1 l b e R) (tb (ac XNumber az)) Tryd.func30 (by kernel_rfl) ?_
   have k := cls_1 hk
   simp only [fieldsN, Ev.setF, k, cond_true, numbersR, rdO, cellsZ] at h
   simp only [true_and, and_true, and_self, implies_true, forall_const, gEq_true, gEq_false, nonneg_iff, natle_iff, decide_eq_true_eq, decide_eq_false_iff_not, Int.toNat_natCast, cond_bt, cond_bf, Bool.cond_true, Bool.cond_false, Bool.not_true, Bool.not_false, reduceCtorEq, false_implies, implies_true, Bool.true_eq_false, Bool.false_eq_true, Bool.not_eq_true', Bool.not_eq_false', bs_size, bs_data, bs_toList, bs_extract, bs_append, bs_mk, byteF, w01, w12]
   (repeat' apply And.intro) <;> first | exact h | omega
  ·refine mkHo (vNums2 l b e R) (tb (ac XNumber az)) Tryd.func30 (by kernel_rfl) ?_
   have k := cls_2 hk
   simp only [fieldsN, Ev.setF, k.1, k.2, cond_true, cond_false, numbersR, rdO, cellsZ] at h
   simp only [true_and, and_true, and_self, implies_true, forall_const, gEq_true, gEq_false, nonneg_iff, natle_iff, decide_eq_true_eq, decide_eq_false_iff_not, Int.toNat_natCast, cond_bt, cond_bf, Bool.cond_true, Bool.cond_false, Bool.not_true, Bool.not_false, reduceCtorEq, false_implies, implies_true, Bool.true_eq_false, Bool.false_eq_true, Bool.not_eq_true', Bool.not_eq_false', bs_size, bs_data, bs_toList, bs_extract, bs_append, bs_mk, byteF, w01, w12]
   (repeat' apply And.intro) <;> first | exact h | omega
  ·refine mkHo (vNums3 l b e R) (tb (ac XNumber az)) Tryd.func30 (by kernel_rfl) ?_
   have k := cls_3 hk
   simp only [fieldsN, Ev.setF, k.1, k.2.1, k.2.2, cond_true, cond_false, numbersR, rdO, cellsZ] at h
   simp only [true_and, and_true, and_self, implies_true, forall_const, gEq_true, gEq_false, nonneg_iff, natle_iff, decide_eq_true_eq, decide_eq_false_iff_not, Int.toNat_natCast, cond_bt, cond_bf, Bool.cond_true, Bool.cond_false, Bool.not_true, Bool.not_false, reduceCtorEq, false_implies, implies_true, Bool.true_eq_false, Bool.false_eq_true, Bool.not_eq_true', Bool.not_eq_false', bs_size, bs_data, bs_toList, bs_extract, bs_append, bs_mk, byteF, w01, w12]
   (repeat' apply And.intro) <;> first | exact h | omega
  ·refine mkHo (vNums4 l b e R) (tb (ac XNumber az)) Tryd.func30 (by kernel_rfl) ?_
   have k := cls_4 hk
   simp only [fieldsN, Ev.setF, k.1, k.2.1, k.2.2.1, k.2.2.2, cond_true, cond_false, numbersR, rdO, cellsZ] at h
   simp only [true_and, and_true, and_self, implies_true, forall_const, gEq_true, gEq_false, nonneg_iff, natle_iff, decide_eq_true_eq, decide_eq_false_iff_not, Int.toNat_natCast, cond_bt, cond_bf, Bool.cond_true, Bool.cond_false, Bool.not_true, Bool.not_false, reduceCtorEq, false_implies, implies_true, Bool.true_eq_false, Bool.false_eq_true, Bool.not_eq_true', Bool.not_eq_false', bs_size, bs_data, bs_toList, bs_extract, bs_append, bs_mk, byteF, w01, w12]
   (repeat' apply And.intro) <;> first | exact h | omega
  ·refine mkHo (vNums5 l b e R) (tb (ac XNumber az)) Tryd.func30 (by kernel_rfl) ?_
   have k := cls_5 hk
   simp only [fieldsN, Ev.setF, k.1, k.2.1, k.2.2.1, k.2.2.2.1, k.2.2.2.2, cond_true, cond_false, numbersR, rdO, cellsZ] at h
   simp only [true_and, and_true, and_self, implies_true, forall_const, gEq_true, gEq_false, nonneg_iff, natle_iff, decide_eq_true_eq, decide_eq_false_iff_not, Int.toNat_natCast, cond_bt, cond_bf, Bool.cond_true, Bool.cond_false, Bool.not_true, Bool.not_false, reduceCtorEq, false_implies, implies_true, Bool.true_eq_false, Bool.false_eq_true, Bool.not_eq_true', Bool.not_eq_false', bs_size, bs_data, bs_toList, bs_extract, bs_append, bs_mk, byteF, w01, w12]
   (repeat' apply And.intro) <;> first | exact h | omega
 ·rename_i t s b t2 x y z m t3 k e m2 f
  obtain ⟨l, rfl⟩ : ∃ l, s = bs l := ⟨_, bs_of s⟩
  obtain ⟨⟨rfl, h1, rfl, rfl⟩, h⟩ := h
  have hle := number_le ⟨l, b⟩
  have hle2 := number_le (numberR ⟨l, b⟩).2
  simp only [bs_size, bs_data] at h h1
  dsimp only at hle
  refine mkHo (vNumsS l b x y z m k e m2 f R) (tb (ac XNumber az)) Tryd.func30 (by kernel_rfl) ?_
  simp only [numbersR, rdO] at h
  simp only [true_and, and_true, and_self, implies_true, forall_const, gEq_true, gEq_false, nonneg_iff, natle_iff, decide_eq_true_eq, decide_eq_false_iff_not, Int.toNat_natCast, cond_bt, cond_bf, Bool.cond_true, Bool.cond_false, Bool.not_true, Bool.not_false, reduceCtorEq, false_implies, implies_true, Bool.true_eq_false, Bool.false_eq_true, Bool.not_eq_true', Bool.not_eq_false', bs_size, bs_data, bs_toList, bs_extract, bs_append, bs_mk, byteF, w01, w12]
  (repeat' apply And.intro) <;> first | exact h | omega
 ·exact h.elim
theorem XChange : EntOk Tryd.prog 49 (.hand tkR TChange) := by
 refine ⟨Am.enters_of Tryd.func49 (by kernel_rfl) (by kernel_rfl), fun H0 args R h => ?_⟩
 unfold TChange at h
 split at h
 ·rename_i t s b
  obtain ⟨l, rfl⟩ : ∃ l, s = bs l := ⟨_, bs_of s⟩
  obtain ⟨⟨rfl, h1⟩, h⟩ := h
  have hle := text_le ⟨l, b⟩
  simp only [bs_size, bs_data] at h h1
  dsimp only at hle
  refine SpecH.weak (Z := Unit) (X := fun _ => .agg [sl (changeR ⟨l, b⟩).1.1, bl (changeR ⟨l, b⟩).1.2.1, sl (changeR ⟨l, b⟩).1.2.2]) (HH := fun _ => [rdO (changeR ⟨l, b⟩).2]) (mkHo (vChange l b R) (tb (ac XText (ac XCutPre (ac XBlank az)))) Tryd.func49 (by kernel_rfl) ?_)
  have e1 : Int.toNat 0 = 0 := rfl
  have e2 : ∀ c : UInt8, (((c.toNat : Nat) : Int) == 32) = (c == 32) := fun c => by
   rw [Bool.eq_iff_iff, beq_iff_eq, beq_iff_eq]
   exact ⟨fun h => UInt8.toNat.inj (by show c.toNat = 32; omega), fun h => by rw [h]; rfl⟩
  have e3 : ∀ l : Bs, ((bs l).toList == (ByteArray.mk #[]).toList) = (l == []) := fun l => by simp [ByteArray.toList_eq]
  simp only [true_and, and_true, and_self, implies_true, forall_const, gEq_true, gEq_false, nonneg_iff, natle_iff, decide_eq_true_eq, decide_eq_false_iff_not, Int.toNat_natCast, cond_bt, cond_bf, Bool.cond_true, Bool.cond_false, Bool.not_true, Bool.not_false, reduceCtorEq, false_implies, implies_true, Bool.true_eq_false, Bool.false_eq_true, Bool.not_eq_true', Bool.not_eq_false', bs_size, bs_data, bs_toList, bs_extract, bs_append, bs_mk, byteF, e1, e2, e3]
  unfold changeR at h ⊢
  generalize textR ⟨l, b⟩ = r at *
  refine ⟨h1, fun q => ⟨by omega, ?_⟩, fun q => ?_, fun q => ?_⟩
  ·rw [Bool.and_eq_true] at q
   have hne : cutPre [45] r.snd.rest ≠ [] := by simpa using q.2
   have := List.length_pos_iff.2 hne
   omega
  ·simp only [q, cond_true] at h ⊢
   exact ⟨by omega, (), by simp, by simp, h⟩
  ·simp only [q, cond_false] at h ⊢
   exact ⟨by omega, (), by simp, by simp, h⟩
 ·exact h.elim
theorem dec_at (l : Bs) (i : Nat) (hi : i < l.length) : ((l.getD i 0).toNat < 128 -> Utf8.decode (bs l) i = ((l.getD i 0).toNat, 1)) /\ (128 <= (l.getD i 0).toNat -> 128 <= (Utf8.decode (bs l) i).1) := by
 have hg : ((bs l).get! (i + 0)).toNat = (l.getD i 0).toNat := by
  simp [bs, ByteArray.get!, List.getD_eq_getElem?_getD, hi]
 constructor
 ·intro h
  unfold Utf8.decode
  simp only [hg]
  rw [if_pos h]
 ·intro h
  unfold Utf8.decode
  simp only [hg]
  rw [if_neg (by omega)]
  (repeat' split) <;> first | (simp only [Utf8.runeError]; omega) | (rename_i q; simp at q ⊢; omega)
theorem dig_hex : ∀ (c : Fin 256) (j : Fin 16), (hexD j.val).toNat = c.val ↔ digV (UInt8.ofNat c.val) = j.val := by decide +kernel
theorem hex_lt : ∀ j : Fin 16, (hexD j.val).toNat < 128 := by decide +kernel
theorem dig_16 : ∀ c : Fin 256, digV (UInt8.ofNat c.val) < 16 ∨ digV (UInt8.ofNat c.val) = 16 := by decide +kernel
theorem dig_hi : ∀ c : Fin 256, 128 <= c.val -> digV (UInt8.ofNat c.val) = 16 := by decide +kernel
theorem wrap_i32 : ∀ c : Fin 256, IntKind.i32.wrap ((c.val : Nat) : Int) = (c.val : Nat) := by decide +kernel
theorem dig_at (l : Bs) (i : Nat) (hi : i < l.length) (j : Nat) (hj : j < 16) : (IntKind.i32.wrap (((([48, 49, 50, 51, 52, 53, 54, 55, 56, 57, 97, 98, 99, 100, 101, 102] : Bs).getD j 0).toNat : Nat) : Int) != (((Utf8.decode (bs l) i).1 : Nat) : Int)) = !(digV (l.getD i 0) == j) := by
 have h1 := digs ⟨j, hj⟩
 have h2 := hex_lt ⟨j, hj⟩
 dsimp only at h1 h2
 rw [h1]
 have h3 := wrap_i32 ⟨(hexD j).toNat, by omega⟩
 dsimp only at h3
 rw [h3]
 obtain ⟨h4, h5⟩ := dec_at l i hi
 have hc := (l.getD i 0).toNat_lt
 have h6 := dig_hex ⟨(l.getD i 0).toNat, hc⟩ ⟨j, hj⟩
 have h7 := dig_hi ⟨(l.getD i 0).toNat, hc⟩
 simp only [UInt8.ofNat_toNat] at h6 h7
 rw [Bool.eq_iff_iff]
 simp only [bne_iff_ne, ne_eq, Bool.not_eq_true', beq_eq_false_iff_ne]
 rcases Nat.lt_or_ge (l.getD i 0).toNat 128 with hlt | hge
 ·rw [h4 hlt, <- h6]
  exact ⟨fun h e => h (by rw [e]), fun h e => h (Int.ofNat.inj e)⟩
 ·have := h5 hge
  rw [h7 hge]
  exact ⟨fun _ => by omega, fun _ e => by omega⟩
theorem dig_dec (l : Bs) (i : Nat) (hi : i < l.length) (h : digV (l.getD i 0) < 16) : (Utf8.decode (bs l) i).2 = 1 := by
 obtain ⟨h4, _⟩ := dec_at l i hi
 have hc := (l.getD i 0).toNat_lt
 have h7 := dig_hi ⟨(l.getD i 0).toNat, hc⟩
 simp only [UInt8.ofNat_toNat] at h7
 rw [h4 (by rcases Nat.lt_or_ge (l.getD i 0).toNat 128 with hlt | hge; exact hlt; have := h7 hge; omega)]
theorem half : ∀ i : Fin 64, IntKind.i64.wrap (((i.val : Nat) : Int).tdiv 2) = ((i.val / 2 : Nat) : Int) := by decide +kernel
theorem dig_put : ∀ (a : Fin 16) (j : Fin 16), IntKind.u8.wrap (IntKind.u8.wrap (((a.val : Nat) : Int) * 2 ^ min 4 IntKind.u8.bits) + IntKind.u8.wrap ((j.val : Nat) : Int)) = ((a.val * 16 + j.val : Nat) : Int) := by decide +kernel
theorem idUp_step (l : Bs) (i : Nat) (hi : i < l.length) (h64 : l.length = 64) (hd : ∀ j, j < i -> digV (l.getD j 0) < 16) (j : Nat) (hj : j < 16) (hdj : digV (l.getD i 0) = j) (k : Nat) :
  (if k = i / 2 then IntKind.u8.wrap (IntKind.u8.wrap (idUp l i (i / 2) * 2 ^ min 4 IntKind.u8.bits) + IntKind.u8.wrap ((j : Nat) : Int)) else idUp l i k) = idUp l (i + 1) k := by
 split
 ·rename_i hk
  subst hk
  rcases Nat.mod_two_eq_zero_or_one i with h2 | h2
  ·have e1 : idUp l i (i / 2) = ((0 : Nat) : Int) := by
    unfold idUp
    rw [if_neg (by omega), if_neg (by omega)]
    rfl
   have e2 : idUp l (i + 1) (i / 2) = ((digV (l.getD i 0) : Nat) : Int) := by
    unfold idUp
    rw [if_neg (by omega), if_pos (by omega), show 2 * (i / 2) = i by omega]
   rw [e1, e2, hdj]
   have := dig_put ⟨0, by omega⟩ ⟨j, hj⟩
   dsimp only at this
   rw [this]
   simp
  ·have hp := hd (i - 1) (by omega)
   have e1 : idUp l i (i / 2) = ((digV (l.getD (i - 1) 0) : Nat) : Int) := by
    unfold idUp
    rw [if_neg (by omega), if_pos (by omega), show 2 * (i / 2) = i - 1 by omega]
   have e2 : idUp l (i + 1) (i / 2) = ((digV (l.getD (i - 1) 0) * 16 + digV (l.getD i 0) : Nat) : Int) := by
    unfold idUp
    rw [if_pos (by omega), show 2 * (i / 2) = i - 1 by omega, show i - 1 + 1 = i by omega]
   rw [e1, e2, hdj]
   exact dig_put ⟨_, hp⟩ ⟨j, hj⟩
 ·unfold idUp
  by_cases h1 : 2 * k + 1 < i
  ·rw [if_pos h1, if_pos (by omega)]
  ·by_cases h2 : 2 * k < i
   ·omega
   ·rw [if_neg h1, if_neg h2, if_neg (by omega), if_neg (by omega)]
theorem XIdP : EntOk Tryd.prog 50 (.lend TIdP) := by
 refine ⟨Am.enters_of Tryd.func50 (by kernel_rfl) (by kernel_rfl), fun args R h => ?_⟩
 unfold TIdP at h
 split at h
 ·rename_i s
  obtain ⟨l, rfl⟩ : ∃ l, s = bs l := ⟨_, bs_of s⟩
  obtain ⟨h1, h⟩ := h
  rw [bs_size] at h1
  rw [bs_data] at h
  unfold rlim at h1
  refine Spec.weak (Z := Unit) (X := fun _ => .tup [.agg [.iarr .u8 32 (idR l).1], nm (idE l)]) (HH := fun _ => []) (mkSo (vIdP l (fun x => x.1 <= l.length /\ (∀ j, j < x.1 -> digV (l.getD j 0) < 16) /\ x.2 = (l.length == 64) /\ (0 < x.1 -> l.length = 64)) (fun x => x.2 = idOk l /\ (x.2 = true -> x.1 = l.length)) (fun x j => j <= 16 /\ ∀ k, k < j -> digV (l.getD x.1 0) ≠ k) R) (tb az) Tryd.func50 (by kernel_rfl) ?_)
  have t2 : Int.ofNat (nat_lit 1 + 1) = 2 := rfl
  simp only [true_and, and_true, and_self, implies_true, forall_const, gEq_true, gEq_false, nonneg_iff, natle_iff, decide_eq_true_eq, decide_eq_false_iff_not, Int.toNat_natCast, cond_bt, cond_bf, Bool.cond_true, Bool.cond_false, Bool.not_true, Bool.not_false, reduceCtorEq, false_implies, implies_true, Bool.true_eq_false, Bool.false_eq_true, Bool.not_eq_true', Bool.not_eq_false', bs_size, bs_data, bs_toList, bs_extract, bs_append, bs_mk, byteF, t2]
  have h16 : ∀ i, digV (l.getD i 0) < 16 ∨ digV (l.getD i 0) = 16 := fun i => by
   have := dig_16 ⟨(l.getD i 0).toNat, (l.getD i 0).toNat_lt⟩
   simpa using this
  have hno : ∀ i, i < l.length -> digV (l.getD i 0) = 16 -> idOk l = false := fun i hi hd => by
   rw [idOk, Bool.and_eq_false_iff]
   right
   rw [List.all_eq_false]
   refine ⟨l.getD i 0, by rw [List.getD_eq_getElem?_getD, List.getElem?_eq_getElem hi]; exact List.getElem_mem hi, by rw [hd]; decide⟩
  refine ⟨⟨⟨(0, l.length == 64), ?_, ⟨fun _ _ => rfl, fun i _ => ?_, rfl⟩, Nat.zero_le _, fun j hj => absurd hj (Nat.not_lt_zero j), rfl, fun hj => absurd hj (Nat.lt_irrefl 0)⟩, fun x hx => ⟨fun hlt => ⟨⟨0, rfl, Nat.zero_le _, fun k hk => absurd hk (Nat.not_lt_zero k)⟩, fun j hj => ⟨fun q => ⟨by omega, by simp; omega⟩, fun q => ?_, fun q => ⟨fun q2 => ⟨(x.1, false), q2, fun _ _ => rfl, ?_, fun hf => by cases hf⟩, fun q2 => ?_⟩⟩⟩, fun hge => ⟨x, rfl, fun _ _ => rfl, ?_, fun _ => by omega⟩⟩⟩, fun x hx => ⟨fun q => ?_, fun q => ?_⟩⟩
  ·rw [Bool.eq_iff_iff]; simp; omega
  ·unfold idUp; rw [if_neg (by omega), if_neg (by omega)]
  ·rw [Bool.and_eq_true, decide_eq_true_eq] at q
   have hd := dig_at l x.1 hlt j (by omega)
   rw [hd] at q
   have hne : digV (l.getD x.1 0) ≠ j := by simpa using q.2
   refine ⟨j + 1, by rw [wrap64] <;> omega, ⟨by omega, fun k hk => ?_⟩, by omega⟩
   rcases Nat.lt_or_ge k j with h2 | h2
   ·exact hj.2 k h2
   ·rw [show k = j by omega]; exact hne
  ·rw [Bool.and_eq_false_iff, decide_eq_false_iff_not] at q2
   rcases q2 with q2 | q2
   ·rw [hx.2.2.1] at q2
    rw [idOk, q2]
    rfl
   ·refine (hno x.1 hlt ?_).symm
    rcases h16 x.1 with h2 | h2
    ·exact absurd rfl (hj.2 _ (by omega))
    ·exact h2
  ·rw [Bool.and_eq_true, decide_eq_true_eq] at q2
   have hj16 : j < 16 := by omega
   have hd := dig_at l x.1 hlt j hj16
   rw [decide_eq_true q2.2, Bool.true_and, hd] at q
   have hdj : digV (l.getD x.1 0) = j := by simpa using q
   have h64 : l.length = 64 := by have := hx.2.2.1; rw [q2.1] at this; simpa using this.symm
   have hdec := dig_dec l x.1 hlt (by omega)
   have hh := half ⟨x.1, by omega⟩
   dsimp only at hh
   rw [hh, Int.toNat_natCast]
   refine ⟨⟨by omega, by omega⟩, by omega, ⟨by omega, by omega⟩, by omega, (x.1 + 1, true), by rw [q2.1, decide_eq_true q2.2]; rfl, ⟨fun k _ => ?_, by rw [hdec]⟩, ⟨by dsimp only; omega, fun k hk => ?_, by rw [<- hx.2.2.1, q2.1], fun _ => h64⟩, by dsimp only; omega⟩
   ·exact idUp_step l x.1 hlt h64 hx.2.1 j hj16 hdj k
   ·dsimp only at hk
    rcases Nat.lt_or_ge k x.1 with h2 | h2
    ·exact hx.2.1 k h2
    ·rw [show k = x.1 by omega]; omega
  ·rw [hx.2.2.1, idOk]
   have : l.all (fun c => decide (digV c < 16)) = true := by
    rw [List.all_eq_true]
    intro c hc
    obtain ⟨i, hi, rfl⟩ := List.mem_iff_getElem.1 hc
    have := hx.2.1 i (by omega)
    rw [List.getD_eq_getElem?_getD, List.getElem?_eq_getElem hi] at this
    simpa using this
   rw [this, Bool.and_true]
  ·have e1 : idOk l = false := by rw [<- hx.1]; exact q
   rw [idE, idR, e1] at h
   rw [idE, idR, e1]
   exact ⟨(), ⟨fun _ _ => rfl, rfl⟩, h⟩
  ·have e1 : idOk l = true := by rw [<- hx.1]; exact q
   have h64 : l.length = 64 := by
    rw [idOk, Bool.and_eq_true] at e1
    simpa using e1.1
   rw [idE, idR, e1] at h
   rw [idE, idR, e1]
   refine ⟨(), ⟨fun i hi => ?_, rfl⟩, h⟩
   rw [hx.2 q, idUp, if_pos (by omega)]
   rfl
 ·exact h.elim
theorem idTk_succ (f : Idv) (n : Nat) : idTk f (n + 1) = idTk f n ++ [hexD ((f n).toNat / 16), hexD ((f n).toNat % 16)] := by
 simp [idTk, List.range_succ]
theorem idTk_len (f : Idv) (n : Nat) : (idTk f n).length = 2 * n := by
 induction n with
 | zero => rfl
 | succ n ih => rw [idTk_succ]; simp [ih]; omega
theorem hx1 : ∀ q : Fin 256, IntKind.u8.wrap (((q.val : Nat) : Int).tdiv 16) = ((q.val / 16 : Nat) : Int) /\ ((q.val : Nat) : Int).tmod 16 = ((q.val % 16 : Nat) : Int) := by decide +kernel
theorem XIdT : EntOk Tryd.prog 20 (.lend TIdT) := by
 refine ⟨Am.enters_of Tryd.func20 (by kernel_rfl) (by kernel_rfl), fun args R h => ?_⟩
 unfold TIdT at h
 split at h
 ·rename_i f
  obtain ⟨hf, h⟩ := h
  refine mkSo (vIdT f R (fun i => i <= 32)) (tb az) Tryd.func20 (by kernel_rfl) ?_
  have t2 : Int.ofNat (nat_lit 15 + 1) = 16 := rfl
  simp only [true_and, and_true, and_self, implies_true, forall_const, gEq_true, gEq_false, nonneg_iff, natle_iff, decide_eq_true_eq, decide_eq_false_iff_not, Int.toNat_natCast, cond_bt, cond_bf, Bool.cond_true, Bool.cond_false, Bool.not_true, Bool.not_false, reduceCtorEq, false_implies, implies_true, Bool.true_eq_false, Bool.false_eq_true, Bool.not_eq_true', Bool.not_eq_false', bs_size, bs_data, bs_toList, bs_extract, bs_append, bs_mk, byteF, t2]
  have hmx := maxLen_eq
  have k6 : ([48, 49, 50, 51, 52, 53, 54, 55, 56, 57, 97, 98, 99, 100, 101, 102] : Bs).length = 16 := rfl
  refine ⟨by omega, by omega, by omega, by omega, ⟨0, ⟨rfl, rfl⟩, ⟨Nat.le_refl _, fun i hi => absurd hi (Nat.not_lt_zero i)⟩, Nat.zero_le _⟩, fun x hx => ⟨fun hlt => ?_, fun hge => ?_⟩⟩
  ·obtain ⟨g0, g1⟩ := hf x (by omega)
   obtain ⟨q, hq⟩ := Int.eq_ofNat_of_zero_le g0
   have hx1 := hx1 ⟨q, by omega⟩
   dsimp only at hx1
   have d1 := digs ⟨q / 16, by omega⟩
   have d2 := digs ⟨q % 16, by omega⟩
   dsimp only at d1 d2
   rw [hq, hx1.1, hx1.2, k6, Int.toNat_natCast, Int.toNat_natCast, d1, d2]
   refine ⟨⟨by omega, by omega⟩, ⟨by omega, by omega⟩, ⟨by omega, by omega⟩, ⟨by omega, by omega⟩, ⟨by omega, by omega⟩, ⟨by omega, by omega, by omega⟩, x + 1, ⟨by omega, by rw [wrap64] <;> omega⟩, ⟨by omega, fun i hi => ?_⟩, by omega, by omega⟩
   rw [idTk_succ, getD_app, idTk_len, hq, Int.toNat_natCast]
   split
   ·rfl
   ·have : i - 2 * x = 0 ∨ i - 2 * x = 1 := by omega
    rcases this with e | e <;> (rw [e]; rfl)
  ·have : x = 32 := by omega
   subst this
   exact ⟨by omega, bs (idL f), by rw [bs_size]; exact idTk_len f 32, fun i _ => by rw [Nat.zero_add, bs_data]; rfl, h⟩
 ·exact h.elim
end Go.Proofs.Sd
