/- Strings: their order, how two are compared, how one is read rune by rune. In plain Lean. Seat r1: what the functions compute, and the contracts as transformers. Seat r1: contracts of the lesser functions. Seat r1: contracts of checks, of the search, of copies and comparisons. Seat r1: contracts of the search, of copies and comparisons. Seat r1: contracts of what turns a slice of branches: Insert, Delete. Seat r1: contracts of what turns a slice of branches: Insert, Delete. Seat r1: the contract of fits. Seat r1: branches cut short one by one. -/
import Derived.WalkKit
import Derived.Test.YtbjonljojnjceaaMC
import Derived.KernelRfl
import Derived.Test.YtbjonljojnjceaaProg
namespace Go.Proofs.R1
open Go

/-- The order of strings. -/
abbrev lt (a b : List UInt8) : Bool := Op.bytesLess a b

theorem lt_irrefl : ∀ a : List UInt8, lt a a = false := by
  intro a
  induction a with
  | nil => rfl
  | cons x xs ih => simp only [lt, Op.bytesLess]; rw [show Op.bytesLess xs xs = false from ih]; simp [UInt8.lt_irrefl]
theorem lt_trans : ∀ {a b c : List UInt8}, lt a b = true → lt b c = true → lt a c = true := by
  intro a
  induction a with
  | nil =>
    intro b c h1 h2
    cases c with
    | nil => cases b <;> simp [lt, Op.bytesLess] at h2
    | cons z c => rfl
  | cons x a ih =>
    intro b c h1 h2
    cases b with
    | nil => simp [lt, Op.bytesLess] at h1
    | cons y b =>
      cases c with
      | nil => simp [lt, Op.bytesLess] at h2
      | cons z c =>
        simp only [lt, Op.bytesLess, Bool.or_eq_true, decide_eq_true_eq, Bool.and_eq_true, beq_iff_eq] at h1 h2 ⊢
        rcases h1 with h1 | ⟨rfl, h1⟩ <;> rcases h2 with h2 | ⟨rfl, h2⟩
        · exact .inl (UInt8.lt_trans h1 h2)
        · exact .inl h1
        · exact .inl h2
        · exact .inr ⟨rfl, ih h1 h2⟩
theorem lt_tri : ∀ (a b : List UInt8), lt a b = true ∨ a = b ∨ lt b a = true := by
  intro a
  induction a with
  | nil => intro b; cases b with
    | nil => exact .inr (.inl rfl)
    | cons y b => exact .inl rfl
  | cons x a ih =>
    intro b
    cases b with
    | nil => exact .inr (.inr rfl)
    | cons y b =>
      simp only [lt, Op.bytesLess, Bool.or_eq_true, decide_eq_true_eq, Bool.and_eq_true, beq_iff_eq, List.cons.injEq]
      rcases Nat.lt_trichotomy x.toNat y.toNat with h | h | h
      · exact .inl (.inl (by simpa [UInt8.lt_iff_toNat_lt] using h))
      · have : x = y := UInt8.toNat.inj h
        subst this
        rcases ih b with h | h | h
        · exact .inl (.inr ⟨rfl, h⟩)
        · exact .inr (.inl ⟨rfl, h⟩)
        · exact .inr (.inr (.inr ⟨rfl, h⟩))
      · exact .inr (.inr (.inl (by simpa [UInt8.lt_iff_toNat_lt] using h)))
theorem lt_asymm {a b : List UInt8} (h : lt a b = true) : lt b a = false := by
  cases h2 : lt b a with
  | false => rfl
  | true => have := lt_trans h h2; rw [lt_irrefl] at this; cases this
theorem lt_ne {a b : List UInt8} (h : lt a b = true) : a ≠ b := by
  rintro rfl; rw [lt_irrefl] at h; cases h
/-- not less, and not the same: greater. -/
theorem ge_of_not_lt {a b : List UInt8} (h : lt a b = false) : a = b ∨ lt b a = true := by
  rcases lt_tri a b with h1 | h1 | h1
  · rw [h1] at h; cases h
  · exact .inl h1
  · exact .inr h1

/-- What strings.Compare yields, on lists. -/
def cmpL : List UInt8 → List UInt8 → Int
  | [], [] => 0
  | [], _ :: _ => -1
  | _ :: _, [] => 1
  | a :: x, b :: y => if a = b then cmpL x y else if a < b then -1 else 1

theorem cmpL_neg : ∀ {a b : List UInt8}, cmpL a b < 0 ↔ lt a b = true := by
  intro a
  induction a with
  | nil => intro b; cases b <;> simp [cmpL, lt, Op.bytesLess]
  | cons x a ih =>
    intro b
    cases b with
    | nil => simp [cmpL, lt, Op.bytesLess]
    | cons y b =>
      simp only [cmpL, lt, Op.bytesLess, Bool.or_eq_true, decide_eq_true_eq, Bool.and_eq_true, beq_iff_eq]
      split
      · rename_i h; subst h
        rw [ih]
        simp [UInt8.lt_irrefl]
      · rename_i h
        split
        · rename_i h2; simp [h2]
        · rename_i h2; simp [h2, h]
theorem cmpL_zero : ∀ {a b : List UInt8}, cmpL a b = 0 ↔ a = b := by
  intro a
  induction a with
  | nil => intro b; cases b <;> simp [cmpL]
  | cons x a ih =>
    intro b
    cases b with
    | nil => simp [cmpL]
    | cons y b =>
      simp only [cmpL]
      split
      · rename_i h; subst h; rw [ih]; simp
      · rename_i h
        split <;> simp [h]

theorem find_range (n : Nat) (p : Nat → Bool) : (∃ i, (List.range n).find? p = some i ∧ i < n ∧ p i = true ∧ ∀ j, j < i → p j = false) ∨ ((List.range n).find? p = none ∧ ∀ j, j < n → p j = false) := by
  induction n with
  | zero => exact .inr ⟨rfl, fun j h => by omega⟩
  | succ n ih =>
    rw [List.range_succ, List.find?_append]
    rcases ih with ⟨i, h1, h2, h3, h4⟩ | ⟨h1, h2⟩
    · exact .inl ⟨i, by rw [h1]; rfl, by omega, h3, h4⟩
    · rw [h1]
      cases hp : p n with
      | true => exact .inl ⟨n, by simp [hp], by omega, hp, h2⟩
      | false => exact .inr ⟨by simp [hp], fun j hj => by
          rcases Nat.lt_or_ge j n with h | h
          · exact h2 j h
          · have : j = n := by omega
            rw [this, hp]⟩

theorem get_toList (a : ByteArray) (i : Nat) (h : i < a.size) : a[i]! = a.toList.getD i 0 := by
  rw [ByteArray.toList_eq]
  simp [h]
  rfl
theorem cmpL_at : ∀ (a b : List UInt8) (i : Nat), i < a.length → i < b.length → (∀ j, j < i → a.getD j 0 = b.getD j 0) → a.getD i 0 ≠ b.getD i 0 → cmpL a b = if a.getD i 0 < b.getD i 0 then -1 else 1 := by
  intro a
  induction a with
  | nil => intro b i h; simp at h
  | cons x a ih =>
    intro b i h1 h2 h3 h4
    cases b with
    | nil => simp at h2
    | cons y b =>
      cases i with
      | zero => simp at h4; simp [cmpL, h4]
      | succ i =>
        have h0 := h3 0 (by omega)
        simp at h0
        subst h0
        simp only [cmpL, if_true, List.getD_cons_succ]
        exact ih b i (by simpa using h1) (by simpa using h2) (fun j hj => by simpa using h3 (j + 1) (by omega)) (by simpa using h4)
theorem cmpL_same : ∀ (a b : List UInt8), (∀ j, j < min a.length b.length → a.getD j 0 = b.getD j 0) → cmpL a b = if a.length < b.length then -1 else if a.length > b.length then 1 else 0 := by
  intro a
  induction a with
  | nil => intro b _; cases b <;> simp [cmpL]
  | cons x a ih =>
    intro b h
    cases b with
    | nil => simp [cmpL]
    | cons y b =>
      have h0 := h 0 (by simp)
      simp at h0
      subst h0
      simp only [cmpL, if_true, List.length_cons]
      rw [ih b (fun j hj => by simpa using h (j + 1) (by simp; omega))]
      simp
theorem cmp_eq (a b : ByteArray) : Extern.BytealgCompare.cmp a b = cmpL a.toList b.toList := by
  have la : a.toList.length = a.size := by simp [ByteArray.toList_eq]
  have lb : b.toList.length = b.size := by simp [ByteArray.toList_eq]
  unfold Extern.BytealgCompare.cmp
  rcases find_range (min a.size b.size) (fun i => a[i]! != b[i]!) with ⟨i, h1, h2, h3, h4⟩ | ⟨h1, h2⟩
  · rw [h1]
    have ha : i < a.size := by omega
    have hb : i < b.size := by omega
    simp only [get_toList a i ha, get_toList b i hb]
    refine (cmpL_at _ _ i (by omega) (by omega) ?_ ?_).symm
    · intro j hj
      have := h4 j hj
      rw [get_toList a j (by omega), get_toList b j (by omega)] at this
      simpa using this
    · rw [get_toList a i ha, get_toList b i hb] at h3
      simpa using h3
  · rw [h1]
    simp only []
    rw [cmpL_same, la, lb]
    intro j hj
    rw [la, lb] at hj
    have := h2 j hj
    rw [get_toList a j (by omega), get_toList b j (by omega)] at this
    simpa using this
theorem cmp_neg {a b : ByteArray} : Extern.BytealgCompare.cmp a b < 0 ↔ lt a.toList b.toList = true := by rw [cmp_eq]; exact cmpL_neg
theorem cmp_zero {a b : ByteArray} : Extern.BytealgCompare.cmp a b = 0 ↔ a.toList = b.toList := by rw [cmp_eq]; exact cmpL_zero

/-- A rune that is no ASCII character is 128 at least. -/
theorem decode_fst (s : ByteArray) (i : Nat) (h : 128 ≤ (s.get! i).toNat) : 128 ≤ (Utf8.decode s i).1 := by
  unfold Utf8.decode
  simp only [Nat.add_zero]
  rw [if_neg (by omega)]
  repeat' split
  all_goals first
    | (simp only []; omega)
    | (simp [Utf8.runeError]; done)
    | (rename_i hh; simp only [Bool.and_eq_true, decide_eq_true_eq] at hh; have := hh.1; simp only []; omega)
theorem decode_ascii (s : ByteArray) (i : Nat) (h : (s.get! i).toNat < 128) : Utf8.decode s i = ((s.get! i).toNat, 1) := by
  unfold Utf8.decode
  simp only [Nat.add_zero]
  rw [if_pos (by omega)]
end Go.Proofs.R1

namespace Go.Proofs.R1
open Go Go.Am

theorem mixed : Try.prog.follows .mixedOrders = true := by kernel_rfl

abbrev Idv := Nat → Int
abbrev cmpB (a b : ByteArray) : Int := Extern.BytealgCompare.cmp a b
def z0 : Idv := fun _ => 0
def idEq (a b : Idv) : Bool := (List.range 32).all fun i => a i == b i

/-- A branch. -/
structure Br where
  name : ByteArray
  id : Idv
instance : Inhabited Br := ⟨⟨ByteArray.empty, z0⟩⟩
def Br.av (b : Br) : AV := .agg [.pl (.string b.name), .iarr .u8 32 b.id]
/-- Not many. -/
def Bd (L : List Br) : Prop := L.length ≤ 1000000
def brAt (L : List Br) (i : Nat) : Br := L.getD i default
/-- Branches, as a slice that is read. -/
def brsF (L : List Br) (i : Nat) : AV := (brAt L i).av
def brs (L : List Br) : AV := .rows 33 L.length (brsF L)
/-- A row of one's own that holds them. -/
def brsO (L : List Br) : LObj := .row 33 45 L.length (brsF L)

/-- A command. -/
structure Cmd where
  kind : Int
  client : Int
  seq : Int
  branch : ByteArray
  old : Idv
  new : Idv
  dn : Nat
  df : Nat → AV
def Cmd.av (c : Cmd) : AV := .agg [.pl (.int .i64 c.kind), .pl (.int .i64 c.client), .pl (.int .u32 c.seq), .pl (.string c.branch), .iarr .u8 32 c.old, .iarr .u8 32 c.new, .rows 1 c.dn c.df]
/-- An answer. -/
structure Ans where
  err : Int
  id : Idv
def Ans.av (a : Ans) : AV := .agg [.pl (.int .i64 a.err), .iarr .u8 32 a.id]

/-- The argument says at least this. -/
def IsBrs (x : AV) (L : List Br) : Prop := leA (idN 0) x (brs L)
def IsCmd (x : AV) (c : Cmd) : Prop := leA (idN 0) x c.av
def IsAns (x : AV) (a : Ans) : Prop := leA (idN 0) x a.av
def partsL : AV → List AV
  | .agg cs => cs
  | _ => []
theorem isBrs_self (L : List Br) : IsBrs (brs L) L := ⟨rfl, rfl, fun _ _ => rfl⟩
theorem isCmd_self (c : Cmd) : IsCmd c.av c := ⟨rfl, rfl, rfl, rfl, ⟨rfl, rfl, fun _ _ => rfl⟩, ⟨rfl, rfl, fun _ _ => rfl⟩, ⟨rfl, rfl, fun _ _ => rfl⟩, trivial⟩
theorem isAns_self (a : Ans) : IsAns a.av a := ⟨rfl, ⟨rfl, rfl, fun _ _ => rfl⟩, trivial⟩
abbrev bl (b : Bool) : AV := .pl (.bool b)
abbrev nm (n : Int) : AV := .pl (.int .i64 n)
abbrev st (s : ByteArray) : AV := .pl (.string s)

def F50 : List LObj → List AV → Option (Prop × AV) := fun _ args => match args with
  | [.pl (.string a), .pl (.string b)] => some (True, .pl (.int .i64 (cmpB a b)))
  | _ => none
def T48 : Trans := fun args K => match args with
  | [.pl (.string a), .pl (.string b)] => K (.pl (.int .i64 (cmpB a b))) []
  | _ => False
abbrev T45 : Trans := T48
def T44 : Trans := fun args K => match args with
  | [.agg [.pl (.string nm), .iarr .u8 32 _], .pl (.string s)] => K (.pl (.int .i64 (cmpB nm s))) []
  | _ => False

/-- Which names are well-formed. -/
def byteOk (b : UInt8) : Bool := decide (33 ≤ b.toNat) && decide (b.toNat ≤ 126)
def nameB (s : ByteArray) : Bool := s.toList.all byteOk && (decide (1 ≤ s.size) && decide (s.size ≤ 24))
def T36 : Trans := fun args K => match args with
  | [.pl (.string s)] => K (bl (nameB s)) []
  | _ => False

/-- Which commands are well-formed. -/
def movesB (c : Cmd) : Bool := c.kind == 2 || c.kind == 3
def checkB (c : Cmd) : Bool := decide (1 ≤ c.kind) && decide (c.kind ≤ 4) && decide (1 ≤ c.client) && decide (c.client ≤ 3) && decide (0 < c.seq) && (c.kind == 2 || idEq c.old z0) && (movesB c || idEq c.new z0) &&
  (bif c.kind == 4 then c.branch.toList == [] && decide (1 ≤ c.dn) && decide (c.dn ≤ 800) else nameB c.branch && c.dn == 0)
def checkE (c : Cmd) : Int := bif checkB c then 0 else 210
def T29 : Trans := fun args K => match args with
  | [x] => ∃ c : Cmd, IsCmd x c ∧ K (nm (checkE c)) []
  | _ => False

/-- Which branches are in order: names rising, well-formed, no zero heads. -/
def rightFrom (last : List UInt8) : List Br → Bool
  | [] => true
  | b :: L => lt last b.name.toList && !idEq b.id z0 && nameB b.name && rightFrom b.name.toList L
def rightB (L : List Br) : Bool := rightFrom [] L
def T28 : Trans := fun args K => match args with
  | [x] => ∃ L : List Br, IsBrs x L ∧ K (bl (rightB L)) []
  | _ => False

def Sorted (L : List Br) : Prop := L.Pairwise fun a b => lt a.name.toList b.name.toList = true
/-- Where a name is, or where it belongs. -/
def findI (L : List Br) (s : ByteArray) : Nat := (L.takeWhile fun b => lt b.name.toList s.toList).length
def hasB (L : List Br) (s : ByteArray) : Bool := L.any fun b => b.name.toList == s.toList
def T43 : Trans := fun args K => match args with
  | [x, .pl (.string s), .pl (.func (.func 44) ⟨[]⟩ ⟨[]⟩)] => ∃ L : List Br, IsBrs x L ∧ Sorted L ∧ K (.tup [nm (findI L s), bl (hasB L s)]) []
  | _ => False
def T37 : Trans := fun args K => match args with
  | [x, .pl (.string s)] => ∃ L : List Br, IsBrs x L ∧ Sorted L ∧ K (.tup [nm (findI L s), bl (hasB L s)]) []
  | _ => False
def T25 : Trans := fun args K => match args with
  | [x] => ∃ L : List Br, IsBrs x L ∧ Bd L ∧ K (.own 0 0 L.length) [brsO L]
  | _ => False

def brEq (a b : Br) : Bool := a.name.toList == b.name.toList && idEq a.id b.id
def brsEq : List Br → List Br → Bool
  | [], [] => true
  | a :: L, b :: M => brEq a b && brsEq L M
  | _, _ => false
def T26 : Trans := fun args K => match args with
  | [x, y] => ∃ L M : List Br, IsBrs x L ∧ IsBrs y M ∧ K (bl (brsEq L M)) []
  | _ => False

def isB (a : Ans) (e : Int) : Bool := a.err == e && idEq a.id z0
def T38 : Trans := fun args K => match args with
  | [.pl (.int .i64 e), .ipt (.agg [.pl (.int .i64 er), .iarr .u8 32 id]) 0 0] => K (bl (isB ⟨er, id⟩ e)) []
  | _ => False

def putId (L : List Br) (i : Nat) (x : Idv) : List Br := L.set i ⟨(brAt L i).name, x⟩
def insB (L : List Br) (i : Nat) (b : Br) : List Br := L.take i ++ b :: L.drop i
def delB (L : List Br) (i : Nat) : List Br := L.take i ++ L.drop (i + 1)
/-- The head of a name: zero where there is none. -/
def headI (L : List Br) (s : ByteArray) : Idv := bif hasB L s then (brAt L (findI L s)).id else z0
/-- What a command does, and whether an answer fits it. -/
def moved (L : List Br) (c : Cmd) : List Br := bif idEq c.new z0 then (bif hasB L c.branch then delB L (findI L c.branch) else L)
  else bif hasB L c.branch then putId L (findI L c.branch) c.new else insB L (findI L c.branch) ⟨c.branch, c.new⟩
def ansEq (a : Ans) (e : Int) (x : Idv) : Bool := a.err == e && idEq a.id x
def fitsL (L : List Br) (c : Cmd) (a : Ans) : List Br := bif c.kind == 1 || c.kind == 4 || (c.kind == 2 && !idEq (headI L c.branch) c.old) || !ansEq a 0 c.new then L else moved L c
def fitsB (L : List Br) (c : Cmd) (a : Ans) : Bool :=
  bif c.kind == 1 then (bif hasB L c.branch then ansEq a 0 (headI L c.branch) else isB a 4)
  else bif c.kind == 4 then (a.err == 0 && !idEq a.id z0) || isB a 6 || isB a 160 || isB a 161
  else bif c.kind == 2 && !idEq (headI L c.branch) c.old then ansEq a 263 (headI L c.branch)
  else bif ansEq a 0 c.new then true else !idEq c.new z0 && (isB a 6 || isB a 264)
def T30 : Trans := fun args K => match args with
  | [x, y, z] => ∃ (L : List Br) (c : Cmd) (a : Ans), IsBrs x L ∧ IsCmd y c ∧ IsAns z a ∧ Bd L ∧ Sorted L ∧ K (.tup [.own 0 0 (fitsL L c a).length, bl (fitsB L c a)]) [brsO (fitsL L c a)]
  | _ => False

def FitsB (L : List Br) (c : Cmd) (a : Ans) : Bool := rightB L && checkB c && fitsB L c a
def FitsL (L : List Br) (c : Cmd) (a : Ans) : List Br := bif FitsB L c a then fitsL L c a else []
def T9 : Trans := fun args K => match args with
  | [x, y, z] => ∃ (L : List Br) (c : Cmd) (a : Ans), IsBrs x L ∧ IsCmd y c ∧ IsAns z a ∧ Bd L ∧ K (.tup [.own 0 0 (FitsL L c a).length, bl (FitsB L c a)]) [brsO (FitsL L c a)]
  | _ => False
def DoesL (L : List Br) (c : Cmd) : List Br := bif !(rightB L && checkB c) then [] else bif c.kind == 1 || c.kind == 4 then L else bif fitsB L c ⟨0, c.new⟩ then fitsL L c ⟨0, c.new⟩ else L
def T10 : Trans := fun args K => match args with
  | [x, y] => ∃ (L : List Br) (c : Cmd), IsBrs x L ∧ IsCmd y c ∧ Bd L ∧ K (.own 0 0 (DoesL L c).length) [brsO (DoesL L c)]
  | _ => False

def cutS (n : Nat) (s : ByteArray) : ByteArray := s.extract 0 n
def cutB (b : Br) : Br := ⟨cutS (min b.name.size 30) b.name, b.id⟩
def cutL (L : List Br) : List Br := (L.take 20).map cutB
def T7 : Trans := fun args K => match args with
  | [x] => ∃ L : List Br, IsBrs x L ∧ K (.own 0 0 (cutL L).length) [brsO (cutL L)]
  | _ => False
def cutC (c : Cmd) : Cmd := { c with branch := cutS (min c.branch.size 30) c.branch, dn := min c.dn 801 }
def T8 : Trans := fun args K => match args with
  | [x] => ∃ c : Cmd, IsCmd x c ∧ K (cutC c).av []
  | _ => False

/-- The head of a name, found by a walk. -/
def headW : List Br → ByteArray → Idv
  | [], _ => z0
  | b :: L, s => bif b.name.toList == s.toList then b.id else headW L s
def T24 : Trans := fun args K => match args with
  | [x, .pl (.string s)] => ∃ L : List Br, IsBrs x L ∧ K (.agg [.iarr .u8 32 (headW L s)]) []
  | _ => False
end Go.Proofs.R1

namespace Go.Proofs.R1
open Go Go.Am

theorem gEq_true (b : Bool) : gEq b true = b := rfl
theorem gEq_false (b : Bool) : gEq b false = !b := rfl
theorem nonneg_iff (a b : Int) : (b - a).NonNeg ↔ a ≤ b := Iff.rfl
theorem natle_iff (a b : Nat) : Nat.le a b ↔ a ≤ b := Iff.rfl
theorem cond_bt (a b : Bool) : (bif a then true else b) = (a || b) := by cases a <;> rfl
theorem cond_bf (a b : Bool) : (bif a then b else false) = (a && b) := by cases a <;> rfl
theorem wrap64 {x : Int} (h0 : -9223372036854775808 ≤ x) (h1 : x ≤ 9223372036854775807) : IntKind.i64.wrap x = x := by
  simp only [IntKind.wrap, IntKind.signed, IntKind.bits]; simp; omega
theorem wrapu64 {x : Int} (h0 : 0 ≤ x) (h1 : x ≤ 18446744073709551615) : IntKind.u64.wrap x = x := by
  simp only [IntKind.wrap, IntKind.signed, IntKind.bits]; simp; omega
theorem maxLen_eq : maxLen = 9223372036854775807 := by decide

/-- From a condition to a contract. -/
theorem mkS {f : FuncId} {fn : Func} {args : List AV} {R : AV → List LObj → Prop} {C : Table} {an : List Ann} {X : Prop}
    (v : vcA false 0 [] Try.prog C (fn.body.getD .skip) an (finalK Try.prog fn R) (startSt fn args) = X) (hC : TableOk Try.prog C) (hf : Try.prog.funcs[f]? = some fn) (hb : fn.body = some (fn.body.getD .skip)) (h : X) : Am.Spec Try.prog f args R :=
  spec_of_code hf hb (vcA_sound hC mixed _ (fun _ => rfl) (v ▸ h))

theorem ac {f : FuncId} {e : Ent} {r : List (FuncId × Ent)} (h : EntOk Try.prog f e) (k : AllE Try.prog r) : AllE Try.prog ((f, e) :: r) := ⟨h, k⟩
theorem az : AllE Try.prog [] := trivial
theorem tb {L : List (FuncId × Ent)} (h : AllE Try.prog L) : TableOk Try.prog (mkTab L []) := mkTab_ok h trivial

theorem X50 : EntOk Try.prog 50 (.ext F50) := by
  intro E0 E H vs xs p x g hl hr hF hp
  unfold F50 at hF
  split at hF
  · rename_i a b
    injection hF with hF
    simp only [Prod.mk.injEq] at hF
    obtain ⟨_, rfl⟩ := hF
    match vs, hl with
    | [u, v], _ =>
      obtain rfl := repV_pl (hr 0 u _ rfl rfl)
      obtain rfl := repV_pl (hr 1 v _ rfl rfl)
      refine ⟨.int .i64 (cmpB a b), ?_, Rep.pl _ rfl⟩
      rw [run_callFunc_extern (f := 50) (fn := Try.f50) rfl (by kernel_rfl) (by kernel_rfl) (by kernel_rfl) (e := Extern.BytealgCompare.compare) (by kernel_rfl)]
      rfl
  · cases hF


theorem v48 (a b : ByteArray) (R : AV → List LObj → Prop) :
    (vcA false 0 [] Try.prog (mkTab [(50, .ext F50)]) (Try.f48.body.getD .skip) ([]) (finalK Try.prog Try.f48 (R)) (startSt Try.f48 ([st a, st b]))) = (
    True ∧ (True ∧ True) ∧ True ∧ R (AV.pl (Value.int IntKind.i64 (cmpB a b))) []) := by kernel_rfl
theorem v45 (a b : ByteArray) (R : AV → List LObj → Prop) :
    (vcA false 0 [] Try.prog (mkTab [(48, .lend T48)]) (Try.f45.body.getD .skip) ([]) (finalK Try.prog Try.f45 (R)) (startSt Try.f45 ([st a, st b]))) = (
    (True ∧ True) ∧ True ∧ R (AV.pl (Value.int IntKind.i64 (cmpB a b))) []) := by kernel_rfl
theorem v44 (nm : ByteArray) (id : Nat → Int) (s : ByteArray) (R : AV → List LObj → Prop) :
    (vcA false 0 [] Try.prog (mkTab [(45, .lend T45)]) (Try.f44.body.getD .skip) ([]) (finalK Try.prog Try.f44 (R)) (startSt Try.f44 ([.agg [.pl (.string nm), .iarr .u8 32 id], st s]))) = (
    True ∧ (True ∧ True) ∧ True ∧ R (AV.pl (Value.int IntKind.i64 (cmpB nm s))) []) := by kernel_rfl
theorem X48 : EntOk Try.prog 48 (.lend T48) := by
  refine ⟨enters_of (fn := Try.f48) rfl rfl (by kernel_rfl), fun args R h => ?_⟩
  unfold T48 at h
  split at h
  · refine mkS (v48 _ _ _) (tb (ac X50 az)) rfl rfl ?_
    simpa only [true_and, and_true, and_self, implies_true, forall_const, gEq_true, gEq_false, nonneg_iff, natle_iff, decide_eq_true_eq, decide_eq_false_iff_not, Int.toNat_natCast, cond_bt, cond_bf, Bool.cond_true, Bool.cond_false, Bool.not_true, Bool.not_false, reduceCtorEq, false_implies, implies_true, Bool.true_eq_false, Bool.false_eq_true, Bool.not_eq_true', Bool.not_eq_false'] using h
  · exact h.elim
theorem X45 : EntOk Try.prog 45 (.lend T45) := by
  refine ⟨enters_of (fn := Try.f45) rfl rfl (by kernel_rfl), fun args R h => ?_⟩
  unfold T45 T48 at h
  split at h
  · refine mkS (v45 _ _ _) (tb (ac X48 az)) rfl rfl ?_
    simpa only [true_and, and_true, and_self, implies_true, forall_const, gEq_true, gEq_false, nonneg_iff, natle_iff, decide_eq_true_eq, decide_eq_false_iff_not, Int.toNat_natCast, cond_bt, cond_bf, Bool.cond_true, Bool.cond_false, Bool.not_true, Bool.not_false, reduceCtorEq, false_implies, implies_true, Bool.true_eq_false, Bool.false_eq_true, Bool.not_eq_true', Bool.not_eq_false'] using h
  · exact h.elim
theorem X44 : EntOk Try.prog 44 (.lend T44) := by
  refine ⟨enters_of (fn := Try.f44) rfl rfl (by kernel_rfl), fun args R h => ?_⟩
  unfold T44 at h
  split at h
  · refine mkS (v44 _ _ _ _) (tb (ac X45 az)) rfl rfl ?_
    simpa only [true_and, and_true, and_self, implies_true, forall_const, gEq_true, gEq_false, nonneg_iff, natle_iff, decide_eq_true_eq, decide_eq_false_iff_not, Int.toNat_natCast, cond_bt, cond_bf, Bool.cond_true, Bool.cond_false, Bool.not_true, Bool.not_false, reduceCtorEq, false_implies, implies_true, Bool.true_eq_false, Bool.false_eq_true, Bool.not_eq_true', Bool.not_eq_false'] using h
  · exact h.elim
end Go.Proofs.R1

namespace Go.Proofs.R1
open Go Go.Am

theorem v36 (s : ByteArray) (inv : Nat → Prop) (R : AV → List LObj → Prop) :
    (vcA false 0 [] Try.prog (mkTab []) (Try.f36.body.getD .skip) ([.loop 2 Nat inv (fun p => ⟨slotsOf 24 0 [(0, st s), (6, .ptr 0 0 0 0)], [.raw (.stringIter s p)]⟩) (fun p => s.size - p) (fun _ => [])]) (finalK Try.prog Try.f36 (R)) (startSt Try.f36 ([st s]))) = (
    (∃ (x : Nat),
        (s = s ∧ (True ∧ (0 : Nat) = (0 : Nat) ∧ (0 : Nat) = (0 : Nat) ∧ (0 : Nat) = (0 : Nat)) ∧ True) ∧
          (Obj.stringIter s (0 : Nat) = Obj.stringIter s x ∧ True) ∧ inv x) ∧
      ∀ (x : Nat),
        inv x →
          (x < s.size →
              (true = true →
                  ((bif decide ((↑(Utf8.decode s x).fst : Int) < (33 : Int)) then true
                        else decide ((↑(Utf8.decode s x).fst : Int) > (126 : Int))) =
                        true →
                      (True ∧ True) ∧ True ∧ R (AV.pl (Value.bool false)) []) ∧
                    ((bif decide ((↑(Utf8.decode s x).fst : Int) < (33 : Int)) then true
                        else decide ((↑(Utf8.decode s x).fst : Int) > (126 : Int))) =
                        false →
                      ∃ (y : Nat),
                        (s = s ∧ (True ∧ (0 : Nat) = (0 : Nat) ∧ (0 : Nat) = (0 : Nat) ∧ (0 : Nat) = (0 : Nat)) ∧ True) ∧
                          (Obj.stringIter s (x + (Utf8.decode s x).snd) = Obj.stringIter s y ∧ True) ∧
                            inv y ∧ (s.size - y).succ.le (s.size - x))) ∧
                (true = false →
                  (True ∧ True) ∧
                    True ∧
                      R
                        (AV.pl
                          (Value.bool
                            (bif decide ((↑s.size : Int) ≥ (1 : Int)) then decide ((↑s.size : Int) ≤ (24 : Int))
                            else false)))
                        [])) ∧
            (¬x < s.size →
              (false = true → False) ∧
                (false = false →
                  (True ∧ True) ∧
                    True ∧
                      R
                        (AV.pl
                          (Value.bool
                            (bif decide ((↑s.size : Int) ≥ (1 : Int)) then decide ((↑s.size : Int) ≤ (24 : Int))
                            else false)))
                        []))) := by kernel_rfl
theorem size_toList (s : ByteArray) : s.toList.length = s.size := by simp [ByteArray.toList_eq]
theorem get_eq (s : ByteArray) (i : Nat) (h : i < s.size) : s.get! i = s.toList.getD i 0 := by
  rw [ByteArray.toList_eq]
  simp [ByteArray.get!, h]
theorem byte_out (s : ByteArray) (x : Nat) (h : x < s.size) : (decide (((Utf8.decode s x).1 : Int) < 33) || decide (((Utf8.decode s x).1 : Int) > 126)) = !byteOk (s.toList.getD x 0) := by
  rw [← get_eq s x h, byteOk]
  rcases Nat.lt_or_ge (s.get! x).toNat 128 with h1 | h1
  · rw [decode_ascii s x h1]
    cases h2 : decide (33 ≤ (s.get! x).toNat) <;> cases h3 : decide ((s.get! x).toNat ≤ 126) <;> simp at h2 h3 ⊢ <;> omega
  · have := decode_fst s x h1
    have h3 : decide ((s.get! x).toNat ≤ 126) = false := by simp; omega
    rw [h3]
    simp; omega
theorem byte_step (s : ByteArray) (x : Nat) (h : x < s.size) (hb : byteOk (s.toList.getD x 0) = true) : (Utf8.decode s x).2 = 1 := by
  rw [← get_eq s x h, byteOk] at hb
  simp at hb
  rw [decode_ascii s x (by omega)]
theorem name_no (s : ByteArray) (x : Nat) (h : x < s.size) (hb : byteOk (s.toList.getD x 0) = false) : nameB s = false := by
  have : s.toList.all byteOk = false := by
    rw [List.all_eq_false]
    refine ⟨s.toList.getD x 0, ?_, by rw [hb]; simp⟩
    rw [← size_toList] at h
    simp [h]
  simp [nameB, this]
theorem name_yes (s : ByteArray) (hb : ∀ i, i < s.size → byteOk (s.toList.getD i 0) = true) : nameB s = (decide (1 ≤ s.size) && decide (s.size ≤ 24)) := by
  have : s.toList.all byteOk = true := by
    rw [List.all_eq_true]
    intro b hm
    obtain ⟨i, hi, rfl⟩ := List.getElem_of_mem hm
    have := hb i (by rw [← size_toList]; exact hi)
    simpa [hi] using this
  simp [nameB, this]
theorem X36 : EntOk Try.prog 36 (.lend T36) := by
  refine ⟨enters_of (fn := Try.f36) rfl rfl (by kernel_rfl), fun args R h => ?_⟩
  unfold T36 at h
  split at h
  · rename_i s
    refine mkS (v36 s (fun p => p ≤ s.size ∧ ∀ i, i < p → byteOk (s.toList.getD i 0) = true) R) (tb az) rfl rfl ?_
    simp only [true_and, and_true, and_self, forall_const, natle_iff, cond_bt, cond_bf, false_implies, Bool.true_eq_false, Bool.false_eq_true]
    refine ⟨⟨0, rfl, by omega, fun i hi => by omega⟩, fun x hx => ⟨fun hlt => ⟨fun hb => ?_, fun hb => ?_⟩, fun hge => ?_⟩⟩
    · rw [byte_out s x hlt] at hb
      rw [name_no s x hlt (by simpa using hb)] at h
      exact h
    · rw [byte_out s x hlt] at hb
      have hk : byteOk (s.toList.getD x 0) = true := by simpa using hb
      refine ⟨x + 1, by rw [byte_step s x hlt hk], ⟨hlt, fun i hi => ?_⟩, by omega⟩
      rcases Nat.lt_or_ge i x with h1 | h1
      · exact hx.2 i h1
      · have : i = x := by omega
        rw [this]; exact hk
    · have hx2 : x = s.size := by omega
      subst hx2
      rw [name_yes s hx.2] at h
      have e : (decide ((s.size : Int) ≥ 1) && decide ((s.size : Int) ≤ 24)) = (decide (1 ≤ s.size) && decide (s.size ≤ 24)) := by
        congr 1 <;> (rw [decide_eq_decide]; omega)
      rw [e]
      exact h
  · exact h.elim

theorem v29 (c : Cmd) (R : AV → List LObj → Prop) :
    (vcA false 0 [] Try.prog (mkTab [(36, .lend T36)]) (Try.f29.body.getD .skip) ([]) (finalK Try.prog Try.f29 (R)) (startSt Try.f29 ([c.av]))) = (
    True ∧
      ((c.kind == (4 : Int)) = true →
          ((!bif
                      bif
                          bif
                              bif
                                  bif
                                      bif
                                          bif
                                              bif
                                                  bif decide (c.kind ≥ (1 : Int)) then decide (c.kind ≤ (4 : Int))
                                                  else false then
                                                decide (c.client ≥ (1 : Int))
                                              else false then
                                            decide (c.client ≤ (3 : Int))
                                          else false then
                                        decide (c.seq > (0 : Int))
                                      else false then
                                    bif c.kind == (2 : Int) then true
                                    else (List.range (32 : Nat)).all fun (i : Nat) => c.old i == (0 : Int)
                                  else false then
                                bif bif c.kind == (2 : Int) then true else c.kind == (3 : Int) then true
                                else (List.range (32 : Nat)).all fun (i : Nat) => c.new i == (0 : Int)
                              else false then
                            c.branch.toList == (ByteArray.mk #[]).toList
                          else false then
                        decide ((↑c.dn : Int) ≥ (1 : Int))
                      else false then
                    decide ((↑c.dn : Int) ≤ (800 : Int))
                  else false) =
                true →
              (True ∧ True) ∧ True ∧ R (AV.pl (Value.int IntKind.i64 (210 : Int))) []) ∧
            ((!bif
                      bif
                          bif
                              bif
                                  bif
                                      bif
                                          bif
                                              bif
                                                  bif decide (c.kind ≥ (1 : Int)) then decide (c.kind ≤ (4 : Int))
                                                  else false then
                                                decide (c.client ≥ (1 : Int))
                                              else false then
                                            decide (c.client ≤ (3 : Int))
                                          else false then
                                        decide (c.seq > (0 : Int))
                                      else false then
                                    bif c.kind == (2 : Int) then true
                                    else (List.range (32 : Nat)).all fun (i : Nat) => c.old i == (0 : Int)
                                  else false then
                                bif bif c.kind == (2 : Int) then true else c.kind == (3 : Int) then true
                                else (List.range (32 : Nat)).all fun (i : Nat) => c.new i == (0 : Int)
                              else false then
                            c.branch.toList == (ByteArray.mk #[]).toList
                          else false then
                        decide ((↑c.dn : Int) ≥ (1 : Int))
                      else false then
                    decide ((↑c.dn : Int) ≤ (800 : Int))
                  else false) =
                false →
              (True ∧ True) ∧ True ∧ R (AV.pl (Value.int IntKind.i64 (0 : Int))) [])) ∧
        ((c.kind == (4 : Int)) = false →
          (gEq
                  (bif
                      bif
                          bif
                              bif
                                  bif bif decide (c.kind ≥ (1 : Int)) then decide (c.kind ≤ (4 : Int)) else false then
                                    decide (c.client ≥ (1 : Int))
                                  else false then
                                decide (c.client ≤ (3 : Int))
                              else false then
                            decide (c.seq > (0 : Int))
                          else false then
                        bif c.kind == (2 : Int) then true
                        else (List.range (32 : Nat)).all fun (i : Nat) => c.old i == (0 : Int)
                      else false then
                    bif bif c.kind == (2 : Int) then true else c.kind == (3 : Int) then true
                    else (List.range (32 : Nat)).all fun (i : Nat) => c.new i == (0 : Int)
                  else false)
                  true =
                true →
              true = true ∧
                ((!bif bif true then nameB c.branch else false then (↑c.dn : Int) == (0 : Int) else false) = true →
                    (True ∧ True) ∧ True ∧ R (AV.pl (Value.int IntKind.i64 (210 : Int))) []) ∧
                  ((!bif bif true then nameB c.branch else false then (↑c.dn : Int) == (0 : Int) else false) = false →
                    (True ∧ True) ∧ True ∧ R (AV.pl (Value.int IntKind.i64 (0 : Int))) [])) ∧
            (gEq
                  (bif
                      bif
                          bif
                              bif
                                  bif bif decide (c.kind ≥ (1 : Int)) then decide (c.kind ≤ (4 : Int)) else false then
                                    decide (c.client ≥ (1 : Int))
                                  else false then
                                decide (c.client ≤ (3 : Int))
                              else false then
                            decide (c.seq > (0 : Int))
                          else false then
                        bif c.kind == (2 : Int) then true
                        else (List.range (32 : Nat)).all fun (i : Nat) => c.old i == (0 : Int)
                      else false then
                    bif bif c.kind == (2 : Int) then true else c.kind == (3 : Int) then true
                    else (List.range (32 : Nat)).all fun (i : Nat) => c.new i == (0 : Int)
                  else false)
                  true =
                false →
              true = true ∧
                ((!bif false then (↑c.dn : Int) == (0 : Int) else false) = true →
                    (True ∧ True) ∧ True ∧ R (AV.pl (Value.int IntKind.i64 (210 : Int))) []) ∧
                  ((!bif false then (↑c.dn : Int) == (0 : Int) else false) = false →
                    (True ∧ True) ∧ True ∧ R (AV.pl (Value.int IntKind.i64 (0 : Int))) [])))) := by kernel_rfl
theorem X29 : EntOk Try.prog 29 (.lend T29) := by
  refine ⟨enters_of (fn := Try.f29) rfl rfl (by kernel_rfl), fun args R h => ?_⟩
  unfold T29 at h
  split at h
  case h_2 => exact h.elim
  obtain ⟨c, hs, h⟩ := h
  refine Spec.args (args' := [c.av]) ⟨hs, trivial⟩ (mkS (v29 c R) (tb (ac X36 az)) rfl rfl ?_)
  simp only [true_and, and_true, and_self, forall_const, gEq_true, cond_bt, cond_bf, Bool.cond_true, Bool.cond_false, Bool.not_false, false_implies, Bool.true_eq_false, Bool.not_eq_true', Bool.not_eq_false']
  have key : ∀ b : Bool, checkB c = b → (b = true → R (nm 0) []) ∧ (b = false → R (nm 210) []) := by
    intro b hb
    rw [checkE, hb] at h
    cases b with
    | true => exact ⟨fun _ => h, fun hh => Bool.noConfusion hh⟩
    | false => exact ⟨fun hh => Bool.noConfusion hh, fun _ => h⟩
  have e0 : (ByteArray.mk #[]).toList = [] := by simp [ByteArray.toList_eq]
  have ed : ((c.dn : Int) == 0) = (c.dn == 0) := by rw [Bool.eq_iff_iff]; simp
  have e1 : ∀ k : Nat, decide ((c.dn : Int) ≥ k) = decide (k ≤ c.dn) := fun k => by rw [decide_eq_decide]; omega
  have e2 : ∀ k : Nat, decide ((c.dn : Int) ≤ k) = decide (c.dn ≤ k) := fun k => by rw [decide_eq_decide]; omega
  have e1' := e1 1
  have e2' := e2 800
  simp only [Int.natCast_one] at e1'
  have e3 : ((800 : Nat) : Int) = 800 := rfl
  rw [e3] at e2'
  have kk := key _ rfl
  simp only [checkB, movesB, idEq, z0] at kk
  refine ⟨fun hk => ⟨fun hh => kk.2 ?_, fun hh => kk.1 ?_⟩, fun hk => ⟨fun h1 => ⟨fun hh => kk.2 ?_, fun hh => kk.1 ?_⟩, fun hh => kk.2 ?_⟩⟩
  · rw [← hh, hk, e0, e1', e2']
    simp only [Bool.cond_true, Bool.and_assoc, ge_iff_le, gt_iff_lt]
  · rw [← hh, hk, e0, e1', e2']
    simp only [Bool.cond_true, Bool.and_assoc, ge_iff_le, gt_iff_lt]
  · rw [ed] at hh
    rw [← hh, hk]
    simp only [ge_iff_le, gt_iff_lt] at h1
    simp only [Bool.cond_false, h1, Bool.true_and]
  · rw [ed] at hh
    rw [← hh, hk]
    simp only [ge_iff_le, gt_iff_lt] at h1
    simp only [Bool.cond_false, h1, Bool.true_and]
  · simp only [ge_iff_le, gt_iff_lt] at hh
    simp only [hk, Bool.cond_false, hh, Bool.false_and]
theorem v28 (L : List Br) (inv : Nat × ByteArray → Prop) (R : AV → List LObj → Prop) :
    (vcA false 0 [] Try.prog (mkTab [(29, .lend T29)]) (Try.f28.body.getD .skip) ([.loop 3 (Nat × ByteArray) inv (fun p => ⟨slotsOf 34 0 [(0, brs L), (3, st p.2), (7, brs L), (8, nm L.length), (9, nm p.1)], []⟩) (fun p => L.length - p.1) (fun _ => [])]) (finalK Try.prog Try.f28 (R)) (startSt Try.f28 ([brs L]))) = (
    (∃ (x : Nat × ByteArray),
        (((33 : Nat) = (33 : Nat) ∧ L.length = L.length ∧ ∀ (i : Nat), i < L.length → brsF L i = brsF L i) ∧
            ByteArray.mk #[] = x.snd ∧
              ((33 : Nat) = (33 : Nat) ∧ L.length = L.length ∧ ∀ (i : Nat), i < L.length → brsF L i = brsF L i) ∧
                (↑L.length : Int) = (↑L.length : Int) ∧ (0 : Int) = (↑x.fst : Int) ∧ True) ∧
          True ∧ inv x) ∧
      ∀ (x : Nat × ByteArray),
        inv x →
          (decide ((↑x.fst : Int) < (↑L.length : Int)) = true →
              ((0 : Int) ≤ (↑x.fst : Int) ∧ (↑x.fst : Int) + (1 : Int) ≤ (↑L.length : Int)) ∧
                True ∧
                  True ∧
                    True ∧
                      True ∧
                        (gEq
                                (bif
                                    Op.bytesLess (brAt L (↑x.fst : Int).toNat).name.toList x.snd.toList ||
                                      (brAt L (↑x.fst : Int).toNat).name.toList == x.snd.toList then
                                  true
                                else
                                  (List.range (32 : Nat)).all fun (i : Nat) =>
                                    (brAt L (↑x.fst : Int).toNat).id i == (0 : Int))
                                false =
                              true →
                            ∃ (c : Cmd),
                              IsCmd
                                  (AV.agg
                                    [AV.pl (Value.int IntKind.i64 (1 : Int)), AV.pl (Value.int IntKind.i64 (1 : Int)),
                                      AV.pl (Value.int IntKind.u32 (1 : Int)),
                                      AV.pl (Value.string (brAt L (↑x.fst : Int).toNat).name),
                                      AV.iarr IntKind.u8 (32 : Nat) fun (_ : Nat) => (0 : Int),
                                      AV.iarr IntKind.u8 (32 : Nat) fun (_ : Nat) => (0 : Int),
                                      AV.pl (Value.slice none (0 : Nat) (0 : Nat))])
                                  c ∧
                                true = true ∧
                                  ((bif false then true else checkE c != (0 : Int)) = true →
                                      (True ∧ True) ∧ True ∧ R (AV.pl (Value.bool false)) []) ∧
                                    ((bif false then true else checkE c != (0 : Int)) = false →
                                      ∃ (y : Nat × ByteArray),
                                        (((33 : Nat) = (33 : Nat) ∧
                                              L.length = L.length ∧ ∀ (i : Nat), i < L.length → brsF L i = brsF L i) ∧
                                            (brAt L (↑x.fst : Int).toNat).name = y.snd ∧
                                              ((33 : Nat) = (33 : Nat) ∧
                                                  L.length = L.length ∧ ∀ (i : Nat), i < L.length → brsF L i = brsF L i) ∧
                                                (↑L.length : Int) = (↑L.length : Int) ∧
                                                  IntKind.i64.wrap ((↑x.fst : Int) + (1 : Int)) = (↑y.fst : Int) ∧ True) ∧
                                          True ∧ inv y ∧ (L.length - y.fst).succ.le (L.length - x.fst))) ∧
                          (gEq
                                (bif
                                    Op.bytesLess (brAt L (↑x.fst : Int).toNat).name.toList x.snd.toList ||
                                      (brAt L (↑x.fst : Int).toNat).name.toList == x.snd.toList then
                                  true
                                else
                                  (List.range (32 : Nat)).all fun (i : Nat) =>
                                    (brAt L (↑x.fst : Int).toNat).id i == (0 : Int))
                                false =
                              false →
                            true = true ∧
                              (true = true → (True ∧ True) ∧ True ∧ R (AV.pl (Value.bool false)) []) ∧
                                (true = false →
                                  ∃ (y : Nat × ByteArray),
                                    (((33 : Nat) = (33 : Nat) ∧
                                          L.length = L.length ∧ ∀ (i : Nat), i < L.length → brsF L i = brsF L i) ∧
                                        (brAt L (↑x.fst : Int).toNat).name = y.snd ∧
                                          ((33 : Nat) = (33 : Nat) ∧
                                              L.length = L.length ∧ ∀ (i : Nat), i < L.length → brsF L i = brsF L i) ∧
                                            (↑L.length : Int) = (↑L.length : Int) ∧
                                              IntKind.i64.wrap ((↑x.fst : Int) + (1 : Int)) = (↑y.fst : Int) ∧ True) ∧
                                      True ∧ inv y ∧ (L.length - y.fst).succ.le (L.length - x.fst)))) ∧
            (decide ((↑x.fst : Int) < (↑L.length : Int)) = false → (True ∧ True) ∧ True ∧ R (AV.pl (Value.bool true)) [])) := by kernel_rfl
theorem name_check (n : ByteArray) (f : Nat → AV) : checkE ⟨1, 1, 1, n, z0, z0, 0, f⟩ = bif nameB n then 0 else 210 := by
  have hz : idEq z0 z0 = true := by decide
  simp [checkE, checkB, movesB, hz]
theorem X28 : EntOk Try.prog 28 (.lend T28) := by
  refine ⟨enters_of (fn := Try.f28) rfl rfl (by kernel_rfl), fun args R h => ?_⟩
  unfold T28 at h
  split at h
  case h_2 => exact h.elim
  obtain ⟨L, hs, h⟩ := h
  refine Spec.args (args' := [brs L]) ⟨hs, trivial⟩ (Spec.given fun hg => mkS (v28 L (fun p => p.1 ≤ L.length ∧ rightB L = rightFrom p.2.toList (L.drop p.1)) R) (tb (ac X29 az)) rfl rfl ?_)
  simp only [true_and, and_true, and_self, implies_true, forall_const, gEq_false, natle_iff, decide_eq_true_eq, decide_eq_false_iff_not, Int.toNat_natCast, cond_bt, Bool.cond_false, false_implies, implies_true, Bool.true_eq_false, Bool.not_eq_true', Bool.not_eq_false']
  have hL : L.length ≤ 9223372036854775807 := by rw [← maxLen_eq]; exact hg.1
  have e0 : (ByteArray.mk #[]).toList = [] := by simp [ByteArray.toList_eq]
  refine ⟨⟨(0, ByteArray.mk #[]), ⟨rfl, rfl⟩, Nat.zero_le _, by rw [e0]; rfl⟩, ?_⟩
  rintro ⟨i, last⟩ ⟨hi, hr⟩
  simp only at hi hr ⊢
  refine ⟨fun hlt => ⟨by omega, ?_⟩, fun hge => ?_⟩
  · have hlt' : i < L.length := by omega
    have hd : L.drop i = brAt L i :: L.drop (i + 1) := by
      rw [List.drop_eq_getElem_cons hlt']; simp [brAt, hlt']
    rw [hd, rightFrom] at hr
    have hlast : (Op.bytesLess (brAt L i).name.toList last.toList || (brAt L i).name.toList == last.toList) = !lt last.toList (brAt L i).name.toList := by
      rcases lt_tri last.toList (brAt L i).name.toList with h1 | h1 | h1
      · have := lt_asymm h1
        simp only [lt] at h1 this ⊢
        rw [this, h1]
        have := lt_ne h1
        simp [Ne.symm this]
      · rw [h1]; simp [lt_irrefl]
      · have := lt_asymm h1
        simp only [lt] at h1 this ⊢
        rw [this, h1]; rfl
    refine ⟨fun hb => ⟨⟨1, 1, 1, (brAt L i).name, z0, z0, 0, fun _ => .any⟩, ⟨rfl, rfl, rfl, rfl, ⟨rfl, rfl, fun _ _ => rfl⟩, ⟨rfl, rfl, fun _ _ => rfl⟩, ⟨trivial, rfl⟩, trivial⟩, fun hc => ?_, fun hc => ?_⟩, fun hb => ?_⟩
    · rw [name_check, bne_iff_ne] at hc
      have hn : nameB (brAt L i).name = false := by
        cases hn : nameB (brAt L i).name with
        | false => rfl
        | true => rw [hn] at hc; exact absurd rfl hc
      rw [hn] at hr
      simp only [Bool.and_false, Bool.false_and] at hr
      rw [hr] at h
      exact h
    · rw [name_check] at hc
      have hn : nameB (brAt L i).name = true := by
        cases hn : nameB (brAt L i).name with
        | true => rfl
        | false => rw [hn] at hc; cases hc
      rw [hlast, Bool.or_eq_false_iff] at hb
      refine ⟨(i + 1, (brAt L i).name), ⟨rfl, by rw [wrap64] <;> omega⟩, ⟨hlt', ?_⟩, by simp only; omega⟩
      have hz : idEq (brAt L i).id z0 = false := hb.2
      have hl : lt last.toList (brAt L i).name.toList = true := by simpa using hb.1
      rw [hr, hz, hl, hn]
      rfl
    · rw [hlast, Bool.or_eq_true] at hb
      have : rightB L = false := by
        rw [hr]
        rcases hb with hb | hb
        · have hl : lt last.toList (brAt L i).name.toList = false := by simpa using hb
          rw [hl]; rfl
        · have hz : idEq (brAt L i).id z0 = true := hb
          rw [hz]; simp
      rw [this] at h
      exact h
  · have : i = L.length := by omega
    subst this
    rw [List.drop_length] at hr
    rw [hr] at h
    exact h
end Go.Proofs.R1

namespace Go.Proofs.R1
open Go Go.Am

theorem v43 (L : List Br) (s : ByteArray) (inv : Nat × Nat → Prop) (R : AV → List LObj → Prop) :
    (vcA false 0 [] Try.prog (mkTab [(44, .lend T44)]) (Try.f43.body.getD .skip) ([.loop 3 (Nat × Nat) inv (fun p => ⟨slotsOf 49 0 [(0, brs L), (1, st s), (2, .pl (.func (.func 44) #[] #[])), (8, nm L.length), (9, nm p.1), (10, nm p.2)], []⟩) (fun p => p.2 - p.1) (fun _ => [])]) (finalK Try.prog Try.f43 (R)) (startSt Try.f43 ([brs L, st s, .pl (.func (.func 44) #[] #[])]))) = (
    (∃ (x : Nat × Nat),
        (((33 : Nat) = (33 : Nat) ∧ L.length = L.length ∧ ∀ (i : Nat), i < L.length → brsF L i = brsF L i) ∧
            s = s ∧
              Value.func (Fn.func (44 : Nat)) (Array.mk []) (Array.mk []) =
                  Value.func (Fn.func (44 : Nat)) (Array.mk []) (Array.mk []) ∧
                (↑L.length : Int) = (↑L.length : Int) ∧
                  (0 : Int) = (↑x.fst : Int) ∧ (↑L.length : Int) = (↑x.snd : Int) ∧ True) ∧
          True ∧ inv x) ∧
      ∀ (x : Nat × Nat),
        inv x →
          (decide ((↑x.fst : Int) < (↑x.snd : Int)) = true →
              ((0 : Int) ≤
                    IntKind.i64.wrap
                      ((IntKind.u64.wrap (IntKind.i64.wrap ((↑x.fst : Int) + (↑x.snd : Int)))).fdiv
                        ((2 : Int) ^ min (nat_lit 1) IntKind.u64.bits)) ∧
                  IntKind.i64.wrap
                        ((IntKind.u64.wrap (IntKind.i64.wrap ((↑x.fst : Int) + (↑x.snd : Int)))).fdiv
                          ((2 : Int) ^ min (nat_lit 1) IntKind.u64.bits)) +
                      (1 : Int) ≤
                    (↑L.length : Int)) ∧
                (decide
                        (cmpB
                            (brAt L
                                (IntKind.i64.wrap
                                    ((IntKind.u64.wrap (IntKind.i64.wrap ((↑x.fst : Int) + (↑x.snd : Int)))).fdiv
                                      ((2 : Int) ^ min (nat_lit 1) IntKind.u64.bits))).toNat).name
                            s <
                          (0 : Int)) =
                      true →
                    ∃ (y : Nat × Nat),
                      (((33 : Nat) = (33 : Nat) ∧ L.length = L.length ∧ ∀ (i : Nat), i < L.length → brsF L i = brsF L i) ∧
                          s = s ∧
                            Value.func (Fn.func (44 : Nat)) (Array.mk []) (Array.mk []) =
                                Value.func (Fn.func (44 : Nat)) (Array.mk []) (Array.mk []) ∧
                              (↑L.length : Int) = (↑L.length : Int) ∧
                                IntKind.i64.wrap
                                      (IntKind.i64.wrap
                                          ((IntKind.u64.wrap (IntKind.i64.wrap ((↑x.fst : Int) + (↑x.snd : Int)))).fdiv
                                            ((2 : Int) ^ min (nat_lit 1) IntKind.u64.bits)) +
                                        (1 : Int)) =
                                    (↑y.fst : Int) ∧
                                  (↑x.snd : Int) = (↑y.snd : Int) ∧ True) ∧
                        True ∧ inv y ∧ (y.snd - y.fst).succ.le (x.snd - x.fst)) ∧
                  (decide
                        (cmpB
                            (brAt L
                                (IntKind.i64.wrap
                                    ((IntKind.u64.wrap (IntKind.i64.wrap ((↑x.fst : Int) + (↑x.snd : Int)))).fdiv
                                      ((2 : Int) ^ min (nat_lit 1) IntKind.u64.bits))).toNat).name
                            s <
                          (0 : Int)) =
                      false →
                    ∃ (y : Nat × Nat),
                      (((33 : Nat) = (33 : Nat) ∧ L.length = L.length ∧ ∀ (i : Nat), i < L.length → brsF L i = brsF L i) ∧
                          s = s ∧
                            Value.func (Fn.func (44 : Nat)) (Array.mk []) (Array.mk []) =
                                Value.func (Fn.func (44 : Nat)) (Array.mk []) (Array.mk []) ∧
                              (↑L.length : Int) = (↑L.length : Int) ∧
                                (↑x.fst : Int) = (↑y.fst : Int) ∧
                                  IntKind.i64.wrap
                                        ((IntKind.u64.wrap (IntKind.i64.wrap ((↑x.fst : Int) + (↑x.snd : Int)))).fdiv
                                          ((2 : Int) ^ min (nat_lit 1) IntKind.u64.bits)) =
                                      (↑y.snd : Int) ∧
                                    True) ∧
                        True ∧ inv y ∧ (y.snd - y.fst).succ.le (x.snd - x.fst))) ∧
            (decide ((↑x.fst : Int) < (↑x.snd : Int)) = false →
              (gEq (decide ((↑x.fst : Int) < (↑L.length : Int))) true = true →
                  ((0 : Int) ≤ (↑x.fst : Int) ∧ (↑x.fst : Int) + (1 : Int) ≤ (↑L.length : Int)) ∧ True) ∧
                (gEq (decide ((↑x.fst : Int) < (↑L.length : Int))) true = true →
                    true = true ∧
                      (True ∧ True ∧ True) ∧
                        (True ∧ True ∧ True) ∧
                          R
                            (AV.tup
                              [AV.pl (Value.int IntKind.i64 (↑x.fst : Int)),
                                AV.pl
                                  (Value.bool
                                    (bif true then cmpB (brAt L (↑x.fst : Int).toNat).name s == (0 : Int) else false))])
                            []) ∧
                  (gEq (decide ((↑x.fst : Int) < (↑L.length : Int))) true = false →
                    true = true ∧
                      (True ∧ True ∧ True) ∧
                        (True ∧ True ∧ True) ∧
                          R (AV.tup [AV.pl (Value.int IntKind.i64 (↑x.fst : Int)), AV.pl (Value.bool false)]) []))) := by kernel_rfl
theorem v37 (L : List Br) (s : ByteArray) (R : AV → List LObj → Prop) :
    (vcA false 0 [] Try.prog (mkTab [(43, .lend T43)]) (Try.f37.body.getD .skip) ([]) (finalK Try.prog Try.f37 (R)) (startSt Try.f37 ([brs L, st s]))) = (
    ∃ (L_1 : List Br),
      IsBrs (AV.rows (33 : Nat) L.length (brsF L)) L_1 ∧
        Sorted L_1 ∧
          (True ∧ True ∧ True) ∧
            (True ∧ True ∧ True) ∧
              R (AV.tup [AV.pl (Value.int IntKind.i64 (↑(findI L_1 s) : Int)), AV.pl (Value.bool (hasB L_1 s))]) []) := by kernel_rfl
theorem v25 (L : List Br) (R : AV → List LObj → Prop) :
    (vcA false 0 [] Try.prog (mkTab []) (Try.f25.body.getD .skip) ([]) (finalK Try.prog Try.f25 (fun y H => ∃ _ : Unit, leSt 0 ⟨[y], H⟩ ⟨[.own 0 0 L.length], [brsO L]⟩ (R (.own 0 0 L.length) [brsO L]))) (startSt Try.f25 ([brs L]))) = (
    ∀ (b : Bool),
      ((0 : Nat) < L.length → b = false) →
        (b = true →
            (True ∧ True) ∧
              True ∧
                ∃ (_ : Unit),
                  ((True ∧ True ∧ (0 : Nat) = (0 : Nat) ∧ L.length = (0 : Nat)) ∧ True) ∧
                    (L.length = (0 : Nat) ∧ True) ∧
                      R (AV.own (0 : Nat) (0 : Nat) L.length) [LObj.row (33 : Nat) (45 : Nat) L.length (brsF L)]) ∧
          (b = false →
            True ∧
              (True ∧ L.length.le maxLen ∧ (L.length * (48 : Nat)).le (140737488355328 : Nat)) ∧
                (True ∧ True) ∧
                  True ∧
                    ∃ (_ : Unit),
                      ((True ∧ (0 : Nat) = (0 : Nat) ∧ L.length = L.length) ∧ True) ∧
                        (((33 : Nat) = (33 : Nat) ∧
                              (45 : Nat) = (45 : Nat) ∧
                                L.length.le L.length ∧ ∀ (i : Nat), i < L.length → brsF L i = brsF L i) ∧
                            True) ∧
                          R (AV.own (0 : Nat) (0 : Nat) L.length) [LObj.row (33 : Nat) (45 : Nat) L.length (brsF L)])) := by kernel_rfl
theorem v26 (L M : List Br) (inv : Nat → Prop) (R : AV → List LObj → Prop) :
    (vcA false 0 [] Try.prog (mkTab []) (Try.f26.body.getD .skip) ([.loop 4 Nat inv (fun p => ⟨slotsOf 26 0 [(0, brs L), (1, brs M), (12, nm L.length), (13, nm p)], []⟩) (fun p => L.length - p) (fun _ => [])]) (finalK Try.prog Try.f26 (R)) (startSt Try.f26 ([brs L, brs M]))) = (
    (((↑L.length : Int) != (↑M.length : Int)) = true → (True ∧ True) ∧ True ∧ R (AV.pl (Value.bool false)) []) ∧
      (((↑L.length : Int) != (↑M.length : Int)) = false →
        (∃ (x : Nat),
            (((33 : Nat) = (33 : Nat) ∧ L.length = L.length ∧ ∀ (i : Nat), i < L.length → brsF L i = brsF L i) ∧
                ((33 : Nat) = (33 : Nat) ∧ M.length = M.length ∧ ∀ (i : Nat), i < M.length → brsF M i = brsF M i) ∧
                  (↑L.length : Int) = (↑L.length : Int) ∧ (0 : Int) = (↑x : Int) ∧ True) ∧
              True ∧ inv x) ∧
          ∀ (x : Nat),
            inv x →
              (decide ((↑x : Int) < (↑L.length : Int)) = true →
                  ((0 : Int) ≤ (↑x : Int) ∧ (↑x : Int) + (1 : Int) ≤ (↑L.length : Int)) ∧
                    ((0 : Int) ≤ (↑x : Int) ∧ (↑x : Int) + (1 : Int) ≤ (↑L.length : Int)) ∧
                      ((0 : Int) ≤ (↑x : Int) ∧ (↑x : Int) + (1 : Int) ≤ (↑M.length : Int)) ∧
                        ((0 : Int) ≤ (↑x : Int) ∧ (↑x : Int) + (1 : Int) ≤ (↑M.length : Int)) ∧
                          ((!((brAt L (↑x : Int).toNat).name.toList == (brAt M (↑x : Int).toNat).name.toList &&
                                    (((List.range (32 : Nat)).all fun (i : Nat) =>
                                        (brAt L (↑x : Int).toNat).id i == (brAt M (↑x : Int).toNat).id i) &&
                                      true))) =
                                true →
                              (True ∧ True) ∧ True ∧ R (AV.pl (Value.bool false)) []) ∧
                            ((!((brAt L (↑x : Int).toNat).name.toList == (brAt M (↑x : Int).toNat).name.toList &&
                                    (((List.range (32 : Nat)).all fun (i : Nat) =>
                                        (brAt L (↑x : Int).toNat).id i == (brAt M (↑x : Int).toNat).id i) &&
                                      true))) =
                                false →
                              ∃ (y : Nat),
                                (((33 : Nat) = (33 : Nat) ∧
                                      L.length = L.length ∧ ∀ (i : Nat), i < L.length → brsF L i = brsF L i) ∧
                                    ((33 : Nat) = (33 : Nat) ∧
                                        M.length = M.length ∧ ∀ (i : Nat), i < M.length → brsF M i = brsF M i) ∧
                                      (↑L.length : Int) = (↑L.length : Int) ∧
                                        IntKind.i64.wrap ((↑x : Int) + (1 : Int)) = (↑y : Int) ∧ True) ∧
                                  True ∧ inv y ∧ (L.length - y).succ.le (L.length - x))) ∧
                (decide ((↑x : Int) < (↑L.length : Int)) = false → (True ∧ True) ∧ True ∧ R (AV.pl (Value.bool true)) []))) := by kernel_rfl
theorem v38 (a : Ans) (e : Int) (R : AV → List LObj → Prop) :
    (vcA false 0 [] Try.prog (mkTab []) (Try.f38.body.getD .skip) ([]) (finalK Try.prog Try.f38 (R)) (startSt Try.f38 ([nm e, .ipt a.av 0 0]))) = (
    (True ∧ True) ∧
      True ∧
        R (AV.pl (Value.bool (a.err == e && (((List.range (32 : Nat)).all fun (i : Nat) => a.id i == (0 : Int)) && true))))
          []) := by kernel_rfl
theorem brAt_cons (L : List Br) (i : Nat) (h : i < L.length) : L.drop i = brAt L i :: L.drop (i + 1) := by
  rw [List.drop_eq_getElem_cons h]; simp [brAt, h]
theorem sorted_at {L : List Br} (hs : Sorted L) : ∀ i j, i < j → j < L.length → lt (brAt L i).name.toList (brAt L j).name.toList = true := by
  intro i j hij hj
  have := List.pairwise_iff_getElem.1 hs i j (by omega) hj hij
  simpa [brAt, hj, show i < L.length by omega] using this
/-- What a search finds: all before are less, all from there on are not. -/
theorem findI_of {L : List Br} {s : ByteArray} {k : Nat} (hk : k ≤ L.length) (h1 : ∀ i, i < k → lt (brAt L i).name.toList s.toList = true) (h2 : k < L.length → lt (brAt L k).name.toList s.toList = false) : findI L s = k := by
  unfold findI
  induction L generalizing k with
  | nil => simp at hk; simp [hk]
  | cons b L ih =>
    cases k with
    | zero =>
      have := h2 (by simp)
      simp [brAt] at this
      rw [List.takeWhile_cons, if_neg (by simpa using this)]; rfl
    | succ k =>
      have h0 := h1 0 (by omega)
      simp [brAt] at h0
      rw [List.takeWhile_cons, if_pos (by simpa using h0), List.length_cons, ih (by simpa using hk) (fun i hi => by simpa [brAt] using h1 (i + 1) (by omega)) (fun hlt => by simpa [brAt] using h2 (by simpa using hlt))]
theorem hasB_of {L : List Br} (hs : Sorted L) {s : ByteArray} {k : Nat} (hk : k ≤ L.length) (h1 : ∀ i, i < k → lt (brAt L i).name.toList s.toList = true) (h2 : ∀ i, k ≤ i → i < L.length → lt (brAt L i).name.toList s.toList = false) : hasB L s = (decide (k < L.length) && ((brAt L k).name.toList == s.toList)) := by
  rw [Bool.eq_iff_iff, hasB, List.any_eq_true, Bool.and_eq_true, decide_eq_true_eq]
  constructor
  · rintro ⟨b, hm, hb⟩
    obtain ⟨i, hi, rfl⟩ := List.getElem_of_mem hm
    have hbi : (brAt L i).name.toList = s.toList := by simpa [brAt, hi] using hb
    have hik : k ≤ i := by
      rcases Nat.lt_or_ge i k with h | h
      · have := h1 i h
        rw [hbi, lt_irrefl] at this; cases this
      · exact h
    have : i = k := by
      rcases Nat.lt_or_ge k i with h | h
      · have h3 := sorted_at hs k i h hi
        rw [hbi, h2 k (Nat.le_refl _) (by omega)] at h3; cases h3
      · omega
    subst this
    exact ⟨hi, by simpa using hbi⟩
  · rintro ⟨hlt, hb⟩
    exact ⟨brAt L k, by simp [brAt, hlt], hb⟩
theorem mid {lo hi : Nat} (h : lo + hi < 18446744073709551616) : IntKind.i64.wrap ((IntKind.u64.wrap (IntKind.i64.wrap ((lo : Int) + hi))).fdiv (2 ^ min 1 IntKind.u64.bits)) = (((lo + hi) / 2 : Nat) : Int) := by
  have e : IntKind.u64.wrap (IntKind.i64.wrap ((lo : Int) + hi)) = (lo : Int) + hi := by
    simp only [IntKind.wrap, IntKind.signed, IntKind.bits]; simp; split <;> omega
  rw [e]
  have e2 : ((2 : Int) ^ min 1 IntKind.u64.bits) = 2 := by simp [IntKind.bits]
  rw [e2, Int.fdiv_eq_ediv_of_nonneg _ (by omega), wrap64] <;> omega
theorem X43 : EntOk Try.prog 43 (.lend T43) := by
  refine ⟨enters_of (fn := Try.f43) rfl rfl (by kernel_rfl), fun args R h => ?_⟩
  unfold T43 at h
  split at h
  case h_2 => exact h.elim
  rename_i x s
  obtain ⟨L, hs, hS, h⟩ := h
  refine Spec.args (args' := [brs L, st s, .pl (.func (.func 44) #[] #[])]) ⟨hs, rfl, rfl, trivial⟩ (Spec.given fun hg => mkS (v43 L s (fun p => p.1 ≤ p.2 ∧ p.2 ≤ L.length ∧ (∀ i, i < p.1 → lt (brAt L i).name.toList s.toList = true) ∧ (∀ i, p.2 ≤ i → i < L.length → lt (brAt L i).name.toList s.toList = false)) R) (tb (ac X44 az)) rfl rfl ?_)
  simp only [true_and, and_true, and_self, implies_true, gEq_true, natle_iff, decide_eq_true_eq, decide_eq_false_iff_not, Int.toNat_natCast, Bool.cond_true, implies_true]
  have hL : L.length ≤ 9223372036854775807 := by rw [← maxLen_eq]; exact hg.1
  refine ⟨⟨(0, L.length), ⟨rfl, rfl⟩, by simp, by simp, fun i hi => by simp at hi, fun i hi hi2 => by simp at hi; omega⟩, ?_⟩
  rintro ⟨lo, hi⟩ ⟨h0, h1, h2, h3⟩
  simp only at h0 h1 h2 h3 ⊢
  refine ⟨fun hlt => ?_, fun hge => ?_⟩
  · rw [mid (by omega)]
    simp only [Int.toNat_natCast]
    refine ⟨by omega, fun hc => ⟨((lo + hi) / 2 + 1, hi), ⟨by rw [wrap64] <;> omega, rfl⟩, ⟨by simp only; omega, h1, fun i hi' => ?_, h3⟩, by simp only; omega⟩, fun hc => ⟨(lo, (lo + hi) / 2), ⟨rfl, rfl⟩, ⟨by simp only; omega, by simp only; omega, h2, fun i hi' hi2 => ?_⟩, by simp only; omega⟩⟩
    · have hm : lt (brAt L ((lo + hi) / 2)).name.toList s.toList = true := cmp_neg.1 hc
      simp only at hi'
      rcases Nat.lt_or_ge i ((lo + hi) / 2) with h4 | h4
      · exact lt_trans (sorted_at hS i _ h4 (by omega)) hm
      · have : i = (lo + hi) / 2 := by omega
        rw [this]; exact hm
    · have hm : lt (brAt L ((lo + hi) / 2)).name.toList s.toList = false := by
        cases hx : lt (brAt L ((lo + hi) / 2)).name.toList s.toList with
        | false => rfl
        | true => exact absurd (cmp_neg.2 hx) hc
      simp only at hi'
      rcases Nat.lt_or_ge ((lo + hi) / 2) i with h4 | h4
      · cases hx : lt (brAt L i).name.toList s.toList with
        | false => rfl
        | true =>
          have := lt_trans (sorted_at hS _ i h4 hi2) hx
          rw [hm] at this; cases this
      · have : i = (lo + hi) / 2 := by omega
        rw [this]; exact hm
  · have he : hi = lo := by omega
    subst he
    have hf : findI L s = hi := findI_of h1 h2 (fun hlt => h3 hi (Nat.le_refl _) hlt)
    have hb := hasB_of hS h1 h2 h3
    rw [hf, hb] at h
    refine ⟨fun _ => by omega, fun hlt => ?_, fun hlt => ?_⟩
    · have e : (cmpB (brAt L hi).name s == 0) = ((brAt L hi).name.toList == s.toList) := by
        rw [Bool.eq_iff_iff, beq_iff_eq, beq_iff_eq]; exact cmp_zero
      have hd : decide (hi < L.length) = true := by simp; omega
      rw [hd, Bool.true_and] at h
      rw [e]
      exact h
    · have hd : decide (hi < L.length) = false := by simp; omega
      rw [hd, Bool.false_and] at h
      exact h
theorem X37 : EntOk Try.prog 37 (.lend T37) := by
  refine ⟨enters_of (fn := Try.f37) rfl rfl (by kernel_rfl), fun args R h => ?_⟩
  unfold T37 at h
  split at h
  case h_2 => exact h.elim
  rename_i x s
  obtain ⟨L, hs, hS, h⟩ := h
  refine Spec.args (args' := [brs L, st s]) ⟨hs, rfl, trivial⟩ (mkS (v37 L s R) (tb (ac X43 az)) rfl rfl ?_)
  simp only [true_and, and_self]
  exact ⟨L, isBrs_self L, hS, h⟩
theorem X25 : EntOk Try.prog 25 (.lend T25) := by
  refine ⟨enters_of (fn := Try.f25) rfl rfl (by kernel_rfl), fun args R h => ?_⟩
  unfold T25 at h
  split at h
  case h_2 => exact h.elim
  obtain ⟨L, hs, hB, h⟩ := h
  refine Spec.args (args' := [brs L]) ⟨hs, trivial⟩ (Spec.weak (Z := Unit) (X := fun _ => .own 0 0 L.length) (HH := fun _ => [brsO L]) (mkS (v25 L R) (tb az) rfl rfl ?_))
  simp only [true_and, and_true, and_self, implies_true, natle_iff, implies_true]
  unfold Bd at hB
  rw [maxLen_eq]
  refine fun b hb => ⟨fun hb1 => ?_, fun _ => ⟨⟨by omega, by omega⟩, (), Nat.le_refl _, h⟩⟩
  have : L.length = 0 := by
    rcases Nat.eq_zero_or_pos L.length with h0 | h0
    · exact h0
    · have := hb h0
      rw [hb1] at this; cases this
  exact ⟨(), this, this, h⟩
theorem brsEq_len : ∀ (L M : List Br), L.length ≠ M.length → brsEq L M = false := by
  intro L
  induction L with
  | nil => intro M h; cases M with
    | nil => exact absurd rfl h
    | cons _ _ => rfl
  | cons a L ih => intro M h; cases M with
    | nil => rfl
    | cons b M => rw [brsEq, ih M (by simpa using h), Bool.and_false]
theorem X26 : EntOk Try.prog 26 (.lend T26) := by
  refine ⟨enters_of (fn := Try.f26) rfl rfl (by kernel_rfl), fun args R h => ?_⟩
  unfold T26 at h
  split at h
  case h_2 => exact h.elim
  obtain ⟨L, M, hs, hs2, h⟩ := h
  refine Spec.args (args' := [brs L, brs M]) ⟨hs, hs2, trivial⟩ (Spec.given fun hg => mkS (v26 L M (fun p => p ≤ L.length ∧ L.length = M.length ∧ brsEq L M = brsEq (L.drop p) (M.drop p)) R) (tb az) rfl rfl ?_)
  simp only [true_and, and_true, and_self, implies_true, natle_iff, decide_eq_true_eq, decide_eq_false_iff_not, Int.toNat_natCast, implies_true, Bool.not_eq_true', Bool.not_eq_false']
  have hL : L.length ≤ 9223372036854775807 := by rw [← maxLen_eq]; exact hg.1
  refine ⟨fun hne => ?_, fun he => ⟨⟨0, rfl, Nat.zero_le _, Int.ofNat.inj (by simpa [bne] using he), rfl⟩, fun x hx => ⟨fun hlt => ⟨by omega, by omega, by omega, by omega, fun hb => ?_, fun hb => ?_⟩, fun hge => ?_⟩⟩⟩
  · rw [brsEq_len L M (by intro h; rw [h] at hne; simp at hne)] at h
    exact h
  · rw [hx.2.2, brAt_cons L x (by omega), brAt_cons M x (by omega), brsEq] at h
    have : brEq (brAt L x) (brAt M x) = false := by simpa [brEq, idEq] using hb
    rw [this] at h
    exact h
  · refine ⟨x + 1, by rw [wrap64] <;> omega, ⟨by omega, hx.2.1, ?_⟩, by omega⟩
    have : brEq (brAt L x) (brAt M x) = true := by simpa [brEq, idEq] using hb
    rw [hx.2.2, brAt_cons L x (by omega), brAt_cons M x (by omega), brsEq, this, Bool.true_and]
  · have : x = L.length := by omega
    subst this
    rw [hx.2.2, List.drop_length, hx.2.1, List.drop_length] at h
    exact h
theorem X38 : EntOk Try.prog 38 (.lend T38) := by
  refine ⟨enters_of (fn := Try.f38) rfl rfl (by kernel_rfl), fun args R h => ?_⟩
  unfold T38 at h
  split at h
  case h_2 => exact h.elim
  rename_i e er id
  refine (mkS (v38 ⟨er, id⟩ e R) (tb az) rfl rfl ?_)
  simp only [true_and, and_self]
  rw [Bool.and_true]
  exact h
end Go.Proofs.R1

namespace Go.Proofs.R1
open Go Go.Am

def F46 : List LObj → List AV → Option (Prop × AV) := fun H args => match args with
  | [.own l _ _, .own l' _ _] => match Nat.beq l l', H[l]?, H[l']? with
    | false, some (.row 33 _ _ _), some (.row 33 _ _ _) => some (True, bl false)
    | _, _, _ => none
  | _ => none
theorem X46 : EntOk Try.prog 46 (.ext F46) := by
  intro E0 E H vs xs p x g hl hr hF hp
  unfold F46 at hF
  split at hF
  · rename_i l o n l' o' n'
    split at hF
    · rename_i hne h1 h2
      injection hF with hF
      simp only [Prod.mk.injEq] at hF
      obtain ⟨_, rfl⟩ := hF
      match vs, hl with
      | [u, v], _ =>
        refine ⟨.bool false, ?_, Rep.pl _ rfl⟩
        rw [run_callFunc_extern (f := 46) (fn := Try.f46) rfl (by kernel_rfl) (by kernel_rfl) (by kernel_rfl) (e := Extern.SlicesOverlaps.overlaps #[22, 22] #[4]) (by kernel_rfl)]
        rw [run_overlaps_own (P := Try.prog) g (tS := 22) (tR := 4) (e := 45) (by kernel_rfl) (size := 33) (fun w => Go.Am.run_sizeOf (P := Try.prog) (w := w) (t := 45) (z := 33) (by kernel_rfl)) (by omega) h1 h2 (fun hh => by rw [hh, Nat.beq_refl] at hne; cases hne) (hr 0 u _ rfl rfl) (hr 1 v _ rfl rfl)]
        rfl
    · cases hF
  · cases hF

/-- A row with one more, with one less. -/
def insF (f : Nat → AV) (i : Nat) (x : AV) (q : Nat) : AV := if q < i then f q else if q = i then x else f (q - 1)
def delF (f : Nat → AV) (i : Nat) (q : Nat) : AV := if q < i then f q else f (q + 1)
/-- Which own rows are handed over. -/
def tk39 (xs : List AV) : List Nat := match xs with
  | [.own l _ _, _, .own l' _ _] => [l, l']
  | _ => []
def T39 : HTrans := fun H0 args K => match H0, args with
  | [.row 33 45 n f, .row 33 45 1 g], [.own 0 0 n', .pl (.int .i64 i), .own 1 0 1] => n = n' ∧ 0 ≤ i ∧ i ≤ n ∧ n ≤ 1000000 ∧ K (.own 2 0 (n + 1)) [.dead, .dead, .row 33 45 (n + 1) (insF f i.toNat (g 0))]
  | _, _ => False
def tk40 (xs : List AV) : List Nat := match xs with
  | .own l _ _ :: _ => [l]
  | _ => []
def T40 : HTrans := fun H0 args K => match H0, args with
  | [.row 33 45 n f], [.own 0 0 n', .pl (.int .i64 i), .pl (.int .i64 j)] => n = n' ∧ 0 ≤ i ∧ j = i + 1 ∧ j ≤ n ∧ n ≤ 1000000 ∧ K (.own 0 0 (n - 1)) [.row 33 45 (n - 1) (delF f i.toNat)]
  | _, _ => False

end Go.Proofs.R1

namespace Go.Proofs.R1
open Go Go.Am

theorem v40 (n : Nat) (i j : Int) (f : Nat → AV) (R : AV → List LObj → Prop) :
    (vcA false (List.length ([.row 33 45 n f] : List LObj)) [] Try.prog (mkTab []) (Try.f40.body.getD .skip) ([]) (finalKH Try.prog Try.f40 (fun y H => ∃ _ : Unit, leSt 1 ⟨[y], H⟩ ⟨[.own 0 0 (n - 1)], [.row 33 45 (n - 1) (delF f i.toNat)]⟩ (R (.own 0 0 (n - 1)) [.row 33 45 (n - 1) (delF f i.toNat)]))) (startStH Try.f40 ([.row 33 45 n f]) ([.own 0 0 n, nm i, nm j]))) = (
    (0 : Int) ≤ i ∧
      i ≤ j ∧
        j ≤ (↑n : Int) ∧
          (↑n : Int) ≤ (↑n : Int) ∧
            ((i == j) = true →
                (True ∧ True) ∧
                  ∃ (_ : Unit),
                    ((True ∧ (0 : Nat) = (0 : Nat) ∧ n = n - (1 : Nat)) ∧ True) ∧
                      (((33 : Nat) = (33 : Nat) ∧
                            (45 : Nat) = (45 : Nat) ∧
                              (n - (1 : Nat)).le n ∧ ∀ (i_1 : Nat), i_1 < n - (1 : Nat) → f i_1 = delF f i.toNat i_1) ∧
                          True) ∧
                        R (AV.own (0 : Nat) (0 : Nat) (n - (1 : Nat)))
                          [LObj.row (33 : Nat) (45 : Nat) (n - (1 : Nat)) (delF f i.toNat)]) ∧
              ((i == j) = false →
                ((0 : Int) ≤ (0 : Int) ∧ (0 : Int) ≤ i ∧ (↑(0 : Nat) : Int) + i ≤ (↑n : Int)) ∧
                  ((0 : Int) ≤ (0 : Int) ∧ (0 : Int) ≤ i ∧ (↑(0 : Nat) : Int) + i ≤ (↑n : Int)) ∧
                    ((0 : Int) ≤ j ∧ j ≤ (↑n : Int) ∧ True) ∧
                      ((0 : Int) ≤ j ∧ j ≤ (↑n : Int) ∧ True) ∧
                        (33 : Nat) = (33 : Nat) ∧
                          (i.toNat - Int.toNat (0 : Int) + ((↑n : Int).toNat - j.toNat)).le n ∧
                            ((0 : Nat) + j.toNat + ((↑n : Int).toNat - j.toNat)).le n ∧
                              ((0 : Int) ≤ (↑(i.toNat - Int.toNat (0 : Int) + ((↑n : Int).toNat - j.toNat)) : Int) ∧
                                  (↑(i.toNat - Int.toNat (0 : Int) + ((↑n : Int).toNat - j.toNat)) : Int) ≤ (↑n : Int) ∧
                                    (↑(0 : Nat) : Int) + (↑n : Int) ≤
                                      (↑(wrN n (i.toNat - Int.toNat (0 : Int)) ((↑n : Int).toNat - j.toNat)) : Int)) ∧
                                (33 : Nat) = (33 : Nat) ∧
                                  ((0 : Nat) +
                                            (↑(i.toNat - Int.toNat (0 : Int) + ((↑n : Int).toNat - j.toNat)) : Int).toNat +
                                          ((↑n : Int).toNat -
                                            (↑(i.toNat - Int.toNat (0 : Int) + ((↑n : Int).toNat - j.toNat)) :
                                                Int).toNat)).le
                                      (wrN n (i.toNat - Int.toNat (0 : Int)) ((↑n : Int).toNat - j.toNat)) ∧
                                    (True ∧ True) ∧
                                      ∃ (_ : Unit),
                                        ((True ∧
                                              (0 : Nat) = (0 : Nat) ∧
                                                i.toNat - Int.toNat (0 : Int) + ((↑n : Int).toNat - j.toNat) =
                                                  n - (1 : Nat)) ∧
                                            True) ∧
                                          (((33 : Nat) = (33 : Nat) ∧
                                                (45 : Nat) = (45 : Nat) ∧
                                                  (n - (1 : Nat)).le
                                                      (wrN
                                                        (wrN n (i.toNat - Int.toNat (0 : Int)) ((↑n : Int).toNat - j.toNat))
                                                        ((0 : Nat) +
                                                          (↑(i.toNat - Int.toNat (0 : Int) + ((↑n : Int).toNat - j.toNat)) :
                                                              Int).toNat)
                                                        ((↑n : Int).toNat -
                                                          (↑(i.toNat - Int.toNat (0 : Int) + ((↑n : Int).toNat - j.toNat)) :
                                                              Int).toNat)) ∧
                                                    ∀ (i_1 : Nat),
                                                      i_1 < n - (1 : Nat) →
                                                        wrF
                                                            (wrF f (i.toNat - Int.toNat (0 : Int))
                                                              ((↑n : Int).toNat - j.toNat) fun (q : Nat) =>
                                                              f ((0 : Nat) + j.toNat + q))
                                                            ((0 : Nat) +
                                                              (↑(i.toNat - Int.toNat (0 : Int) +
                                                                      ((↑n : Int).toNat - j.toNat)) :
                                                                  Int).toNat)
                                                            ((↑n : Int).toNat -
                                                              (↑(i.toNat - Int.toNat (0 : Int) +
                                                                      ((↑n : Int).toNat - j.toNat)) :
                                                                  Int).toNat)
                                                            (fun (_ : Nat) =>
                                                              AV.agg
                                                                ([avOf (Value.string (ByteArray.mk #[]))] ++
                                                                  ([AV.iarr IntKind.u8 (32 : Nat) fun (_ : Nat) =>
                                                                        (0 : Int)] ++
                                                                    [])))
                                                            i_1 =
                                                          delF f i.toNat i_1) ∧
                                              True) ∧
                                            R (AV.own (0 : Nat) (0 : Nat) (n - (1 : Nat)))
                                              [LObj.row (33 : Nat) (45 : Nat) (n - (1 : Nat)) (delF f i.toNat)])) := by kernel_rfl
theorem v39 (n : Nat) (i : Int) (f g : Nat → AV) (R : AV → List LObj → Prop) :
    (vcA false (List.length ([.row 33 45 n f, .row 33 45 1 g] : List LObj)) [] Try.prog (mkTab [(46, .ext F46)]) (Try.f39.body.getD .skip) ([]) (finalKH Try.prog Try.f39 (fun y H => ∃ _ : Unit, leSt 2 ⟨[y], H⟩ ⟨[.own 2 0 (n + 1)], [.dead, .dead, .row 33 45 (n + 1) (insF f i.toNat (g 0))]⟩ (R (.own 2 0 (n + 1)) [.dead, .dead, .row 33 45 (n + 1) (insF f i.toNat (g 0))]))) (startStH Try.f39 ([.row 33 45 n f, .row 33 45 1 g]) ([.own 0 0 n, nm i, .own 1 0 1]))) = (
    ((0 : Int) ≤ i ∧ i ≤ (↑n : Int) ∧ True) ∧
      (((↑(1 : Nat) : Int) == (0 : Int)) = true →
          (True ∧ True) ∧
            ∃ (_ : Unit),
              ((True ∧ (0 : Nat) = (0 : Nat) ∧ n = n + (1 : Nat)) ∧ True) ∧
                (True ∧
                    True ∧
                      ((33 : Nat) = (33 : Nat) ∧
                          (45 : Nat) = (45 : Nat) ∧
                            (n + (1 : Nat)).le n ∧
                              ∀ (i_1 : Nat), i_1 < n + (1 : Nat) → f i_1 = insF f i.toNat (g (0 : Nat)) i_1) ∧
                        True) ∧
                  R (AV.own (2 : Nat) (0 : Nat) (n + (1 : Nat)))
                    [LObj.dead, LObj.dead, LObj.row (33 : Nat) (45 : Nat) (n + (1 : Nat)) (insF f i.toNat (g (0 : Nat)))]) ∧
        (((↑(1 : Nat) : Int) == (0 : Int)) = false →
          ((i == (↑n : Int)) = true →
              (((0 : Nat) + (1 : Nat)).le (1 : Nat) ∧
                  n = n ∧ (n + (1 : Nat)).le maxLen ∧ ((n + (1 : Nat)) * (48 : Nat)).le (140737488355328 : Nat)) ∧
                (True ∧ True) ∧
                  ∃ (_ : Unit),
                    ((True ∧ (0 : Nat) = (0 : Nat) ∧ n + (1 : Nat) = n + (1 : Nat)) ∧ True) ∧
                      (True ∧
                          True ∧
                            ((33 : Nat) = (33 : Nat) ∧
                                (45 : Nat) = (45 : Nat) ∧
                                  (n + (1 : Nat)).le (n + (1 : Nat)) ∧
                                    ∀ (i_1 : Nat),
                                      i_1 < n + (1 : Nat) →
                                        (if i_1 < n then f i_1 else g ((0 : Nat) + (i_1 - n))) =
                                          insF f i.toNat (g (0 : Nat)) i_1) ∧
                              True) ∧
                        R (AV.own (2 : Nat) (0 : Nat) (n + (1 : Nat)))
                          [LObj.dead, LObj.dead,
                            LObj.row (33 : Nat) (45 : Nat) (n + (1 : Nat)) (insF f i.toNat (g (0 : Nat)))]) ∧
            ((i == (↑n : Int)) = false →
              ∀ (c : Nat),
                n ≤ c →
                  n ≤ c →
                    c ≤ maxLen →
                      (decide (IntKind.i64.wrap ((↑n : Int) + (↑(1 : Nat) : Int)) > (↑c : Int)) = true →
                          (0 : Int) ≤ i ∧
                            i ≤ (↑c : Int) ∧
                              (33 : Nat) = (33 : Nat) ∧
                                (45 : Nat) = (45 : Nat) ∧
                                  (0 : Int) + (1 : Int) ≤
                                      IntKind.i64.wrap (IntKind.i64.wrap ((↑n : Int) + (↑(1 : Nat) : Int)) - i) ∧
                                    i.toNat.le n ∧
                                      c.succ.le
                                          (i.toNat +
                                            (IntKind.i64.wrap
                                                (IntKind.i64.wrap ((↑n : Int) + (↑(1 : Nat) : Int)) - i)).toNat) ∧
                                        (i.toNat +
                                                (IntKind.i64.wrap
                                                    (IntKind.i64.wrap ((↑n : Int) + (↑(1 : Nat) : Int)) - i)).toNat).le
                                            maxLen ∧
                                          ((i.toNat +
                                                    (IntKind.i64.wrap
                                                        (IntKind.i64.wrap ((↑n : Int) + (↑(1 : Nat) : Int)) - i)).toNat) *
                                                  (48 : Nat)).le
                                              (70368744177664 : Nat) ∧
                                            ((0 : Int) ≤ i ∧
                                                i ≤
                                                    (↑(i.toNat +
                                                          (IntKind.i64.wrap
                                                              (IntKind.i64.wrap ((↑n : Int) + (↑(1 : Nat) : Int)) -
                                                                i)).toNat) :
                                                      Int) ∧
                                                  True) ∧
                                              (33 : Nat) = (33 : Nat) ∧
                                                ((0 : Nat) +
                                                        Nat.min (1 : Nat)
                                                          ((↑(i.toNat +
                                                                    (IntKind.i64.wrap
                                                                        (IntKind.i64.wrap
                                                                            ((↑n : Int) + (↑(1 : Nat) : Int)) -
                                                                          i)).toNat) :
                                                                Int).toNat -
                                                            i.toNat)).le
                                                    (1 : Nat) ∧
                                                  ((0 : Nat) + i.toNat).le
                                                      (i.toNat +
                                                        (IntKind.i64.wrap
                                                            (IntKind.i64.wrap ((↑n : Int) + (↑(1 : Nat) : Int)) -
                                                              i)).toNat) ∧
                                                    ((0 : Int) ≤ IntKind.i64.wrap (i + (↑(1 : Nat) : Int)) ∧
                                                        IntKind.i64.wrap (i + (↑(1 : Nat) : Int)) ≤
                                                            (↑(i.toNat +
                                                                  (IntKind.i64.wrap
                                                                      (IntKind.i64.wrap ((↑n : Int) + (↑(1 : Nat) : Int)) -
                                                                        i)).toNat) :
                                                              Int) ∧
                                                          True) ∧
                                                      ((0 : Int) ≤ IntKind.i64.wrap (i + (↑(1 : Nat) : Int)) ∧
                                                          IntKind.i64.wrap (i + (↑(1 : Nat) : Int)) ≤
                                                              (↑(i.toNat +
                                                                    (IntKind.i64.wrap
                                                                        (IntKind.i64.wrap
                                                                            ((↑n : Int) + (↑(1 : Nat) : Int)) -
                                                                          i)).toNat) :
                                                                Int) ∧
                                                            True) ∧
                                                        ((0 : Int) ≤ i ∧ i ≤ (↑n : Int) ∧ True) ∧
                                                          ((0 : Int) ≤ i ∧ i ≤ (↑n : Int) ∧ True) ∧
                                                            (33 : Nat) = (33 : Nat) ∧
                                                              ((0 : Nat) + i.toNat +
                                                                      ((↑n : Int).toNat - i.toNat).min
                                                                        ((↑(i.toNat +
                                                                                  (IntKind.i64.wrap
                                                                                      (IntKind.i64.wrap
                                                                                          ((↑n : Int) +
                                                                                            (↑(1 : Nat) : Int)) -
                                                                                        i)).toNat) :
                                                                              Int).toNat -
                                                                          (IntKind.i64.wrap
                                                                              (i + (↑(1 : Nat) : Int))).toNat)).le
                                                                  n ∧
                                                                ((0 : Nat) +
                                                                        (IntKind.i64.wrap
                                                                            (i + (↑(1 : Nat) : Int))).toNat).le
                                                                    (wrN
                                                                      (i.toNat +
                                                                        (IntKind.i64.wrap
                                                                            (IntKind.i64.wrap
                                                                                ((↑n : Int) + (↑(1 : Nat) : Int)) -
                                                                              i)).toNat)
                                                                      ((0 : Nat) + i.toNat)
                                                                      (Nat.min (1 : Nat)
                                                                        ((↑(i.toNat +
                                                                                  (IntKind.i64.wrap
                                                                                      (IntKind.i64.wrap
                                                                                          ((↑n : Int) +
                                                                                            (↑(1 : Nat) : Int)) -
                                                                                        i)).toNat) :
                                                                              Int).toNat -
                                                                          i.toNat))) ∧
                                                                  (True ∧ True) ∧
                                                                    ∃ (_ : Unit),
                                                                      ((True ∧
                                                                            (0 : Nat) = (0 : Nat) ∧
                                                                              i.toNat +
                                                                                  (IntKind.i64.wrap
                                                                                      (IntKind.i64.wrap
                                                                                          ((↑n : Int) +
                                                                                            (↑(1 : Nat) : Int)) -
                                                                                        i)).toNat =
                                                                                n + (1 : Nat)) ∧
                                                                          True) ∧
                                                                        (True ∧
                                                                            True ∧
                                                                              ((33 : Nat) = (33 : Nat) ∧
                                                                                  (45 : Nat) = (45 : Nat) ∧
                                                                                    (n + (1 : Nat)).le
                                                                                        (wrN
                                                                                          (wrN
                                                                                            (i.toNat +
                                                                                              (IntKind.i64.wrap
                                                                                                  (IntKind.i64.wrap
                                                                                                      ((↑n : Int) +
                                                                                                        (↑(1 : Nat) :
                                                                                                          Int)) -
                                                                                                    i)).toNat)
                                                                                            ((0 : Nat) + i.toNat)
                                                                                            (Nat.min (1 : Nat)
                                                                                              ((↑(i.toNat +
                                                                                                        (IntKind.i64.wrap
                                                                                                            (IntKind.i64.wrap
                                                                                                                ((↑n :
                                                                                                                    Int) +
                                                                                                                  (↑(1 :
                                                                                                                        Nat) :
                                                                                                                    Int)) -
                                                                                                              i)).toNat) :
                                                                                                    Int).toNat -
                                                                                                i.toNat)))
                                                                                          ((0 : Nat) +
                                                                                            (IntKind.i64.wrap
                                                                                                (i +
                                                                                                  (↑(1 : Nat) :
                                                                                                    Int))).toNat)
                                                                                          (((↑n : Int).toNat - i.toNat).min
                                                                                            ((↑(i.toNat +
                                                                                                      (IntKind.i64.wrap
                                                                                                          (IntKind.i64.wrap
                                                                                                              ((↑n : Int) +
                                                                                                                (↑(1 :
                                                                                                                      Nat) :
                                                                                                                  Int)) -
                                                                                                            i)).toNat) :
                                                                                                  Int).toNat -
                                                                                              (IntKind.i64.wrap
                                                                                                  (i +
                                                                                                    (↑(1 : Nat) :
                                                                                                      Int))).toNat))) ∧
                                                                                      ∀ (i_1 : Nat),
                                                                                        i_1 < n + (1 : Nat) →
                                                                                          wrF
                                                                                              (wrF
                                                                                                (fun (q : Nat) =>
                                                                                                  if q < i.toNat then f q
                                                                                                  else
                                                                                                    AV.agg
                                                                                                      ([avOf
                                                                                                            (Value.string
                                                                                                              (ByteArray.mk
                                                                                                                #[]))] ++
                                                                                                        ([AV.iarr IntKind.u8
                                                                                                              (32 : Nat)
                                                                                                              fun
                                                                                                                (_ : Nat) =>
                                                                                                              (0 : Int)] ++
                                                                                                          [])))
                                                                                                ((0 : Nat) + i.toNat)
                                                                                                (Nat.min (1 : Nat)
                                                                                                  ((↑(i.toNat +
                                                                                                            (IntKind.i64.wrap
                                                                                                                (IntKind.i64.wrap
                                                                                                                    ((↑n :
                                                                                                                        Int) +
                                                                                                                      (↑(1 :
                                                                                                                            Nat) :
                                                                                                                        Int)) -
                                                                                                                  i)).toNat) :
                                                                                                        Int).toNat -
                                                                                                    i.toNat))
                                                                                                fun (i : Nat) =>
                                                                                                g ((0 : Nat) + i))
                                                                                              ((0 : Nat) +
                                                                                                (IntKind.i64.wrap
                                                                                                    (i +
                                                                                                      (↑(1 : Nat) :
                                                                                                        Int))).toNat)
                                                                                              (((↑n : Int).toNat -
                                                                                                    i.toNat).min
                                                                                                ((↑(i.toNat +
                                                                                                          (IntKind.i64.wrap
                                                                                                              (IntKind.i64.wrap
                                                                                                                  ((↑n :
                                                                                                                      Int) +
                                                                                                                    (↑(1 :
                                                                                                                          Nat) :
                                                                                                                      Int)) -
                                                                                                                i)).toNat) :
                                                                                                      Int).toNat -
                                                                                                  (IntKind.i64.wrap
                                                                                                      (i +
                                                                                                        (↑(1 : Nat) :
                                                                                                          Int))).toNat))
                                                                                              (fun (i_2 : Nat) =>
                                                                                                f
                                                                                                  ((0 : Nat) + i.toNat +
                                                                                                    i_2))
                                                                                              i_1 =
                                                                                            insF f i.toNat (g (0 : Nat))
                                                                                              i_1) ∧
                                                                                True) ∧
                                                                          R (AV.own (2 : Nat) (0 : Nat) (n + (1 : Nat)))
                                                                            [LObj.dead, LObj.dead,
                                                                              LObj.row (33 : Nat) (45 : Nat) (n + (1 : Nat))
                                                                                (insF f i.toNat (g (0 : Nat)))]) ∧
                        (decide (IntKind.i64.wrap ((↑n : Int) + (↑(1 : Nat) : Int)) > (↑c : Int)) = false →
                          (0 : Int) ≤ IntKind.i64.wrap ((↑n : Int) + (↑(1 : Nat) : Int)) ∧
                            IntKind.i64.wrap ((↑n : Int) + (↑(1 : Nat) : Int)) ≤ (↑c : Int) ∧
                              ((0 : Int) ≤ IntKind.i64.wrap (i + (↑(1 : Nat) : Int)) ∧
                                  IntKind.i64.wrap (i + (↑(1 : Nat) : Int)) ≤
                                      (↑(IntKind.i64.wrap ((↑n : Int) + (↑(1 : Nat) : Int))).toNat : Int) ∧
                                    True) ∧
                                True ∧
                                  ((!false) = true →
                                      ((0 : Int) ≤ IntKind.i64.wrap (i + (↑(1 : Nat) : Int)) ∧
                                          IntKind.i64.wrap (i + (↑(1 : Nat) : Int)) ≤
                                              (↑(IntKind.i64.wrap ((↑n : Int) + (↑(1 : Nat) : Int))).toNat : Int) ∧
                                            True) ∧
                                        ((0 : Int) ≤ IntKind.i64.wrap (i + (↑(1 : Nat) : Int)) ∧
                                            IntKind.i64.wrap (i + (↑(1 : Nat) : Int)) ≤
                                                (↑(IntKind.i64.wrap ((↑n : Int) + (↑(1 : Nat) : Int))).toNat : Int) ∧
                                              True) ∧
                                          ((0 : Int) ≤ i ∧
                                              i ≤ (↑(IntKind.i64.wrap ((↑n : Int) + (↑(1 : Nat) : Int))).toNat : Int) ∧
                                                True) ∧
                                            ((0 : Int) ≤ i ∧
                                                i ≤ (↑(IntKind.i64.wrap ((↑n : Int) + (↑(1 : Nat) : Int))).toNat : Int) ∧
                                                  True) ∧
                                              (33 : Nat) = (33 : Nat) ∧
                                                ((0 : Nat) + i.toNat +
                                                        ((↑(IntKind.i64.wrap ((↑n : Int) + (↑(1 : Nat) : Int))).toNat :
                                                                  Int).toNat -
                                                              i.toNat).min
                                                          ((↑(IntKind.i64.wrap ((↑n : Int) + (↑(1 : Nat) : Int))).toNat :
                                                                Int).toNat -
                                                            (IntKind.i64.wrap (i + (↑(1 : Nat) : Int))).toNat)).le
                                                    n ∧
                                                  ((0 : Nat) + (IntKind.i64.wrap (i + (↑(1 : Nat) : Int))).toNat).le n ∧
                                                    ((0 : Int) ≤ i ∧
                                                        i ≤
                                                            (↑(IntKind.i64.wrap ((↑n : Int) + (↑(1 : Nat) : Int))).toNat :
                                                              Int) ∧
                                                          True) ∧
                                                      (33 : Nat) = (33 : Nat) ∧
                                                        ((0 : Nat) +
                                                                Nat.min (1 : Nat)
                                                                  ((↑(IntKind.i64.wrap
                                                                              ((↑n : Int) + (↑(1 : Nat) : Int))).toNat :
                                                                        Int).toNat -
                                                                    i.toNat)).le
                                                            (1 : Nat) ∧
                                                          ((0 : Nat) + i.toNat).le
                                                              (wrN n
                                                                ((0 : Nat) +
                                                                  (IntKind.i64.wrap (i + (↑(1 : Nat) : Int))).toNat)
                                                                (((↑(IntKind.i64.wrap
                                                                                ((↑n : Int) + (↑(1 : Nat) : Int))).toNat :
                                                                          Int).toNat -
                                                                      i.toNat).min
                                                                  ((↑(IntKind.i64.wrap
                                                                              ((↑n : Int) + (↑(1 : Nat) : Int))).toNat :
                                                                        Int).toNat -
                                                                    (IntKind.i64.wrap (i + (↑(1 : Nat) : Int))).toNat))) ∧
                                                            (True ∧ True) ∧
                                                              ∃ (_ : Unit),
                                                                ((True ∧
                                                                      (0 : Nat) = (0 : Nat) ∧
                                                                        (IntKind.i64.wrap
                                                                              ((↑n : Int) + (↑(1 : Nat) : Int))).toNat =
                                                                          n + (1 : Nat)) ∧
                                                                    True) ∧
                                                                  (True ∧
                                                                      True ∧
                                                                        ((33 : Nat) = (33 : Nat) ∧
                                                                            (45 : Nat) = (45 : Nat) ∧
                                                                              (n + (1 : Nat)).le
                                                                                  (wrN
                                                                                    (wrN n
                                                                                      ((0 : Nat) +
                                                                                        (IntKind.i64.wrap
                                                                                            (i + (↑(1 : Nat) : Int))).toNat)
                                                                                      (((↑(IntKind.i64.wrap
                                                                                                      ((↑n : Int) +
                                                                                                        (↑(1 : Nat) :
                                                                                                          Int))).toNat :
                                                                                                Int).toNat -
                                                                                            i.toNat).min
                                                                                        ((↑(IntKind.i64.wrap
                                                                                                    ((↑n : Int) +
                                                                                                      (↑(1 : Nat) :
                                                                                                        Int))).toNat :
                                                                                              Int).toNat -
                                                                                          (IntKind.i64.wrap
                                                                                              (i +
                                                                                                (↑(1 : Nat) :
                                                                                                  Int))).toNat)))
                                                                                    ((0 : Nat) + i.toNat)
                                                                                    (Nat.min (1 : Nat)
                                                                                      ((↑(IntKind.i64.wrap
                                                                                                  ((↑n : Int) +
                                                                                                    (↑(1 : Nat) :
                                                                                                      Int))).toNat :
                                                                                            Int).toNat -
                                                                                        i.toNat))) ∧
                                                                                ∀ (i_1 : Nat),
                                                                                  i_1 < n + (1 : Nat) →
                                                                                    wrF
                                                                                        (wrF f
                                                                                          ((0 : Nat) +
                                                                                            (IntKind.i64.wrap
                                                                                                (i +
                                                                                                  (↑(1 : Nat) :
                                                                                                    Int))).toNat)
                                                                                          (((↑(IntKind.i64.wrap
                                                                                                          ((↑n : Int) +
                                                                                                            (↑(1 : Nat) :
                                                                                                              Int))).toNat :
                                                                                                    Int).toNat -
                                                                                                i.toNat).min
                                                                                            ((↑(IntKind.i64.wrap
                                                                                                        ((↑n : Int) +
                                                                                                          (↑(1 : Nat) :
                                                                                                            Int))).toNat :
                                                                                                  Int).toNat -
                                                                                              (IntKind.i64.wrap
                                                                                                  (i +
                                                                                                    (↑(1 : Nat) :
                                                                                                      Int))).toNat))
                                                                                          fun (i_2 : Nat) =>
                                                                                          f ((0 : Nat) + i.toNat + i_2))
                                                                                        ((0 : Nat) + i.toNat)
                                                                                        (Nat.min (1 : Nat)
                                                                                          ((↑(IntKind.i64.wrap
                                                                                                      ((↑n : Int) +
                                                                                                        (↑(1 : Nat) :
                                                                                                          Int))).toNat :
                                                                                                Int).toNat -
                                                                                            i.toNat))
                                                                                        (fun (i : Nat) => g ((0 : Nat) + i))
                                                                                        i_1 =
                                                                                      insF f i.toNat (g (0 : Nat)) i_1) ∧
                                                                          True) ∧
                                                                    R (AV.own (2 : Nat) (0 : Nat) (n + (1 : Nat)))
                                                                      [LObj.dead, LObj.dead,
                                                                        LObj.row (33 : Nat) (45 : Nat) (n + (1 : Nat))
                                                                          (insF f i.toNat (g (0 : Nat)))]) ∧
                                    ((!false) = false →
                                      ((0 : Int) ≤ (↑n : Int) ∧
                                          (↑n : Int) ≤ (↑(IntKind.i64.wrap ((↑n : Int) + (↑(1 : Nat) : Int))).toNat : Int) ∧
                                            True) ∧
                                        (33 : Nat) = (33 : Nat) ∧
                                          ((0 : Nat) +
                                                  Nat.min (1 : Nat)
                                                    ((↑(IntKind.i64.wrap ((↑n : Int) + (↑(1 : Nat) : Int))).toNat :
                                                          Int).toNat -
                                                      (↑n : Int).toNat)).le
                                              (1 : Nat) ∧
                                            ((0 : Nat) + (↑n : Int).toNat).le n ∧
                                              ((0 : Int) ≤ i ∧
                                                  i ≤ (↑(IntKind.i64.wrap ((↑n : Int) + (↑(1 : Nat) : Int))).toNat : Int) ∧
                                                    True) ∧
                                                False))))) := by kernel_rfl
theorem mkH {f : FuncId} {fn : Func} {H0 : List LObj} {args : List AV} {R : AV → List LObj → Prop} {C : Table} {an : List Ann} {X : Prop}
    (v : vcA false (List.length (H0 : List LObj)) [] Try.prog C (fn.body.getD .skip) an (finalKH Try.prog fn R) (startStH fn H0 args) = X) (hC : TableOk Try.prog C) (hf : Try.prog.funcs[f]? = some fn) (hb : fn.body = some (fn.body.getD .skip)) (h : X) : Am.SpecH Try.prog f H0 args R :=
  spec_of_codeH hf hb (vcA_sound hC mixed _ (fun _ => rfl) (v ▸ h))
theorem X40 : EntOk Try.prog 40 (.hand tk40 T40) := by
  refine ⟨enters_of (fn := Try.f40) rfl rfl (by kernel_rfl), fun H0 args R h => ?_⟩
  unfold T40 at h
  split at h
  · rename_i n f n' i j
    obtain ⟨rfl, h1, rfl, h2, h3, h⟩ := h
    obtain ⟨m, rfl⟩ := Int.eq_ofNat_of_zero_le h1
    refine SpecH.weak (Z := Unit) (X := fun _ => .own 0 0 (n - 1)) (HH := fun _ => [.row 33 45 (n - 1) (delF f (m : Int).toNat)]) (mkH (v40 n m (m + 1) f R) (tb az) rfl rfl ?_)
    simp only [true_and, and_true, and_self, natle_iff, Int.toNat_natCast] at h ⊢
    have e1 : ((m : Int) + 1).toNat = m + 1 := by omega
    have e2 : Int.toNat 0 = 0 := rfl
    simp only [e1, e2, Nat.sub_zero, Nat.zero_add]
    have e3 : m + (n - (m + 1)) = n - 1 := by omega
    have e4 : m + 1 + (n - (m + 1)) = n := by omega
    have w1 : wrN n m (n - (m + 1)) = n := by unfold wrN; rw [if_pos (by omega)]
    have w2 : wrN n (n - 1) (n - (n - 1)) = n := by unfold wrN; rw [if_pos (by omega)]
    simp only [e3, e4, w1, w2]
    refine ⟨h1, by omega, h2, Int.le_refl _, fun hh => by simp at hh; omega, fun _ => ⟨⟨by omega, by omega, by omega⟩, ⟨by omega, by omega, by omega⟩, ⟨by omega, h2⟩, ⟨by omega, h2⟩, by omega, by omega, ⟨by omega, by omega, by omega⟩, by omega, (), trivial, ⟨by omega, fun q hq => ?_⟩, h⟩⟩
    unfold wrF delF
    rw [if_pos (by omega)]
    dsimp only
    by_cases hm : q < m
    · rw [if_pos hm, if_pos hm]
    · rw [if_neg hm, if_neg hm, if_pos (by omega), show m + 1 + (q - m) = q + 1 by omega]
  · exact h.elim
theorem X39 : EntOk Try.prog 39 (.hand tk39 T39) := by
  refine ⟨enters_of (fn := Try.f39) rfl rfl (by kernel_rfl), fun H0 args R h => ?_⟩
  unfold T39 at h
  split at h
  · rename_i n f g n' i
    obtain ⟨rfl, h1, h2, h3, h5⟩ := h
    obtain ⟨m, rfl⟩ := Int.eq_ofNat_of_zero_le h1
    refine SpecH.weak (Z := Unit) (X := fun _ => .own 2 0 (n + 1)) (HH := fun _ => [.dead, .dead, .row 33 45 (n + 1) (insF f (m : Int).toNat (g 0))]) (mkH (v39 n m f g R) (tb (ac X46 az)) rfl rfl ?_)
    simp only [true_and, and_true, and_self, forall_const, natle_iff, decide_eq_true_eq, decide_eq_false_iff_not, Int.toNat_natCast, Bool.not_false, false_implies, Bool.true_eq_false] at h5 ⊢
    have e2 : Int.toNat 0 = 0 := rfl
    have e3 : ((1 : Nat) : Int) = 1 := rfl
    have e4 : ((n : Int) + 1) = ((n + 1 : Nat) : Int) := by omega
    have e5 : ((m : Int) + 1) = ((m + 1 : Nat) : Int) := by omega
    have e6 : IntKind.i64.wrap ((n + 1 : Nat) : Int) = ((n + 1 : Nat) : Int) := by rw [wrap64] <;> omega
    have e7 : IntKind.i64.wrap ((m + 1 : Nat) : Int) = ((m + 1 : Nat) : Int) := by rw [wrap64] <;> omega
    have e8 : ((n + 1 : Nat) : Int) - m = ((n + 1 - m : Nat) : Int) := by omega
    have e9 : IntKind.i64.wrap ((n + 1 - m : Nat) : Int) = ((n + 1 - m : Nat) : Int) := by rw [wrap64] <;> omega
    have e10 : m + (n + 1 - m) = n + 1 := by omega
    have a1 : Nat.min 1 (n + 1 - m) = 1 := Nat.min_eq_left (by omega)
    have a2 : (n - m).min (n + 1 - (m + 1)) = n - m := by rw [show n + 1 - (m + 1) = n - m by omega]; exact Nat.min_self _
    have a3 : (n + 1 - m).min (n + 1 - (m + 1)) = n - m := Nat.min_eq_right (by omega) |>.trans (by omega)
    have w1 : wrN (n + 1) m 1 = n + 1 := by unfold wrN; rw [if_pos (by omega)]
    have w2 : wrN (n + 1) (m + 1) (n - m) = n + 1 := by unfold wrN; rw [if_pos (by omega)]
    have w3 : wrN n (m + 1) (n - m) = n + 1 := by unfold wrN; rw [if_neg (by omega)]; omega
    simp only [e3, e4, e5, e6, e7, e8, e9, e10, Int.toNat_natCast, Nat.zero_add, a1, a2, a3, w1, w2, w3, true_and]
    rw [maxLen_eq]
    refine ⟨⟨by omega, h2⟩, fun hh => by simp at hh, fun _ => ⟨fun he => ⟨⟨by omega, by omega, by omega⟩, (), ⟨by omega, fun q hq => ?_⟩, h5⟩, fun hne c hc _ hcm => ⟨fun hgt => ?_, fun hle => ?_⟩⟩⟩
    · have : m = n := Int.ofNat.inj (by simpa using he)
      subst this
      unfold insF
      by_cases hm : q < m
      · rw [if_pos hm, if_pos hm]
      · rw [if_neg hm, if_neg hm, if_pos (by omega), show q - m = 0 by omega]
    · refine ⟨by omega, by omega, by omega, by omega, by omega, by omega, by omega, ⟨by omega, by omega⟩, by omega, by omega, ⟨by omega, by omega⟩, ⟨by omega, by omega⟩, ⟨by omega, by omega⟩, ⟨by omega, by omega⟩, by omega, by omega, (), ⟨by omega, fun q hq => ?_⟩, h5⟩
      unfold wrF insF
      dsimp only
      by_cases hm : q < m
      · rw [if_pos (show q < m + 1 by omega), if_pos hm, if_pos hm, if_pos hm]
      · by_cases hq2 : q = m
        · rw [if_pos (show q < m + 1 by omega), if_neg hm, if_pos (by omega), if_neg hm, if_pos hq2, show q - m = 0 by omega]
        · rw [if_neg (show ¬ q < m + 1 by omega), if_pos (by omega), if_neg hm, if_neg hq2, show m + (q - (m + 1)) = q - 1 by omega]
    · have hmn : m ≠ n := by
        intro hh
        rw [hh] at hne
        simp at hne
      refine ⟨by omega, by omega, ⟨by omega, by omega⟩, ⟨by omega, by omega⟩, ⟨by omega, by omega⟩, ⟨by omega, by omega⟩, ⟨by omega, by omega⟩, by omega, by omega, ⟨by omega, by omega⟩, by omega, by omega, (), ⟨by omega, fun q hq => ?_⟩, h5⟩
      unfold wrF insF
      dsimp only
      by_cases hm : q < m
      · rw [if_pos hm, if_pos (by omega), if_pos hm]
      · by_cases hq2 : q = m
        · rw [if_neg hm, if_pos (by omega), if_neg hm, if_pos hq2, show q - m = 0 by omega]
        · rw [if_neg hm, if_neg (by omega), if_neg (by omega), if_pos (by omega), if_neg hm, if_neg hq2, show m + (q - (m + 1)) = q - 1 by omega]
  · exact h.elim
end Go.Proofs.R1

namespace Go.Proofs.R1
open Go Go.Am

theorem v30 (L : List Br) (c : Cmd) (a : Ans) (inv1 : Nat × Bool × Idv → Prop) (inv2 : Nat × Bool × Idv → Prop) (inv3 : List Br → Prop) (R : AV → List LObj → Prop) :
    (vcA false 0 [] Try.prog (mkTab [(37, .lend T37), (25, .lend T25), (38, .lend T38), (39, .hand tk39 T39), (40, .hand tk40 T40)]) (Try.f30.body.getD .skip) ([.cut 5 (Nat × Bool × Idv) inv1 (fun p => ⟨slotsOf 132 0 [(0, brs L), (4, .ptr 0 0 0 0), (5, .ptr 1 0 0 0), (8, .ptr 2 0 0 0), (9, nm p.1), (10, bl p.2.1)], [.box 31 (partsL c.av), .box 34 (partsL a.av), .box 28 [.iarr .u8 32 p.2.2]]⟩) (fun p => [.cut 17 Unit (fun _ => inv2 p) (fun _ => ⟨slotsOf 132 0 [(4, .ptr 0 0 0 0), (5, .ptr 1 0 0 0), (8, .ptr 2 0 0 0), (9, nm p.1), (10, bl p.2.1), (11, .own 3 0 L.length), (12, .clo (.func 38) [.ptr 1 0 0 0])], [.box 31 (partsL c.av), .box 34 (partsL a.av), .box 28 [.iarr .u8 32 p.2.2], brsO L]⟩) (fun _ => [.cut 25 (List Br) inv3 (fun M => ⟨slotsOf 132 0 [(11, .own 0 0 M.length)], [brsO M]⟩) (fun _ => [])])])]) (finalK Try.prog Try.f30 (fun y H => ∃ _ : Unit, leSt 0 ⟨[y], H⟩ ⟨[.tup [.own 0 0 (fitsL L c a).length, bl (fitsB L c a)]], [brsO (fitsL L c a)]⟩ (R (.tup [.own 0 0 (fitsL L c a).length, bl (fitsB L c a)]) [brsO (fitsL L c a)]))) (startSt Try.f30 ([brs L, c.av, a.av]))) = (
    True ∧
      True ∧
        True ∧
          ∃ (L_1 : List Br),
            IsBrs (AV.rows (33 : Nat) L.length (brsF L)) L_1 ∧
              Sorted L_1 ∧
                ((hasB L_1 c.branch = true →
                      ((0 : Int) ≤ (↑(findI L_1 c.branch) : Int) ∧
                          (↑(findI L_1 c.branch) : Int) + (1 : Int) ≤ (↑L.length : Int)) ∧
                        True ∧
                          ∃ (x : Nat × Bool × Idv),
                            (((33 : Nat) = (33 : Nat) ∧
                                  L.length = L.length ∧ ∀ (i : Nat), i < L.length → brsF L i = brsF L i) ∧
                                (True ∧ (0 : Nat) = (0 : Nat) ∧ (0 : Nat) = (0 : Nat) ∧ (0 : Nat) = (0 : Nat)) ∧
                                  (True ∧ (0 : Nat) = (0 : Nat) ∧ (0 : Nat) = (0 : Nat) ∧ (0 : Nat) = (0 : Nat)) ∧
                                    (True ∧ (0 : Nat) = (0 : Nat) ∧ (0 : Nat) = (0 : Nat) ∧ (0 : Nat) = (0 : Nat)) ∧
                                      (↑(findI L_1 c.branch) : Int) = (↑x.fst : Int) ∧
                                        hasB L_1 c.branch = x.snd.fst ∧ True) ∧
                              (((31 : Nat) = (31 : Nat) ∧
                                    c.kind = c.kind ∧
                                      c.client = c.client ∧
                                        c.seq = c.seq ∧
                                          c.branch = c.branch ∧
                                            (IntKind.u8 = IntKind.u8 ∧
                                                (32 : Nat) = (32 : Nat) ∧ ∀ (i : Nat), i < (32 : Nat) → c.old i = c.old i) ∧
                                              (IntKind.u8 = IntKind.u8 ∧
                                                  (32 : Nat) = (32 : Nat) ∧
                                                    ∀ (i : Nat), i < (32 : Nat) → c.new i = c.new i) ∧
                                                ((1 : Nat) = (1 : Nat) ∧
                                                    c.dn = c.dn ∧ ∀ (i : Nat), i < c.dn → c.df i = c.df i) ∧
                                                  True) ∧
                                  ((34 : Nat) = (34 : Nat) ∧
                                      a.err = a.err ∧
                                        (IntKind.u8 = IntKind.u8 ∧
                                            (32 : Nat) = (32 : Nat) ∧ ∀ (i : Nat), i < (32 : Nat) → a.id i = a.id i) ∧
                                          True) ∧
                                    ((28 : Nat) = (28 : Nat) ∧
                                        (IntKind.u8 = IntKind.u8 ∧
                                            (32 : Nat) = (32 : Nat) ∧
                                              ∀ (i : Nat),
                                                i < (32 : Nat) →
                                                  (brAt L (↑(findI L_1 c.branch) : Int).toNat).id i = x.snd.snd i) ∧
                                          True) ∧
                                      True) ∧
                                inv1 x) ∧
                    (hasB L_1 c.branch = false →
                      ∃ (x : Nat × Bool × Idv),
                        (((33 : Nat) = (33 : Nat) ∧ L.length = L.length ∧ ∀ (i : Nat), i < L.length → brsF L i = brsF L i) ∧
                            (True ∧ (0 : Nat) = (0 : Nat) ∧ (0 : Nat) = (0 : Nat) ∧ (0 : Nat) = (0 : Nat)) ∧
                              (True ∧ (0 : Nat) = (0 : Nat) ∧ (0 : Nat) = (0 : Nat) ∧ (0 : Nat) = (0 : Nat)) ∧
                                (True ∧ (0 : Nat) = (0 : Nat) ∧ (0 : Nat) = (0 : Nat) ∧ (0 : Nat) = (0 : Nat)) ∧
                                  (↑(findI L_1 c.branch) : Int) = (↑x.fst : Int) ∧ hasB L_1 c.branch = x.snd.fst ∧ True) ∧
                          (((31 : Nat) = (31 : Nat) ∧
                                c.kind = c.kind ∧
                                  c.client = c.client ∧
                                    c.seq = c.seq ∧
                                      c.branch = c.branch ∧
                                        (IntKind.u8 = IntKind.u8 ∧
                                            (32 : Nat) = (32 : Nat) ∧ ∀ (i : Nat), i < (32 : Nat) → c.old i = c.old i) ∧
                                          (IntKind.u8 = IntKind.u8 ∧
                                              (32 : Nat) = (32 : Nat) ∧ ∀ (i : Nat), i < (32 : Nat) → c.new i = c.new i) ∧
                                            ((1 : Nat) = (1 : Nat) ∧
                                                c.dn = c.dn ∧ ∀ (i : Nat), i < c.dn → c.df i = c.df i) ∧
                                              True) ∧
                              ((34 : Nat) = (34 : Nat) ∧
                                  a.err = a.err ∧
                                    (IntKind.u8 = IntKind.u8 ∧
                                        (32 : Nat) = (32 : Nat) ∧ ∀ (i : Nat), i < (32 : Nat) → a.id i = a.id i) ∧
                                      True) ∧
                                ((28 : Nat) = (28 : Nat) ∧
                                    (IntKind.u8 = IntKind.u8 ∧
                                        (32 : Nat) = (32 : Nat) ∧ ∀ (i : Nat), i < (32 : Nat) → (0 : Int) = x.snd.snd i) ∧
                                      True) ∧
                                  True) ∧
                            inv1 x)) ∧
                  ∀ (x : Nat × Bool × Idv),
                    inv1 x →
                      ∃ (L_2 : List Br),
                        IsBrs (AV.rows (33 : Nat) L.length (brsF L)) L_2 ∧
                          Bd L_2 ∧
                            (((c.kind == (1 : Int)) = true →
                                  ((!x.snd.fst) = true →
                                      (True ∧ True ∧ True) ∧
                                        True ∧
                                          True ∧
                                            (True ∧ True ∧ True) ∧
                                              True ∧
                                                ∃ (_ : Unit),
                                                  (((True ∧ (0 : Nat) = (0 : Nat) ∧ L_2.length = (fitsL L c a).length) ∧
                                                        isB (Ans.mk a.err a.id) (4 : Int) = fitsB L c a ∧ True) ∧
                                                      True) ∧
                                                    (((33 : Nat) = (33 : Nat) ∧
                                                          (45 : Nat) = (45 : Nat) ∧
                                                            (fitsL L c a).length.le L_2.length ∧
                                                              ∀ (i : Nat),
                                                                i < (fitsL L c a).length →
                                                                  AV.agg
                                                                      [AV.pl (Value.string (brAt L_2 i).name),
                                                                        AV.iarr IntKind.u8 (32 : Nat) (brAt L_2 i).id] =
                                                                    AV.agg
                                                                      [AV.pl (Value.string (brAt (fitsL L c a) i).name),
                                                                        AV.iarr IntKind.u8 (32 : Nat)
                                                                          (brAt (fitsL L c a) i).id]) ∧
                                                        True) ∧
                                                      R
                                                        (AV.tup
                                                          [AV.own (0 : Nat) (0 : Nat) (fitsL L c a).length,
                                                            AV.pl (Value.bool (fitsB L c a))])
                                                        [LObj.row (33 : Nat) (45 : Nat) (fitsL L c a).length
                                                            (brsF (fitsL L c a))]) ∧
                                    ((!x.snd.fst) = false →
                                      (True ∧ True ∧ True) ∧
                                        True ∧
                                          ∃ (_ : Unit),
                                            (((True ∧ (0 : Nat) = (0 : Nat) ∧ L_2.length = (fitsL L c a).length) ∧
                                                  (a.err == (0 : Int) &&
                                                        (((List.range (32 : Nat)).all fun (i : Nat) =>
                                                            a.id i == x.snd.snd i) &&
                                                          true)) =
                                                      fitsB L c a ∧
                                                    True) ∧
                                                True) ∧
                                              (((33 : Nat) = (33 : Nat) ∧
                                                    (45 : Nat) = (45 : Nat) ∧
                                                      (fitsL L c a).length.le L_2.length ∧
                                                        ∀ (i : Nat),
                                                          i < (fitsL L c a).length →
                                                            AV.agg
                                                                [AV.pl (Value.string (brAt L_2 i).name),
                                                                  AV.iarr IntKind.u8 (32 : Nat) (brAt L_2 i).id] =
                                                              AV.agg
                                                                [AV.pl (Value.string (brAt (fitsL L c a) i).name),
                                                                  AV.iarr IntKind.u8 (32 : Nat)
                                                                    (brAt (fitsL L c a) i).id]) ∧
                                                  True) ∧
                                                R
                                                  (AV.tup
                                                    [AV.own (0 : Nat) (0 : Nat) (fitsL L c a).length,
                                                      AV.pl (Value.bool (fitsB L c a))])
                                                  [LObj.row (33 : Nat) (45 : Nat) (fitsL L c a).length
                                                      (brsF (fitsL L c a))])) ∧
                                ((c.kind == (1 : Int)) = false →
                                  ((c.kind == (4 : Int)) = true →
                                      (gEq
                                              (bif a.err == (0 : Int) then
                                                !(List.range (32 : Nat)).all fun (i : Nat) => a.id i == (0 : Int)
                                              else false)
                                              false =
                                            true →
                                          (True ∧ True ∧ True) ∧
                                            True ∧
                                              True ∧
                                                true = true ∧
                                                  (gEq (bif false then true else isB (Ans.mk a.err a.id) (6 : Int)) false =
                                                        true →
                                                      (True ∧ True ∧ True) ∧
                                                        True ∧
                                                          True ∧
                                                            true = true ∧
                                                              (gEq
                                                                      (bif false then true
                                                                      else isB (Ans.mk a.err a.id) (160 : Int))
                                                                      false =
                                                                    true →
                                                                  (True ∧ True ∧ True) ∧
                                                                    True ∧
                                                                      True ∧
                                                                        true = true ∧
                                                                          (True ∧ True ∧ True) ∧
                                                                            True ∧
                                                                              ∃ (_ : Unit),
                                                                                (((True ∧
                                                                                        (0 : Nat) = (0 : Nat) ∧
                                                                                          L_2.length =
                                                                                            (fitsL L c a).length) ∧
                                                                                      (bif false then true
                                                                                          else
                                                                                            isB (Ans.mk a.err a.id)
                                                                                              (161 : Int)) =
                                                                                          fitsB L c a ∧
                                                                                        True) ∧
                                                                                    True) ∧
                                                                                  (((33 : Nat) = (33 : Nat) ∧
                                                                                        (45 : Nat) = (45 : Nat) ∧
                                                                                          (fitsL L c a).length.le
                                                                                              L_2.length ∧
                                                                                            ∀ (i : Nat),
                                                                                              i < (fitsL L c a).length →
                                                                                                AV.agg
                                                                                                    [AV.pl
                                                                                                        (Value.string
                                                                                                          (brAt L_2
                                                                                                              i).name),
                                                                                                      AV.iarr IntKind.u8
                                                                                                        (32 : Nat)
                                                                                                        (brAt L_2 i).id] =
                                                                                                  AV.agg
                                                                                                    [AV.pl
                                                                                                        (Value.string
                                                                                                          (brAt
                                                                                                              (fitsL L c a)
                                                                                                              i).name),
                                                                                                      AV.iarr IntKind.u8
                                                                                                        (32 : Nat)
                                                                                                        (brAt (fitsL L c a)
                                                                                                            i).id]) ∧
                                                                                      True) ∧
                                                                                    R
                                                                                      (AV.tup
                                                                                        [AV.own (0 : Nat) (0 : Nat)
                                                                                            (fitsL L c a).length,
                                                                                          AV.pl (Value.bool (fitsB L c a))])
                                                                                      [LObj.row (33 : Nat) (45 : Nat)
                                                                                          (fitsL L c a).length
                                                                                          (brsF (fitsL L c a))]) ∧
                                                                (gEq
                                                                      (bif false then true
                                                                      else isB (Ans.mk a.err a.id) (160 : Int))
                                                                      false =
                                                                    false →
                                                                  true = true ∧
                                                                    (True ∧ True ∧ True) ∧
                                                                      True ∧
                                                                        ∃ (_ : Unit),
                                                                          (((True ∧
                                                                                  (0 : Nat) = (0 : Nat) ∧
                                                                                    L_2.length = (fitsL L c a).length) ∧
                                                                                true = fitsB L c a ∧ True) ∧
                                                                              True) ∧
                                                                            (((33 : Nat) = (33 : Nat) ∧
                                                                                  (45 : Nat) = (45 : Nat) ∧
                                                                                    (fitsL L c a).length.le L_2.length ∧
                                                                                      ∀ (i : Nat),
                                                                                        i < (fitsL L c a).length →
                                                                                          AV.agg
                                                                                              [AV.pl
                                                                                                  (Value.string
                                                                                                    (brAt L_2 i).name),
                                                                                                AV.iarr IntKind.u8
                                                                                                  (32 : Nat)
                                                                                                  (brAt L_2 i).id] =
                                                                                            AV.agg
                                                                                              [AV.pl
                                                                                                  (Value.string
                                                                                                    (brAt (fitsL L c a)
                                                                                                        i).name),
                                                                                                AV.iarr IntKind.u8
                                                                                                  (32 : Nat)
                                                                                                  (brAt (fitsL L c a)
                                                                                                      i).id]) ∧
                                                                                True) ∧
                                                                              R
                                                                                (AV.tup
                                                                                  [AV.own (0 : Nat) (0 : Nat)
                                                                                      (fitsL L c a).length,
                                                                                    AV.pl (Value.bool (fitsB L c a))])
                                                                                [LObj.row (33 : Nat) (45 : Nat)
                                                                                    (fitsL L c a).length
                                                                                    (brsF (fitsL L c a))])) ∧
                                                    (gEq (bif false then true else isB (Ans.mk a.err a.id) (6 : Int))
                                                          false =
                                                        false →
                                                      true = true ∧
                                                        (gEq true false = true →
                                                            (True ∧ True ∧ True) ∧
                                                              True ∧
                                                                True ∧
                                                                  true = true ∧
                                                                    (True ∧ True ∧ True) ∧
                                                                      True ∧
                                                                        ∃ (_ : Unit),
                                                                          (((True ∧
                                                                                  (0 : Nat) = (0 : Nat) ∧
                                                                                    L_2.length = (fitsL L c a).length) ∧
                                                                                (bif false then true
                                                                                    else
                                                                                      isB (Ans.mk a.err a.id) (161 : Int)) =
                                                                                    fitsB L c a ∧
                                                                                  True) ∧
                                                                              True) ∧
                                                                            (((33 : Nat) = (33 : Nat) ∧
                                                                                  (45 : Nat) = (45 : Nat) ∧
                                                                                    (fitsL L c a).length.le L_2.length ∧
                                                                                      ∀ (i : Nat),
                                                                                        i < (fitsL L c a).length →
                                                                                          AV.agg
                                                                                              [AV.pl
                                                                                                  (Value.string
                                                                                                    (brAt L_2 i).name),
                                                                                                AV.iarr IntKind.u8
                                                                                                  (32 : Nat)
                                                                                                  (brAt L_2 i).id] =
                                                                                            AV.agg
                                                                                              [AV.pl
                                                                                                  (Value.string
                                                                                                    (brAt (fitsL L c a)
                                                                                                        i).name),
                                                                                                AV.iarr IntKind.u8
                                                                                                  (32 : Nat)
                                                                                                  (brAt (fitsL L c a)
                                                                                                      i).id]) ∧
                                                                                True) ∧
                                                                              R
                                                                                (AV.tup
                                                                                  [AV.own (0 : Nat) (0 : Nat)
                                                                                      (fitsL L c a).length,
                                                                                    AV.pl (Value.bool (fitsB L c a))])
                                                                                [LObj.row (33 : Nat) (45 : Nat)
                                                                                    (fitsL L c a).length
                                                                                    (brsF (fitsL L c a))]) ∧
                                                          (gEq true false = false →
                                                            true = true ∧
                                                              (True ∧ True ∧ True) ∧
                                                                True ∧
                                                                  ∃ (_ : Unit),
                                                                    (((True ∧
                                                                            (0 : Nat) = (0 : Nat) ∧
                                                                              L_2.length = (fitsL L c a).length) ∧
                                                                          true = fitsB L c a ∧ True) ∧
                                                                        True) ∧
                                                                      (((33 : Nat) = (33 : Nat) ∧
                                                                            (45 : Nat) = (45 : Nat) ∧
                                                                              (fitsL L c a).length.le L_2.length ∧
                                                                                ∀ (i : Nat),
                                                                                  i < (fitsL L c a).length →
                                                                                    AV.agg
                                                                                        [AV.pl
                                                                                            (Value.string
                                                                                              (brAt L_2 i).name),
                                                                                          AV.iarr IntKind.u8 (32 : Nat)
                                                                                            (brAt L_2 i).id] =
                                                                                      AV.agg
                                                                                        [AV.pl
                                                                                            (Value.string
                                                                                              (brAt (fitsL L c a) i).name),
                                                                                          AV.iarr IntKind.u8 (32 : Nat)
                                                                                            (brAt (fitsL L c a) i).id]) ∧
                                                                          True) ∧
                                                                        R
                                                                          (AV.tup
                                                                            [AV.own (0 : Nat) (0 : Nat)
                                                                                (fitsL L c a).length,
                                                                              AV.pl (Value.bool (fitsB L c a))])
                                                                          [LObj.row (33 : Nat) (45 : Nat)
                                                                              (fitsL L c a).length
                                                                              (brsF (fitsL L c a))]))) ∧
                                        (gEq
                                              (bif a.err == (0 : Int) then
                                                !(List.range (32 : Nat)).all fun (i : Nat) => a.id i == (0 : Int)
                                              else false)
                                              false =
                                            false →
                                          true = true ∧
                                            (gEq true false = true →
                                                (True ∧ True ∧ True) ∧
                                                  True ∧
                                                    True ∧
                                                      true = true ∧
                                                        (gEq (bif false then true else isB (Ans.mk a.err a.id) (160 : Int))
                                                                false =
                                                              true →
                                                            (True ∧ True ∧ True) ∧
                                                              True ∧
                                                                True ∧
                                                                  true = true ∧
                                                                    (True ∧ True ∧ True) ∧
                                                                      True ∧
                                                                        ∃ (_ : Unit),
                                                                          (((True ∧
                                                                                  (0 : Nat) = (0 : Nat) ∧
                                                                                    L_2.length = (fitsL L c a).length) ∧
                                                                                (bif false then true
                                                                                    else
                                                                                      isB (Ans.mk a.err a.id) (161 : Int)) =
                                                                                    fitsB L c a ∧
                                                                                  True) ∧
                                                                              True) ∧
                                                                            (((33 : Nat) = (33 : Nat) ∧
                                                                                  (45 : Nat) = (45 : Nat) ∧
                                                                                    (fitsL L c a).length.le L_2.length ∧
                                                                                      ∀ (i : Nat),
                                                                                        i < (fitsL L c a).length →
                                                                                          AV.agg
                                                                                              [AV.pl
                                                                                                  (Value.string
                                                                                                    (brAt L_2 i).name),
                                                                                                AV.iarr IntKind.u8
                                                                                                  (32 : Nat)
                                                                                                  (brAt L_2 i).id] =
                                                                                            AV.agg
                                                                                              [AV.pl
                                                                                                  (Value.string
                                                                                                    (brAt (fitsL L c a)
                                                                                                        i).name),
                                                                                                AV.iarr IntKind.u8
                                                                                                  (32 : Nat)
                                                                                                  (brAt (fitsL L c a)
                                                                                                      i).id]) ∧
                                                                                True) ∧
                                                                              R
                                                                                (AV.tup
                                                                                  [AV.own (0 : Nat) (0 : Nat)
                                                                                      (fitsL L c a).length,
                                                                                    AV.pl (Value.bool (fitsB L c a))])
                                                                                [LObj.row (33 : Nat) (45 : Nat)
                                                                                    (fitsL L c a).length
                                                                                    (brsF (fitsL L c a))]) ∧
                                                          (gEq
                                                                (bif false then true
                                                                else isB (Ans.mk a.err a.id) (160 : Int))
                                                                false =
                                                              false →
                                                            true = true ∧
                                                              (True ∧ True ∧ True) ∧
                                                                True ∧
                                                                  ∃ (_ : Unit),
                                                                    (((True ∧
                                                                            (0 : Nat) = (0 : Nat) ∧
                                                                              L_2.length = (fitsL L c a).length) ∧
                                                                          true = fitsB L c a ∧ True) ∧
                                                                        True) ∧
                                                                      (((33 : Nat) = (33 : Nat) ∧
                                                                            (45 : Nat) = (45 : Nat) ∧
                                                                              (fitsL L c a).length.le L_2.length ∧
                                                                                ∀ (i : Nat),
                                                                                  i < (fitsL L c a).length →
                                                                                    AV.agg
                                                                                        [AV.pl
                                                                                            (Value.string
                                                                                              (brAt L_2 i).name),
                                                                                          AV.iarr IntKind.u8 (32 : Nat)
                                                                                            (brAt L_2 i).id] =
                                                                                      AV.agg
                                                                                        [AV.pl
                                                                                            (Value.string
                                                                                              (brAt (fitsL L c a) i).name),
                                                                                          AV.iarr IntKind.u8 (32 : Nat)
                                                                                            (brAt (fitsL L c a) i).id]) ∧
                                                                          True) ∧
                                                                        R
                                                                          (AV.tup
                                                                            [AV.own (0 : Nat) (0 : Nat)
                                                                                (fitsL L c a).length,
                                                                              AV.pl (Value.bool (fitsB L c a))])
                                                                          [LObj.row (33 : Nat) (45 : Nat)
                                                                              (fitsL L c a).length (brsF (fitsL L c a))])) ∧
                                              (gEq true false = false →
                                                true = true ∧
                                                  (gEq true false = true →
                                                      (True ∧ True ∧ True) ∧
                                                        True ∧
                                                          True ∧
                                                            true = true ∧
                                                              (True ∧ True ∧ True) ∧
                                                                True ∧
                                                                  ∃ (_ : Unit),
                                                                    (((True ∧
                                                                            (0 : Nat) = (0 : Nat) ∧
                                                                              L_2.length = (fitsL L c a).length) ∧
                                                                          (bif false then true
                                                                              else isB (Ans.mk a.err a.id) (161 : Int)) =
                                                                              fitsB L c a ∧
                                                                            True) ∧
                                                                        True) ∧
                                                                      (((33 : Nat) = (33 : Nat) ∧
                                                                            (45 : Nat) = (45 : Nat) ∧
                                                                              (fitsL L c a).length.le L_2.length ∧
                                                                                ∀ (i : Nat),
                                                                                  i < (fitsL L c a).length →
                                                                                    AV.agg
                                                                                        [AV.pl
                                                                                            (Value.string
                                                                                              (brAt L_2 i).name),
                                                                                          AV.iarr IntKind.u8 (32 : Nat)
                                                                                            (brAt L_2 i).id] =
                                                                                      AV.agg
                                                                                        [AV.pl
                                                                                            (Value.string
                                                                                              (brAt (fitsL L c a) i).name),
                                                                                          AV.iarr IntKind.u8 (32 : Nat)
                                                                                            (brAt (fitsL L c a) i).id]) ∧
                                                                          True) ∧
                                                                        R
                                                                          (AV.tup
                                                                            [AV.own (0 : Nat) (0 : Nat)
                                                                                (fitsL L c a).length,
                                                                              AV.pl (Value.bool (fitsB L c a))])
                                                                          [LObj.row (33 : Nat) (45 : Nat)
                                                                              (fitsL L c a).length (brsF (fitsL L c a))]) ∧
                                                    (gEq true false = false →
                                                      true = true ∧
                                                        (True ∧ True ∧ True) ∧
                                                          True ∧
                                                            ∃ (_ : Unit),
                                                              (((True ∧
                                                                      (0 : Nat) = (0 : Nat) ∧
                                                                        L_2.length = (fitsL L c a).length) ∧
                                                                    true = fitsB L c a ∧ True) ∧
                                                                  True) ∧
                                                                (((33 : Nat) = (33 : Nat) ∧
                                                                      (45 : Nat) = (45 : Nat) ∧
                                                                        (fitsL L c a).length.le L_2.length ∧
                                                                          ∀ (i : Nat),
                                                                            i < (fitsL L c a).length →
                                                                              AV.agg
                                                                                  [AV.pl (Value.string (brAt L_2 i).name),
                                                                                    AV.iarr IntKind.u8 (32 : Nat)
                                                                                      (brAt L_2 i).id] =
                                                                                AV.agg
                                                                                  [AV.pl
                                                                                      (Value.string
                                                                                        (brAt (fitsL L c a) i).name),
                                                                                    AV.iarr IntKind.u8 (32 : Nat)
                                                                                      (brAt (fitsL L c a) i).id]) ∧
                                                                    True) ∧
                                                                  R
                                                                    (AV.tup
                                                                      [AV.own (0 : Nat) (0 : Nat) (fitsL L c a).length,
                                                                        AV.pl (Value.bool (fitsB L c a))])
                                                                    [LObj.row (33 : Nat) (45 : Nat) (fitsL L c a).length
                                                                        (brsF (fitsL L c a))])))) ∧
                                    ((c.kind == (4 : Int)) = false →
                                      ((c.kind == (2 : Int)) = true →
                                          ((!(List.range (32 : Nat)).all fun (i : Nat) => x.snd.snd i == c.old i) = true →
                                              (True ∧ True ∧ True) ∧
                                                True ∧
                                                  ∃ (_ : Unit),
                                                    (((True ∧ (0 : Nat) = (0 : Nat) ∧ L_2.length = (fitsL L c a).length) ∧
                                                          (a.err == (263 : Int) &&
                                                                (((List.range (32 : Nat)).all fun (i : Nat) =>
                                                                    a.id i == x.snd.snd i) &&
                                                                  true)) =
                                                              fitsB L c a ∧
                                                            True) ∧
                                                        True) ∧
                                                      (((33 : Nat) = (33 : Nat) ∧
                                                            (45 : Nat) = (45 : Nat) ∧
                                                              (fitsL L c a).length.le L_2.length ∧
                                                                ∀ (i : Nat),
                                                                  i < (fitsL L c a).length →
                                                                    AV.agg
                                                                        [AV.pl (Value.string (brAt L_2 i).name),
                                                                          AV.iarr IntKind.u8 (32 : Nat) (brAt L_2 i).id] =
                                                                      AV.agg
                                                                        [AV.pl (Value.string (brAt (fitsL L c a) i).name),
                                                                          AV.iarr IntKind.u8 (32 : Nat)
                                                                            (brAt (fitsL L c a) i).id]) ∧
                                                          True) ∧
                                                        R
                                                          (AV.tup
                                                            [AV.own (0 : Nat) (0 : Nat) (fitsL L c a).length,
                                                              AV.pl (Value.bool (fitsB L c a))])
                                                          [LObj.row (33 : Nat) (45 : Nat) (fitsL L c a).length
                                                              (brsF (fitsL L c a))]) ∧
                                            ((!(List.range (32 : Nat)).all fun (i : Nat) => x.snd.snd i == c.old i) =
                                                false →
                                              ∃ (_ : Unit),
                                                ((True ∧
                                                      (0 : Nat) = (0 : Nat) ∧
                                                        (0 : Nat) = (0 : Nat) ∧ (0 : Nat) = (0 : Nat)) ∧
                                                    (True ∧
                                                        (0 : Nat) = (0 : Nat) ∧
                                                          (0 : Nat) = (0 : Nat) ∧ (0 : Nat) = (0 : Nat)) ∧
                                                      (True ∧
                                                          (0 : Nat) = (0 : Nat) ∧
                                                            (0 : Nat) = (0 : Nat) ∧ (0 : Nat) = (0 : Nat)) ∧
                                                        (↑x.fst : Int) = (↑x.fst : Int) ∧
                                                          x.snd.fst = x.snd.fst ∧
                                                            (True ∧ (0 : Nat) = (0 : Nat) ∧ L_2.length = L.length) ∧
                                                              (Fn.func (38 : Nat) = Fn.func (38 : Nat) ∧
                                                                  (True ∧
                                                                      (0 : Nat) = (0 : Nat) ∧
                                                                        (0 : Nat) = (0 : Nat) ∧ (0 : Nat) = (0 : Nat)) ∧
                                                                    True) ∧
                                                                True) ∧
                                                  (((31 : Nat) = (31 : Nat) ∧
                                                        c.kind = c.kind ∧
                                                          c.client = c.client ∧
                                                            c.seq = c.seq ∧
                                                              c.branch = c.branch ∧
                                                                (IntKind.u8 = IntKind.u8 ∧
                                                                    (32 : Nat) = (32 : Nat) ∧
                                                                      ∀ (i : Nat), i < (32 : Nat) → c.old i = c.old i) ∧
                                                                  (IntKind.u8 = IntKind.u8 ∧
                                                                      (32 : Nat) = (32 : Nat) ∧
                                                                        ∀ (i : Nat), i < (32 : Nat) → c.new i = c.new i) ∧
                                                                    ((1 : Nat) = (1 : Nat) ∧
                                                                        c.dn = c.dn ∧
                                                                          ∀ (i : Nat), i < c.dn → c.df i = c.df i) ∧
                                                                      True) ∧
                                                      ((34 : Nat) = (34 : Nat) ∧
                                                          a.err = a.err ∧
                                                            (IntKind.u8 = IntKind.u8 ∧
                                                                (32 : Nat) = (32 : Nat) ∧
                                                                  ∀ (i : Nat), i < (32 : Nat) → a.id i = a.id i) ∧
                                                              True) ∧
                                                        ((28 : Nat) = (28 : Nat) ∧
                                                            (IntKind.u8 = IntKind.u8 ∧
                                                                (32 : Nat) = (32 : Nat) ∧
                                                                  ∀ (i : Nat), i < (32 : Nat) → x.snd.snd i = x.snd.snd i) ∧
                                                              True) ∧
                                                          ((33 : Nat) = (33 : Nat) ∧
                                                              (45 : Nat) = (45 : Nat) ∧
                                                                L.length.le L_2.length ∧
                                                                  ∀ (i : Nat),
                                                                    i < L.length →
                                                                      AV.agg
                                                                          [AV.pl (Value.string (brAt L_2 i).name),
                                                                            AV.iarr IntKind.u8 (32 : Nat) (brAt L_2 i).id] =
                                                                        AV.agg
                                                                          [AV.pl (Value.string (brAt L i).name),
                                                                            AV.iarr IntKind.u8 (32 : Nat) (brAt L i).id]) ∧
                                                            True) ∧
                                                    inv2 x)) ∧
                                        ((c.kind == (2 : Int)) = false →
                                          ∃ (_ : Unit),
                                            ((True ∧
                                                  (0 : Nat) = (0 : Nat) ∧ (0 : Nat) = (0 : Nat) ∧ (0 : Nat) = (0 : Nat)) ∧
                                                (True ∧
                                                    (0 : Nat) = (0 : Nat) ∧ (0 : Nat) = (0 : Nat) ∧ (0 : Nat) = (0 : Nat)) ∧
                                                  (True ∧
                                                      (0 : Nat) = (0 : Nat) ∧
                                                        (0 : Nat) = (0 : Nat) ∧ (0 : Nat) = (0 : Nat)) ∧
                                                    (↑x.fst : Int) = (↑x.fst : Int) ∧
                                                      x.snd.fst = x.snd.fst ∧
                                                        (True ∧ (0 : Nat) = (0 : Nat) ∧ L_2.length = L.length) ∧
                                                          (Fn.func (38 : Nat) = Fn.func (38 : Nat) ∧
                                                              (True ∧
                                                                  (0 : Nat) = (0 : Nat) ∧
                                                                    (0 : Nat) = (0 : Nat) ∧ (0 : Nat) = (0 : Nat)) ∧
                                                                True) ∧
                                                            True) ∧
                                              (((31 : Nat) = (31 : Nat) ∧
                                                    c.kind = c.kind ∧
                                                      c.client = c.client ∧
                                                        c.seq = c.seq ∧
                                                          c.branch = c.branch ∧
                                                            (IntKind.u8 = IntKind.u8 ∧
                                                                (32 : Nat) = (32 : Nat) ∧
                                                                  ∀ (i : Nat), i < (32 : Nat) → c.old i = c.old i) ∧
                                                              (IntKind.u8 = IntKind.u8 ∧
                                                                  (32 : Nat) = (32 : Nat) ∧
                                                                    ∀ (i : Nat), i < (32 : Nat) → c.new i = c.new i) ∧
                                                                ((1 : Nat) = (1 : Nat) ∧
                                                                    c.dn = c.dn ∧ ∀ (i : Nat), i < c.dn → c.df i = c.df i) ∧
                                                                  True) ∧
                                                  ((34 : Nat) = (34 : Nat) ∧
                                                      a.err = a.err ∧
                                                        (IntKind.u8 = IntKind.u8 ∧
                                                            (32 : Nat) = (32 : Nat) ∧
                                                              ∀ (i : Nat), i < (32 : Nat) → a.id i = a.id i) ∧
                                                          True) ∧
                                                    ((28 : Nat) = (28 : Nat) ∧
                                                        (IntKind.u8 = IntKind.u8 ∧
                                                            (32 : Nat) = (32 : Nat) ∧
                                                              ∀ (i : Nat), i < (32 : Nat) → x.snd.snd i = x.snd.snd i) ∧
                                                          True) ∧
                                                      ((33 : Nat) = (33 : Nat) ∧
                                                          (45 : Nat) = (45 : Nat) ∧
                                                            L.length.le L_2.length ∧
                                                              ∀ (i : Nat),
                                                                i < L.length →
                                                                  AV.agg
                                                                      [AV.pl (Value.string (brAt L_2 i).name),
                                                                        AV.iarr IntKind.u8 (32 : Nat) (brAt L_2 i).id] =
                                                                    AV.agg
                                                                      [AV.pl (Value.string (brAt L i).name),
                                                                        AV.iarr IntKind.u8 (32 : Nat) (brAt L i).id]) ∧
                                                        True) ∧
                                                inv2 x)))) ∧
                              ∀ (_ : Unit),
                                inv2 x →
                                  ((!(a.err == (0 : Int) &&
                                            (((List.range (32 : Nat)).all fun (i : Nat) => a.id i == c.new i) && true))) =
                                        true →
                                      (gEq (!(List.range (32 : Nat)).all fun (i : Nat) => c.new i == (0 : Int)) true =
                                            true →
                                          (True ∧ True ∧ True) ∧
                                            True ∧
                                              True ∧
                                                (gEq (isB (Ans.mk a.err a.id) (6 : Int)) false = true →
                                                    (True ∧ True ∧ True) ∧
                                                      True ∧
                                                        True ∧
                                                          true = true ∧
                                                            true = true ∧
                                                              (True ∧ True ∧ True) ∧
                                                                True ∧
                                                                  ∃ (_ : Unit),
                                                                    (((True ∧
                                                                            (0 : Nat) = (0 : Nat) ∧
                                                                              L.length = (fitsL L c a).length) ∧
                                                                          (bif true then
                                                                                bif false then true
                                                                                else isB (Ans.mk a.err a.id) (264 : Int)
                                                                              else false) =
                                                                              fitsB L c a ∧
                                                                            True) ∧
                                                                        True) ∧
                                                                      (((33 : Nat) = (33 : Nat) ∧
                                                                            (45 : Nat) = (45 : Nat) ∧
                                                                              (fitsL L c a).length.le L.length ∧
                                                                                ∀ (i : Nat),
                                                                                  i < (fitsL L c a).length →
                                                                                    AV.agg
                                                                                        [AV.pl
                                                                                            (Value.string (brAt L i).name),
                                                                                          AV.iarr IntKind.u8 (32 : Nat)
                                                                                            (brAt L i).id] =
                                                                                      AV.agg
                                                                                        [AV.pl
                                                                                            (Value.string
                                                                                              (brAt (fitsL L c a) i).name),
                                                                                          AV.iarr IntKind.u8 (32 : Nat)
                                                                                            (brAt (fitsL L c a) i).id]) ∧
                                                                          True) ∧
                                                                        R
                                                                          (AV.tup
                                                                            [AV.own (0 : Nat) (0 : Nat)
                                                                                (fitsL L c a).length,
                                                                              AV.pl (Value.bool (fitsB L c a))])
                                                                          [LObj.row (33 : Nat) (45 : Nat)
                                                                              (fitsL L c a).length (brsF (fitsL L c a))]) ∧
                                                  (gEq (isB (Ans.mk a.err a.id) (6 : Int)) false = false →
                                                    true = true ∧
                                                      true = true ∧
                                                        (True ∧ True ∧ True) ∧
                                                          True ∧
                                                            ∃ (_ : Unit),
                                                              (((True ∧
                                                                      (0 : Nat) = (0 : Nat) ∧
                                                                        L.length = (fitsL L c a).length) ∧
                                                                    (bif true then true else false) = fitsB L c a ∧ True) ∧
                                                                  True) ∧
                                                                (((33 : Nat) = (33 : Nat) ∧
                                                                      (45 : Nat) = (45 : Nat) ∧
                                                                        (fitsL L c a).length.le L.length ∧
                                                                          ∀ (i : Nat),
                                                                            i < (fitsL L c a).length →
                                                                              AV.agg
                                                                                  [AV.pl (Value.string (brAt L i).name),
                                                                                    AV.iarr IntKind.u8 (32 : Nat)
                                                                                      (brAt L i).id] =
                                                                                AV.agg
                                                                                  [AV.pl
                                                                                      (Value.string
                                                                                        (brAt (fitsL L c a) i).name),
                                                                                    AV.iarr IntKind.u8 (32 : Nat)
                                                                                      (brAt (fitsL L c a) i).id]) ∧
                                                                    True) ∧
                                                                  R
                                                                    (AV.tup
                                                                      [AV.own (0 : Nat) (0 : Nat) (fitsL L c a).length,
                                                                        AV.pl (Value.bool (fitsB L c a))])
                                                                    [LObj.row (33 : Nat) (45 : Nat) (fitsL L c a).length
                                                                        (brsF (fitsL L c a))])) ∧
                                        (gEq (!(List.range (32 : Nat)).all fun (i : Nat) => c.new i == (0 : Int)) true =
                                            false →
                                          (false = true →
                                              (True ∧ True ∧ True) ∧
                                                True ∧
                                                  True ∧
                                                    true = true ∧
                                                      (True ∧ True ∧ True) ∧
                                                        True ∧
                                                          ∃ (_ : Unit),
                                                            (((True ∧
                                                                    (0 : Nat) = (0 : Nat) ∧
                                                                      L.length = (fitsL L c a).length) ∧
                                                                  false = fitsB L c a ∧ True) ∧
                                                                True) ∧
                                                              (((33 : Nat) = (33 : Nat) ∧
                                                                    (45 : Nat) = (45 : Nat) ∧
                                                                      (fitsL L c a).length.le L.length ∧
                                                                        ∀ (i : Nat),
                                                                          i < (fitsL L c a).length →
                                                                            AV.agg
                                                                                [AV.pl (Value.string (brAt L i).name),
                                                                                  AV.iarr IntKind.u8 (32 : Nat)
                                                                                    (brAt L i).id] =
                                                                              AV.agg
                                                                                [AV.pl
                                                                                    (Value.string
                                                                                      (brAt (fitsL L c a) i).name),
                                                                                  AV.iarr IntKind.u8 (32 : Nat)
                                                                                    (brAt (fitsL L c a) i).id]) ∧
                                                                  True) ∧
                                                                R
                                                                  (AV.tup
                                                                    [AV.own (0 : Nat) (0 : Nat) (fitsL L c a).length,
                                                                      AV.pl (Value.bool (fitsB L c a))])
                                                                  [LObj.row (33 : Nat) (45 : Nat) (fitsL L c a).length
                                                                      (brsF (fitsL L c a))]) ∧
                                            (false = false →
                                              true = true ∧
                                                (True ∧ True ∧ True) ∧
                                                  True ∧
                                                    ∃ (_ : Unit),
                                                      (((True ∧ (0 : Nat) = (0 : Nat) ∧ L.length = (fitsL L c a).length) ∧
                                                            false = fitsB L c a ∧ True) ∧
                                                          True) ∧
                                                        (((33 : Nat) = (33 : Nat) ∧
                                                              (45 : Nat) = (45 : Nat) ∧
                                                                (fitsL L c a).length.le L.length ∧
                                                                  ∀ (i : Nat),
                                                                    i < (fitsL L c a).length →
                                                                      AV.agg
                                                                          [AV.pl (Value.string (brAt L i).name),
                                                                            AV.iarr IntKind.u8 (32 : Nat) (brAt L i).id] =
                                                                        AV.agg
                                                                          [AV.pl (Value.string (brAt (fitsL L c a) i).name),
                                                                            AV.iarr IntKind.u8 (32 : Nat)
                                                                              (brAt (fitsL L c a) i).id]) ∧
                                                            True) ∧
                                                          R
                                                            (AV.tup
                                                              [AV.own (0 : Nat) (0 : Nat) (fitsL L c a).length,
                                                                AV.pl (Value.bool (fitsB L c a))])
                                                            [LObj.row (33 : Nat) (45 : Nat) (fitsL L c a).length
                                                                (brsF (fitsL L c a))]))) ∧
                                    ((!(a.err == (0 : Int) &&
                                            (((List.range (32 : Nat)).all fun (i : Nat) => a.id i == c.new i) && true))) =
                                        false →
                                      (((bif !(List.range (32 : Nat)).all fun (i : Nat) => c.new i == (0 : Int) then
                                                x.snd.fst
                                              else false) =
                                              true →
                                            ((0 : Int) ≤ (↑x.fst : Int) ∧ (↑x.fst : Int) + (1 : Int) ≤ (↑L.length : Int)) ∧
                                              (((0 : Nat) + (↑x.fst : Int).toNat).succ.le L.length ∧ True) ∧
                                                ∃ (x_2 : List Br),
                                                  ((True ∧ (0 : Nat) = (0 : Nat) ∧ L.length = x_2.length) ∧ True) ∧
                                                    (((33 : Nat) = (33 : Nat) ∧
                                                          (45 : Nat) = (45 : Nat) ∧
                                                            x_2.length.le L.length ∧
                                                              ∀ (i : Nat),
                                                                i < x_2.length →
                                                                  (if i = (0 : Nat) + (↑x.fst : Int).toNat then
                                                                      AV.agg
                                                                        [AV.pl
                                                                            (Value.string
                                                                              (brAt L
                                                                                  ((0 : Nat) + (↑x.fst : Int).toNat)).name),
                                                                          AV.iarr IntKind.u8 (32 : Nat) c.new]
                                                                    else
                                                                      AV.agg
                                                                        [AV.pl (Value.string (brAt L i).name),
                                                                          AV.iarr IntKind.u8 (32 : Nat) (brAt L i).id]) =
                                                                    AV.agg
                                                                      [AV.pl (Value.string (brAt x_2 i).name),
                                                                        AV.iarr IntKind.u8 (32 : Nat) (brAt x_2 i).id]) ∧
                                                        True) ∧
                                                      inv3 x_2) ∧
                                          ((bif !(List.range (32 : Nat)).all fun (i : Nat) => c.new i == (0 : Int) then
                                                x.snd.fst
                                              else false) =
                                              false →
                                            ((!(List.range (32 : Nat)).all fun (i : Nat) => c.new i == (0 : Int)) = true →
                                                True ∧
                                                  (True ∧ True ∧ True ∧ True) ∧
                                                    L.length = L.length ∧
                                                      (0 : Int) ≤ (↑x.fst : Int) ∧
                                                        (↑x.fst : Int) ≤ (↑L.length : Int) ∧
                                                          L.length.le (1000000 : Nat) ∧
                                                            ∃ (x_2 : List Br),
                                                              ((True ∧
                                                                    (0 : Nat) = (0 : Nat) ∧
                                                                      L.length + (1 : Nat) = x_2.length) ∧
                                                                  True) ∧
                                                                (((33 : Nat) = (33 : Nat) ∧
                                                                      (45 : Nat) = (45 : Nat) ∧
                                                                        x_2.length.le (L.length + (1 : Nat)) ∧
                                                                          ∀ (i : Nat),
                                                                            i < x_2.length →
                                                                              insF (brsF L) (↑x.fst : Int).toNat
                                                                                  (AV.agg
                                                                                    [AV.pl (Value.string c.branch),
                                                                                      AV.iarr IntKind.u8 (32 : Nat) c.new])
                                                                                  i =
                                                                                AV.agg
                                                                                  [AV.pl (Value.string (brAt x_2 i).name),
                                                                                    AV.iarr IntKind.u8 (32 : Nat)
                                                                                      (brAt x_2 i).id]) ∧
                                                                    True) ∧
                                                                  inv3 x_2) ∧
                                              ((!(List.range (32 : Nat)).all fun (i : Nat) => c.new i == (0 : Int)) =
                                                  false →
                                                (x.snd.fst = true →
                                                    (True ∧ True ∧ True ∧ True) ∧
                                                      L.length = L.length ∧
                                                        (0 : Int) ≤ (↑x.fst : Int) ∧
                                                          IntKind.i64.wrap ((↑x.fst : Int) + (1 : Int)) =
                                                              (↑x.fst : Int) + (1 : Int) ∧
                                                            IntKind.i64.wrap ((↑x.fst : Int) + (1 : Int)) ≤
                                                                (↑L.length : Int) ∧
                                                              L.length.le (1000000 : Nat) ∧
                                                                ∃ (x_2 : List Br),
                                                                  ((True ∧
                                                                        (0 : Nat) = (0 : Nat) ∧
                                                                          L.length - (1 : Nat) = x_2.length) ∧
                                                                      True) ∧
                                                                    (((33 : Nat) = (33 : Nat) ∧
                                                                          (45 : Nat) = (45 : Nat) ∧
                                                                            x_2.length.le (L.length - (1 : Nat)) ∧
                                                                              ∀ (i : Nat),
                                                                                i < x_2.length →
                                                                                  delF (brsF L) (↑x.fst : Int).toNat i =
                                                                                    AV.agg
                                                                                      [AV.pl
                                                                                          (Value.string (brAt x_2 i).name),
                                                                                        AV.iarr IntKind.u8 (32 : Nat)
                                                                                          (brAt x_2 i).id]) ∧
                                                                        True) ∧
                                                                      inv3 x_2) ∧
                                                  (x.snd.fst = false →
                                                    ∃ (x : List Br),
                                                      ((True ∧ (0 : Nat) = (0 : Nat) ∧ L.length = x.length) ∧ True) ∧
                                                        (((33 : Nat) = (33 : Nat) ∧
                                                              (45 : Nat) = (45 : Nat) ∧
                                                                x.length.le L.length ∧
                                                                  ∀ (i : Nat),
                                                                    i < x.length →
                                                                      AV.agg
                                                                          [AV.pl (Value.string (brAt L i).name),
                                                                            AV.iarr IntKind.u8 (32 : Nat) (brAt L i).id] =
                                                                        AV.agg
                                                                          [AV.pl (Value.string (brAt x i).name),
                                                                            AV.iarr IntKind.u8 (32 : Nat) (brAt x i).id]) ∧
                                                            True) ∧
                                                          inv3 x)))) ∧
                                        ∀ (x : List Br),
                                          inv3 x →
                                            (True ∧ True ∧ True) ∧
                                              True ∧
                                                ∃ (_ : Unit),
                                                  (((True ∧ (0 : Nat) = (0 : Nat) ∧ x.length = (fitsL L c a).length) ∧
                                                        true = fitsB L c a ∧ True) ∧
                                                      True) ∧
                                                    (((33 : Nat) = (33 : Nat) ∧
                                                          (45 : Nat) = (45 : Nat) ∧
                                                            (fitsL L c a).length.le x.length ∧
                                                              ∀ (i : Nat),
                                                                i < (fitsL L c a).length →
                                                                  AV.agg
                                                                      [AV.pl (Value.string (brAt x i).name),
                                                                        AV.iarr IntKind.u8 (32 : Nat) (brAt x i).id] =
                                                                    AV.agg
                                                                      [AV.pl (Value.string (brAt (fitsL L c a) i).name),
                                                                        AV.iarr IntKind.u8 (32 : Nat)
                                                                          (brAt (fitsL L c a) i).id]) ∧
                                                        True) ∧
                                                      R
                                                        (AV.tup
                                                          [AV.own (0 : Nat) (0 : Nat) (fitsL L c a).length,
                                                            AV.pl (Value.bool (fitsB L c a))])
                                                        [LObj.row (33 : Nat) (45 : Nat) (fitsL L c a).length
                                                            (brsF (fitsL L c a))])) := by kernel_rfl
theorem idEq_congr {a h h' : Idv} (e : ∀ i, i < 32 → h i = h' i) : idEq a h = idEq a h' := by
  unfold idEq
  rw [Bool.eq_iff_iff, List.all_eq_true, List.all_eq_true]
  constructor
  · intro hh i hi; rw [← e i (by simpa using hi)]; exact hh i hi
  · intro hh i hi; rw [e i (by simpa using hi)]; exact hh i hi
theorem idEq_congr' {a h h' : Idv} (e : ∀ i, i < 32 → h i = h' i) : idEq h a = idEq h' a := by
  unfold idEq
  rw [Bool.eq_iff_iff, List.all_eq_true, List.all_eq_true]
  constructor
  · intro hh i hi; rw [← e i (by simpa using hi)]; exact hh i hi
  · intro hh i hi; rw [e i (by simpa using hi)]; exact hh i hi
theorem findI_le (L : List Br) (s : ByteArray) : findI L s ≤ L.length := by
  unfold findI
  exact List.takeWhile_sublist _ |>.length_le
theorem findI_lt {L : List Br} {s : ByteArray} (h : hasB L s = true) : findI L s < L.length := by
  unfold findI
  unfold hasB at h
  induction L with
  | nil => simp at h
  | cons b L ih =>
    rw [List.takeWhile_cons]
    split
    · rename_i hb
      rw [List.any_cons, Bool.or_eq_true] at h
      rcases h with h | h
      · have : b.name.toList = s.toList := by simpa using h
        simp only [this, lt_irrefl] at hb
        cases hb
      · simp only [List.length_cons]
        have := ih h
        omega
    · simp
theorem brAt_lt {L : List Br} {i : Nat} (h : i < L.length) : brAt L i = L[i] := by simp [brAt, h]
theorem brsF_put (L : List Br) (k : Nat) (x : Idv) (i : Nat) (hk : k < L.length) : (if i = k then (⟨(brAt L k).name, x⟩ : Br).av else brsF L i) = brsF (putId L k x) i := by
  unfold brsF putId
  by_cases h : i = k
  · subst h
    rw [if_pos rfl]
    congr 1
    unfold brAt
    rw [List.getD_eq_getElem?_getD, List.getD_eq_getElem?_getD, List.getElem?_set_self hk]
    rfl
  · rw [if_neg h]
    congr 1
    unfold brAt
    rw [List.getD_eq_getElem?_getD, List.getD_eq_getElem?_getD, List.getElem?_set_ne (Ne.symm h)]
theorem brsF_ins (L : List Br) (k : Nat) (b : Br) (i : Nat) (hk : k ≤ L.length) : insF (brsF L) k b.av i = brsF (insB L k b) i := by
  unfold brsF insF insB brAt
  simp only [List.getD_eq_getElem?_getD]
  by_cases h : i < k
  · rw [if_pos h, List.getElem?_append_left (by simp; omega), List.getElem?_take_of_lt h]
  · rw [if_neg h, List.getElem?_append_right (by simp; omega)]
    simp only [List.length_take, Nat.min_eq_left hk]
    by_cases h2 : i = k
    · rw [if_pos h2, h2, Nat.sub_self]; rfl
    · rw [if_neg h2, show i - k = (i - k - 1) + 1 by omega, List.getElem?_cons_succ, List.getElem?_drop, show k + (i - k - 1) = i - 1 by omega]
theorem brsF_del (L : List Br) (k : Nat) (i : Nat) (hk : k < L.length) : delF (brsF L) k i = brsF (delB L k) i := by
  unfold brsF delF delB brAt
  simp only [List.getD_eq_getElem?_getD]
  by_cases h : i < k
  · rw [if_pos h, List.getElem?_append_left (by simp; omega), List.getElem?_take_of_lt h]
  · rw [if_neg h, List.getElem?_append_right (by simp; omega), List.getElem?_drop]
    simp only [List.length_take, Nat.min_eq_left (Nat.le_of_lt hk)]
    rw [show k + 1 + (i - k) = i + 1 by omega]
theorem len_put (L : List Br) (k : Nat) (x : Idv) : (putId L k x).length = L.length := by simp [putId]
theorem len_ins (L : List Br) (k : Nat) (b : Br) (hk : k ≤ L.length) : (insB L k b).length = L.length + 1 := by simp [insB]; omega
theorem len_del (L : List Br) (k : Nat) (hk : k < L.length) : (delB L k).length = L.length - 1 := by simp [delB]; omega
theorem X30 : EntOk Try.prog 30 (.lend T30) := by
  refine ⟨enters_of (fn := Try.f30) rfl rfl (by kernel_rfl), fun args R h => ?_⟩
  unfold T30 at h
  split at h
  case h_2 => exact h.elim
  obtain ⟨L, c, a, hx, hy, hz, hB, hS, h⟩ := h
  refine Spec.args (args' := [brs L, c.av, a.av]) ⟨hx, hy, hz, trivial⟩ (Spec.weak (Z := Unit) (X := fun _ => .tup [.own 0 0 (fitsL L c a).length, bl (fitsB L c a)]) (HH := fun _ => [brsO (fitsL L c a)]) (mkS (v30 L c a
    (fun p => p.1 = findI L c.branch ∧ p.2.1 = hasB L c.branch ∧ ∀ i, i < 32 → headI L c.branch i = p.2.2 i)
    (fun p => p.1 = findI L c.branch ∧ p.2.1 = hasB L c.branch ∧ (∀ i, i < 32 → headI L c.branch i = p.2.2 i) ∧ (c.kind == 1) = false ∧ (c.kind == 4) = false ∧ (c.kind == 2 && !idEq (headI L c.branch) c.old) = false)
    (fun M => M = fitsL L c a ∧ fitsB L c a = true) R) (tb (ac X37 (ac X25 (ac X38 (ac X39 (ac X40 az)))))) rfl rfl ?_))
  simp only [true_and, and_true, and_self, implies_true, forall_const, gEq_true, gEq_false, natle_iff, Int.toNat_natCast, cond_bf, Bool.cond_true, Bool.cond_false, Bool.not_true, false_implies, implies_true, Bool.false_eq_true, Bool.not_eq_true', Bool.not_eq_false']
  have fin : ∀ (M : List Br) (b : Bool), M = fitsL L c a → b = fitsB L c a → (M.length = (fitsL L c a).length ∧ b = fitsB L c a) ∧ ((fitsL L c a).length ≤ M.length ∧ ∀ (i : Nat), i < (fitsL L c a).length → AV.agg [AV.pl (Value.string (brAt M i).name), AV.iarr IntKind.u8 32 (brAt M i).id] = AV.agg [AV.pl (Value.string (brAt (fitsL L c a) i).name), AV.iarr IntKind.u8 32 (brAt (fitsL L c a) i).id]) ∧
      R (AV.tup [AV.own 0 0 (fitsL L c a).length, AV.pl (Value.bool (fitsB L c a))]) [LObj.row 33 45 (fitsL L c a).length (brsF (fitsL L c a))] := by
    rintro M b rfl rfl
    exact ⟨⟨rfl, rfl⟩, ⟨Nat.le_refl _, fun _ _ => rfl⟩, h⟩
  have hae : (⟨a.err, a.id⟩ : Ans) = a := rfl
  refine ⟨L, isBrs_self L, hS, ⟨fun hb => ⟨by have := findI_lt hb; omega, (findI L c.branch, true, headI L c.branch), ⟨rfl, hb⟩, fun i _ => by simp [headI, hb], rfl, hb.symm, fun _ _ => rfl⟩, fun hb => ⟨(findI L c.branch, false, headI L c.branch), ⟨rfl, hb⟩, fun i _ => by simp [headI, hb, z0], rfl, hb.symm, fun _ _ => rfl⟩⟩, ?_⟩
  rintro ⟨k, b, hd⟩ ⟨hk, hb, hh⟩
  simp only at hk hb hh ⊢
  refine ⟨L, isBrs_self L, hB, ⟨fun h1 => ⟨fun hb0 => ?_, fun hb0 => ?_⟩, fun h1 => ⟨fun h4 => ⟨fun e1 => ⟨fun e2 => ⟨fun e3 => ?_, fun e3 => ?_⟩, fun e2 => ?_⟩, fun e1 => ?_⟩, fun h4 => ⟨fun h2 => ⟨fun e1 => ?_, fun e1 => ?_⟩, fun h2 => ?_⟩⟩⟩, ?_⟩
  · refine ⟨(), fin _ _ ?_ ?_⟩
    · simp [fitsL, h1]
    · rw [fitsB, h1, ← hb, hb0]; rfl
  · refine ⟨(), fin _ _ ?_ ?_⟩
    · simp [fitsL, h1]
    · rw [fitsB, h1, ← hb, hb0, Bool.and_true]
      show (a.err == 0 && idEq a.id hd) = _
      rw [← idEq_congr hh]; rfl
  · refine ⟨(), fin _ _ ?_ ?_⟩
    · simp [fitsL, h4]
    · have e1' : (a.err == 0 && !idEq a.id z0) = false := e1
      rw [hae] at e2 e3 ⊢
      simp only [fitsB, h1, h4, e1', e2, e3, cond_true, cond_false, Bool.false_or]
  · refine ⟨(), fin _ _ ?_ ?_⟩
    · simp [fitsL, h4]
    · rw [hae] at e3
      simp only [fitsB, h1, h4, e3, cond_true, cond_false, Bool.or_true, Bool.true_or]
  · refine ⟨(), fin _ _ ?_ ?_⟩
    · simp [fitsL, h4]
    · rw [hae] at e2
      simp only [fitsB, h1, h4, e2, cond_true, cond_false, Bool.or_true, Bool.true_or]
  · refine ⟨(), fin _ _ ?_ ?_⟩
    · simp [fitsL, h4]
    · have e1' : (a.err == 0 && !idEq a.id z0) = true := e1
      simp only [fitsB, h1, h4, e1', cond_true, cond_false, Bool.true_or]
  · have e1' : idEq (headI L c.branch) c.old = false := by
      rw [idEq_congr' hh]; exact e1
    refine ⟨(), fin _ _ ?_ ?_⟩
    · simp [fitsL, h2, e1']
    · rw [Bool.and_true]
      simp only [fitsB, h1, h4, h2, e1', cond_true, cond_false, Bool.not_false, Bool.and_self]
      show (a.err == 263 && idEq a.id hd) = _
      rw [← idEq_congr hh]; rfl
  · have e1' : idEq (headI L c.branch) c.old = true := by
      rw [idEq_congr' hh]; exact e1
    exact ⟨(), rfl, ⟨Nat.le_refl _, fun _ _ => rfl⟩, hk, hb, hh, h1, h4, by rw [h2, e1']; rfl⟩
  · exact ⟨(), rfl, ⟨Nat.le_refl _, fun _ _ => rfl⟩, hk, hb, hh, h1, h4, by rw [h2]; rfl⟩
  · rintro ⟨_, _, _, h1, h4, h2⟩
    refine ⟨fun e1 => ⟨fun e2 => ⟨fun e3 => ?_, fun e3 => ?_⟩, fun e2 => ?_⟩, fun e1 => ?_⟩
    · have e1' : ansEq a 0 c.new = false := by rw [Bool.and_true] at e1; exact e1
      have e2' : idEq c.new z0 = false := e2
      have e3' : isB a 6 = false := by simpa using e3
      refine ⟨(), fin _ _ ?_ ?_⟩
      · simp [fitsL, e1']
      · simp only [fitsB, h1, h4, h2, e1', e2', e3', cond_false, Bool.not_false, Bool.true_and, Bool.false_or]
    · have e1' : ansEq a 0 c.new = false := by rw [Bool.and_true] at e1; exact e1
      have e2' : idEq c.new z0 = false := e2
      have e3' : isB a 6 = true := by simpa using e3
      refine ⟨(), fin _ _ ?_ ?_⟩
      · simp [fitsL, e1']
      · simp only [fitsB, h1, h4, h2, e1', e2', e3', cond_false, Bool.not_false, Bool.true_and, Bool.true_or]
    · have e1' : ansEq a 0 c.new = false := by rw [Bool.and_true] at e1; exact e1
      have e2' : idEq c.new z0 = true := e2
      refine ⟨(), fin _ _ ?_ ?_⟩
      · simp [fitsL, e1']
      · simp only [fitsB, h1, h4, h2, e1', e2', cond_false, Bool.not_true, Bool.false_and]
    · have e1' : ansEq a 0 c.new = true := by rw [Bool.and_true] at e1; exact e1
      have hL : fitsL L c a = moved L c := by
        unfold fitsL
        rw [h1, h4, h2, e1']; rfl
      have hF : fitsB L c a = true := by simp only [fitsB, h1, h4, h2, e1', cond_false, cond_true]
      have hkl : k ≤ L.length := by rw [hk]; exact findI_le L c.branch
      have hnew : ∀ b, idEq c.new z0 = b → ((List.range 32).all fun i => c.new i == 0) = b := fun _ h => h
      refine ⟨⟨fun hp => ?_, fun hp => ⟨fun e2 => ?_, fun e2 => ⟨fun hb0 => ?_, fun hb0 => ?_⟩⟩⟩, ?_⟩
      · have hp1 : idEq c.new z0 = false := by
          cases hz : idEq c.new z0 with
          | false => rfl
          | true => rw [hnew _ hz] at hp; cases hp
        have hp2 : b = true := by rw [hnew _ hp1] at hp; exact hp
        have hkl' : k < L.length := by rw [hk]; exact findI_lt (by rw [← hb, hp2])
        have hM : fitsL L c a = putId L k c.new := by rw [hL, moved, hp1, ← hb, hp2, ← hk]; rfl
        refine ⟨by omega, by omega, putId L k c.new, (len_put _ _ _).symm, ⟨Nat.le_of_eq (len_put _ _ _), fun i hi => ?_⟩, hM.symm, hF⟩
        rw [Nat.zero_add]
        exact brsF_put L k c.new i hkl'
      · have e2' : idEq c.new z0 = false := e2
        have hp2 : b = false := by rw [e2] at hp; simpa using hp
        have hM : fitsL L c a = insB L k ⟨c.branch, c.new⟩ := by rw [hL, moved, e2', ← hb, hp2, ← hk]; rfl
        have hBd : L.length ≤ 1000000 := hB
        refine ⟨by omega, by omega, hBd, insB L k ⟨c.branch, c.new⟩, (len_ins _ _ _ hkl).symm, ⟨Nat.le_of_eq (len_ins _ _ _ hkl), fun i hi => ?_⟩, hM.symm, hF⟩
        exact brsF_ins L k ⟨c.branch, c.new⟩ i hkl
      · have e2' : idEq c.new z0 = true := e2
        have hkl' : k < L.length := by rw [hk]; exact findI_lt (by rw [← hb, hb0])
        have hM : fitsL L c a = delB L k := by rw [hL, moved, e2', ← hb, hb0, ← hk]; rfl
        have hBd : L.length ≤ 1000000 := hB
        have hw : IntKind.i64.wrap ((k : Int) + 1) = k + 1 := by rw [wrap64] <;> omega
        refine ⟨by omega, hw, by rw [hw]; omega, hBd, delB L k, (len_del _ _ hkl').symm, ⟨Nat.le_of_eq (len_del _ _ hkl'), fun i hi => ?_⟩, hM.symm, hF⟩
        exact brsF_del L k i hkl'
      · have e2' : idEq c.new z0 = true := e2
        have hM : fitsL L c a = L := by rw [hL, moved, e2', ← hb, hb0]; rfl
        exact ⟨L, rfl, ⟨Nat.le_refl _, fun _ _ => rfl⟩, hM.symm, hF⟩
      · rintro M ⟨rfl, hb⟩
        exact ⟨(), fin _ _ rfl hb.symm⟩
end Go.Proofs.R1

namespace Go.Proofs.R1
open Go Go.Am
def cutTo (L : List Br) (i : Nat) : List Br := ((L.take 20).take i).map cutB ++ (L.take 20).drop i
end Go.Proofs.R1
