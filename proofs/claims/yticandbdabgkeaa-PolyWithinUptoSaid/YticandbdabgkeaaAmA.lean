/- The abstract machine: its values, its states, and a predicate transformer that runs code on them by computation. No condition: definitions alone. -/
import Derived.Orders
import Derived.Still
namespace Go.Proofs.Yticandbdabgkeaa.Am
open Go

/-- Values of the abstract machine. 'sl': a slice whose elements are known and never change; 'ptr': a pointer into memory that never changes, with the cells from there on; 'lptr', 'lrow', 'lsl': into an object of the call's own. -/
inductive SV where
  | junk | undef
  | int (k : IntKind) (n : Int)
  | bool (b : Bool)
  | str (s : ByteArray)
  | nils | nilp | nilf | nili
  | agg (cs : List SV)
  | tup (vs : List SV)
  | sl (z : Nat) (xs : List (List SV))
  | ptr (cs : List SV)
  | fn (f : FuncId) (caps : List SV)
  | lptr (o st i j : Nat)
  | lrow (o st : Nat)
  | lsl (o st lo n : Nat)

abbrev SV.i (n : Int) : SV := .int .i64 n

/-- An object of the call's own. kind 0: a variable (one element, its cells may point to other objects); 1: a row that may grow; 2: frozen. -/
structure Ob where
  st : Nat
  kind : Nat
  z : Nat
  xs : List (List SV)

structure Upd where
  nm : Nat
  ob : Ob
  fresh : Bool

abbrev Slots := Nat → SV
abbrev Tab := Nat → Option Ob
abbrev Cnt := Nat → Nat
abbrev Kont := Slots → Tab → Cnt → Prop
abbrev QK := Exit → Kont

/-- A choice by a Bool, as the recursor itself: it computes where the Bool is known, and stands still as it is where it is not. -/
@[reducible] def ifB (t : Bool) (A B : Prop) : Prop := @Bool.rec (fun _ => Prop) B A t
theorem ifB_intro {t : Bool} {A B : Prop} (h1 : t = true → A) (h0 : t = false → B) : ifB t A B := by
  cases t with
  | true => exact h1 rfl
  | false => exact h0 rfl

def kEq : IntKind → IntKind → Bool
  | .i8, .i8 | .i16, .i16 | .i32, .i32 | .i64, .i64 | .u8, .u8 | .u16, .u16 | .u32, .u32 | .u64, .u64 => true
  | _, _ => false

@[reducible] def upd {α : Type} (f : Nat → α) (d : Nat) (v : α) : Nat → α := fun t => match Nat.beq t d with | true => v | false => f t

def ofC : Value → SV
  | .int k n => .int k n
  | .bool b => .bool b
  | .string s => .str s
  | .slice none 0 0 => .nils
  | .pointer none => .nilp
  | .nilFunc => .nilf
  | .nilIface => .nili
  | _ => .junk

def ofCs : List Value → List SV
  | [] => []
  | v :: r => ofC v :: ofCs r

def cellB : SV → Bool
  | .junk | .undef | .tup _ | .agg _ => false
  | _ => true

def pureB : SV → Bool
  | .int _ _ | .bool _ | .str _ | .nils | .nilp | .nilf | .nili | .sl _ _ | .ptr _ | .fn _ _ => true
  | _ => false

def allB {α : Type} (p : α → Bool) : List α → Bool
  | [] => true
  | c :: r => p c && allB p r

def lenIs {α : Type} : List α → Nat → Bool
  | [], 0 => true
  | _ :: r, n + 1 => lenIs r n
  | _, _ => false

def ofV : Value → SV
  | .agg cs => match allB cellB (ofCs cs.toList) with | true => .agg (ofCs cs.toList) | false => .junk
  | v => ofC v

def ev (G : Nat → List SV) (sl : Slots) : Operand → SV
  | .tmp t => sl t
  | .const v => ofV v
  | .global g => .ptr (G g)
  | .func f => .fn f []

def cellsK (v : SV) (k : List SV → Prop) : Prop :=
  match v with
  | .agg cs => ifB (allB cellB cs) (k cs) False
  | .junk | .undef | .tup _ => False
  | s => k [s]

def takeK : Nat → List SV → (List SV → Prop) → Prop
  | 0, _, k => k []
  | n + 1, x :: r, k => takeK n r fun l => k (x :: l)
  | _ + 1, [], _ => False

/-- The cells of 'e' from place 'j' on replaced by 'cs'. -/
def spliceK : Nat → List SV → List SV → (List SV → Prop) → Prop
  | 0, [], e, k => k e
  | 0, c :: cs, _ :: e, k => spliceK 0 cs e fun l => k (c :: l)
  | 0, _ :: _, [], _ => False
  | j + 1, cs, x :: e, k => spliceK j cs e fun l => k (x :: l)
  | _ + 1, _, [], _ => False

def zeroK (P : Program) (t : TypeId) (k : List SV → Prop) : Prop :=
  match P.info? t with
  | some i => match i.zero with
    | some z => ifB (allB cellB (ofCs z.cells.toList)) (k (ofCs z.cells.toList)) False
    | none => False
  | none => False

def sizeK (P : Program) (t : TypeId) (k : Nat → Prop) : Prop :=
  match P.info? t with
  | some i => k i.size
  | none => False

def aggK (P : Program) (t : TypeId) (k : Bool → Prop) : Prop :=
  match P.underlying t with
  | some (.struct _) => k true
  | some (.array _ _) => k true
  | some _ => k false
  | none => False

/-- What a variable of type t reads as whose cells begin 'e'. -/
def readK (P : Program) (t : TypeId) (e : List SV) (k : SV → Prop) : Prop :=
  aggK P t fun a => ifB a (sizeK P t fun n => takeK n e fun cs => k (.agg cs))
    (match e with | c :: _ => k c | [] => False)

def fieldK (P : Program) (t : TypeId) (f : Nat) (k : Nat → TypeId → Prop) : Prop :=
  match P.underlying t with
  | some (.struct fs) => match fs[f]? with
    | some fld => match P.info? fld.type with
      | some i => match i.size with
        | 0 => False
        | _ + 1 => k fld.offset fld.type
      | none => False
    | none => False
  | _ => False

/-- An element of an object. -/
def elemK (b : Ob) (i : Nat) (k : List SV → Prop) : Prop :=
  match b.kind with
  | 0 => i = 0 ∧ match b.xs with | [e] => k e | _ => False
  | _ => ∃ e, b.xs[i]? = some e ∧ k e

/-- A value of one cell, with no reference to an object of the call's own that can still change. -/
def pur1K (ob : Tab) (v : SV) (k : SV → List Upd → Prop) : Prop :=
  match v with
  | .lrow o st => match ob o with
    | some ⟨st', kd, z, xs⟩ => st = st' ∧ match kd with
      | 0 => False
      | 1 => k (.sl z xs) [⟨o, ⟨st', 2, z, xs⟩, false⟩]
      | _ => k (.sl z xs) []
    | none => False
  | .lsl o st lo n => match ob o with
    | some ⟨st', kd, z, xs⟩ => st = st' ∧ lo + n ≤ xs.length ∧ match kd with
      | 0 => False
      | 1 => k (.sl z ((xs.drop lo).take n)) [⟨o, ⟨st', 2, z, xs⟩, false⟩]
      | _ => k (.sl z ((xs.drop lo).take n)) []
    | none => False
  | .lptr o st i j => match ob o with
    | some ⟨st', kd, z, xs⟩ => st = st' ∧ match kd with
      | 0 => i = 0 ∧ match xs with
        | [e] => ifB (allB pureB e) (k (.ptr (e.drop j)) [⟨o, ⟨st', 2, z, [e]⟩, false⟩]) False
        | _ => False
      | 1 => False
      | _ => ∃ e, xs[i]? = some e ∧ k (.ptr (e.drop j)) []
    | none => False
  | .agg _ | .tup _ | .junk | .undef => False
  | s => k s []

def purLK (ob : Tab) : List SV → (List SV → List Upd → Prop) → Prop
  | [], k => k [] []
  | v :: r, k => pur1K ob v fun s us => purLK ob r fun l ws => k (s :: l) (us ++ ws)

def purAK (ob : Tab) (v : SV) (k : SV → List Upd → Prop) : Prop :=
  match v with
  | .agg cs => purLK ob cs fun l us => k (.agg l) us
  | s => pur1K ob s k

def purALK (ob : Tab) : List SV → (List SV → List Upd → Prop) → Prop
  | [], k => k [] []
  | v :: r, k => purAK ob v fun s us => purALK ob r fun l ws => k (s :: l) (us ++ ws)

/-- A value of one cell for the time of a call: rows and variables of the call's own are read as they are, and stay as they are. -/
def bor1K (ob : Tab) (v : SV) (k : SV → Prop) : Prop :=
  match v with
  | .lrow o st => match ob o with
    | some ⟨st', kd, z, xs⟩ => st = st' ∧ match kd with
      | 0 => False
      | _ => k (.sl z xs)
    | none => False
  | .lsl o st lo n => match ob o with
    | some ⟨st', kd, z, xs⟩ => st = st' ∧ lo + n ≤ xs.length ∧ match kd with
      | 0 => False
      | _ => k (.sl z ((xs.drop lo).take n))
    | none => False
  | .lptr o st i j => match ob o with
    | some ⟨st', kd, z, xs⟩ => st = st' ∧ match kd with
      | 0 => i = 0 ∧ match xs with
        | [e] => ifB (allB pureB e) (k (.ptr (e.drop j))) False
        | _ => False
      | _ => ∃ e, xs[i]? = some e ∧ k (.ptr (e.drop j))
    | none => False
  | .agg _ | .tup _ | .junk | .undef => False
  | s => k s

def borLK (ob : Tab) : List SV → (List SV → Prop) → Prop
  | [], k => k []
  | v :: r, k => bor1K ob v fun s => borLK ob r fun l => k (s :: l)

def borAK (ob : Tab) (v : SV) (k : SV → Prop) : Prop :=
  match v with
  | .agg cs => borLK ob cs fun l => k (.agg l)
  | s => bor1K ob s k

def borALK (ob : Tab) : List SV → (List SV → Prop) → Prop
  | [], k => k []
  | v :: r, k => borAK ob v fun s => borALK ob r fun l => k (s :: l)

/-- Without references. -/
def scalB : SV → Bool
  | .int _ _ | .bool _ | .str _ | .nils | .nilp | .nilf | .nili => true
  | _ => false
def scalA : SV → Bool
  | .agg cs => allB scalB cs
  | s => scalB s
def scalV : SV → Bool
  | .tup ss => allB scalA ss
  | s => scalA s
/-- Without references but to a row. -/
def scalF1 : SV → Bool
  | .lrow _ _ | .lsl _ _ _ _ => true
  | s => scalB s
def scalFA : SV → Bool
  | .agg cs => allB scalF1 cs
  | s => scalF1 s
def scalFV : SV → Bool
  | .tup ss => allB scalFA ss
  | s => scalFA s

def placeK (P : Program) (t : TypeId) (i : Nat) (k : Nat → Nat → Prop) : Prop :=
  match P.underlying t with
  | some (.struct fs) => match fs[i]? with
    | some fld => sizeK P fld.type fun n => k fld.offset n
    | none => False
  | some (.array _ el) => sizeK P el fun n => k (i * n) n
  | _ => False

/-- Every field's type has a size. -/
def sizedB (P : Program) (t : TypeId) : Bool :=
  match P.underlying t with
  | some (.struct fs) => allB (fun f => (P.info? f.type).isSome) fs.toList
  | some (.array _ el) => (P.info? el).isSome
  | _ => false

def fillK (P : Program) (t : TypeId) (g : Operand → SV) : List (Nat × Operand) → List SV → (List SV → Prop) → Prop
  | [], cs, k => k cs
  | (i, x) :: r, cs, k => placeK P t i fun off n => cellsK (g x) fun vs =>
    ifB (lenIs vs n) (spliceK off vs cs fun cs' => fillK P t g r cs' k) False

def rowsK (n : Nat) (ob : Tab) (g : Operand → SV) : List (Nat × Operand) → List (List SV) → List Upd → (List (List SV) → List Upd → Prop) → Prop
  | [], es, us, k => k es us
  | (i, x) :: r, es, us, k => cellsK (g x) fun vs =>
    ifB (lenIs vs n) (purLK ob vs fun ps ws => i < es.length ∧ rowsK n ob g r (es.set i ps) (us ++ ws) k) False

/-- The elements of a slice that is read as a whole. -/
def elsK (ob : Tab) (z : Nat) (v : SV) (k : List (List SV) → Prop) : Prop :=
  match v with
  | .sl z' xs => z' = z ∧ k xs
  | .nils => k []
  | .lrow o st => match ob o with
    | some ⟨st', kd, z', xs⟩ => st = st' ∧ z' = z ∧ match kd with | 0 => False | _ => k xs
    | none => False
  | .lsl o st lo n => match ob o with
    | some ⟨st', kd, z', xs⟩ => st = st' ∧ z' = z ∧ lo + n ≤ xs.length ∧ match kd with | 0 => False | _ => k ((xs.drop lo).take n)
    | none => False
  | _ => False

def roomB : Nat := 140737488355328

def appendK (ob : Tab) (ct : Cnt) (d z bytes : Nat) (x : SV) (ys : List (List SV)) (R : SV → List Upd → Prop) : Prop :=
  match x with
  | .nils => ys.length * bytes ≤ 140737488355328 ∧ R (.lrow d (ct d)) [⟨d, ⟨ct d, 1, z, ys⟩, true⟩]
  | .lrow o st => match ob o with
    | some ⟨st', kd, z', xs⟩ => st = st' ∧ z' = z ∧ (xs.length + ys.length) * bytes ≤ 140737488355328 ∧ match kd with
      | 1 => R (.lrow o (ct o)) [⟨o, ⟨ct o, 1, z, xs ++ ys⟩, true⟩]
      | _ => False
    | none => False
  | .lsl o st lo n => match ob o with
    | some ⟨st', kd, z', xs⟩ => st = st' ∧ lo = 0 ∧ z' = z ∧ n ≤ xs.length ∧ (n + ys.length) * bytes ≤ 140737488355328 ∧ match kd with
      | 1 => R (.lrow o (ct o)) [⟨o, ⟨ct o, 1, z, xs.take n ++ ys⟩, true⟩]
      | _ => False
    | none => False
  | _ => False

def leavesF (lv : TypeId → Option (List Nat)) : List Field → List Nat → Option (List Nat)
  | [], acc => some acc
  | f :: r, acc => match Nat.beq f.offset acc.length with
    | true => match lv f.type with
      | some l => leavesF lv r (acc ++ l)
      | none => none
    | false => none

/-- The kinds of a type's cells (0: an integer, 1: a bool, 2: a string), if it has no other and they lie one behind another. -/
def leaves (P : Program) : Nat → TypeId → Option (List Nat)
  | 0, _ => none
  | n + 1, t => match P.underlying t with
    | some (.int _) => some [0]
    | some .bool => some [1]
    | some .string => some [2]
    | some (.struct fs) => match P.info? t, leavesF (leaves P n) fs.toList [] with
      | some i, some l => match Nat.beq i.size l.length with
        | true => some l
        | false => none
      | _, _ => none
    | _ => none

/-- No field is named '_', and no type is one that the model stands in for. -/
def eqOk (P : Program) : Nat → TypeId → Bool
  | 0, _ => false
  | n + 1, t => match P.underlying t with
    | some (.struct fs) => !P.stoodInHeld t && fs.toList.all fun f => f.name != "_" && eqOk P n f.type
    | _ => true

def eqK : List Nat → List SV → List SV → (Bool → Prop) → Prop
  | [], [], [], k => k true
  | 0 :: l, .int j a :: r, .int j' b :: s, k => ifB (kEq j j') (match l with | [] => (match r, s with | [], [] => k (decide (a = b)) | _, _ => False) | _ => eqK l r s fun x => k (decide (a = b) && x)) False
  | 1 :: l, .bool a :: r, .bool b :: s, k => match l with | [] => (match r, s with | [], [] => k (a == b) | _, _ => False) | _ => eqK l r s fun x => k ((a == b) && x)
  | 2 :: l, .str a :: r, .str b :: s, k => match l with | [] => (match r, s with | [], [] => k (decide (a = b)) | _, _ => False) | _ => eqK l r s fun x => k (decide (a = b) && x)
  | _, _, _, _ => False

def int2K (op : BinOp) (k : IntKind) (a b : Int) (R : SV → Prop) : Prop :=
  match op with
  | .add => (k.min ≤ a + b ∧ a + b ≤ k.max ∧ R (.int k (a + b))) ∨ R (.int k (k.wrap (a + b)))
  | .sub => (k.min ≤ a - b ∧ a - b ≤ k.max ∧ R (.int k (a - b))) ∨ R (.int k (k.wrap (a - b)))
  | .mul => (k.min ≤ a * b ∧ a * b ≤ k.max ∧ R (.int k (a * b))) ∨ R (.int k (k.wrap (a * b)))
  | .quo => b ≠ 0 ∧ R (.int k (k.wrap (a.tdiv b)))
  | .rem => b ≠ 0 ∧ R (.int k (a.tmod b))
  | .eql => R (.bool (decide (a = b)))
  | .neq => R (.bool (decide (a ≠ b)))
  | .lss => R (.bool (decide (a < b)))
  | .leq => R (.bool (decide (a ≤ b)))
  | .gtr => R (.bool (decide (b < a)))
  | .geq => R (.bool (decide (b ≤ a)))
  | .and => R (.int k (k.wrap (BitVec.ofInt k.bits a &&& BitVec.ofInt k.bits b).toNat))
  | .or => R (.int k (k.wrap (BitVec.ofInt k.bits a ||| BitVec.ofInt k.bits b).toNat))
  | .xor => R (.int k (k.wrap (BitVec.ofInt k.bits a ^^^ BitVec.ofInt k.bits b).toNat))
  | .shl => 0 ≤ b ∧ R (.int k (k.wrap (a * 2 ^ (min b.toNat k.bits))))
  | .shr => 0 ≤ b ∧ R (.int k (a.fdiv (2 ^ (min b.toNat k.bits))))
  | _ => False

/-- A shift by a number of another kind. -/
def shiftK (op : BinOp) (k : IntKind) (a b : Int) (R : SV → Prop) : Prop :=
  match op with
  | .shl => 0 ≤ b ∧ R (.int k (k.wrap (a * 2 ^ (min b.toNat k.bits))))
  | .shr => 0 ≤ b ∧ R (.int k (a.fdiv (2 ^ (min b.toNat k.bits))))
  | _ => False

def maxK (pick : Int → Int → Int) (g : Operand → SV) : List Operand → IntKind → Int → (SV → Prop) → Prop
  | [], k, a, R => R (.int k a)
  | x :: r, k, a, R => match g x with
    | .int k' b => ifB (kEq k k') (maxK pick g r k (pick a b) R) False
    | _ => False

def sliceK (n : Nat) (x : SV) (lo hi : Option SV) (R : SV → Prop) (ob : Tab) : Prop :=
  match x with
  | .sl z xs => z = n ∧ match lo, hi with
    | none, none => R (.sl z xs)
    | some (.int _ l), none => 0 ≤ l ∧ l ≤ xs.length ∧ R (.sl z (xs.drop l.toNat))
    | none, some (.int _ h) => 0 ≤ h ∧ h ≤ xs.length ∧ R (.sl z (xs.take h.toNat))
    | some (.int _ l), some (.int _ h) => 0 ≤ l ∧ l ≤ h ∧ h ≤ xs.length ∧ R (.sl z ((xs.take h.toNat).drop l.toNat))
    | _, _ => False
  | .lrow o st => match ob o with
    | some ⟨st', _, z, xs⟩ => st = st' ∧ z = n ∧ match lo, hi with
      | none, none => R (.lrow o st)
      | some (.int _ l), none => 0 ≤ l ∧ l ≤ xs.length ∧ R (.lsl o st l.toNat (xs.length - l.toNat))
      | none, some (.int _ h) => 0 ≤ h ∧ h ≤ xs.length ∧ R (.lsl o st 0 h.toNat)
      | some (.int _ l), some (.int _ h) => 0 ≤ l ∧ l ≤ h ∧ h ≤ xs.length ∧ R (.lsl o st l.toNat (h.toNat - l.toNat))
      | _, _ => False
    | none => False
  | .lsl o st lo0 m => match ob o with
    | some ⟨st', _, z, _⟩ => st = st' ∧ z = n ∧ match lo, hi with
      | none, none => R (.lsl o st lo0 m)
      | some (.int _ l), none => 0 ≤ l ∧ l ≤ m ∧ R (.lsl o st (lo0 + l.toNat) (m - l.toNat))
      | none, some (.int _ h) => 0 ≤ h ∧ h ≤ m ∧ R (.lsl o st lo0 h.toNat)
      | some (.int _ l), some (.int _ h) => 0 ≤ l ∧ l ≤ h ∧ h ≤ m ∧ R (.lsl o st (lo0 + l.toNat) (h.toNat - l.toNat))
      | _, _ => False
    | none => False
  | .nils => match lo, hi with
    | none, none => R .nils
    | none, some (.int _ h) => h = 0 ∧ R .nils
    | _, _ => False
  | _ => False

/-- Is it nil? -/
def nilEqK (op : BinOp) (b : Bool) (R : SV → List Upd → Prop) : Prop :=
  match op with
  | .eql => R (.bool b) []
  | .neq => R (.bool (!b)) []
  | _ => False

def sliceStrK (x : SV) (lo hi : Option SV) (R : SV → Prop) : Prop :=
  match x with
  | .str s => match lo, hi with
    | none, none => R (.str s)
    | some (.int _ l), none => 0 ≤ l ∧ l ≤ s.size ∧ R (.str (s.extract l.toNat s.size))
    | none, some (.int _ h) => 0 ≤ h ∧ h ≤ s.size ∧ R (.str (s.extract 0 h.toNat))
    | some (.int _ l), some (.int _ h) => 0 ≤ l ∧ l ≤ h ∧ h ≤ s.size ∧ R (.str (s.extract l.toNat h.toNat))
    | _, _ => False
  | _ => False

/-- One operation, but for calls of Go functions. -/
def act (P : Program) (o : Oper) (g : Operand → SV) (ob : Tab) (ct : Cnt) (R : SV → List Upd → Prop) : Prop :=
  match o.op with
  | .move x => R (g x) []
  | .assign x => R (g x) []
  | .pick c a b => match g c with
    | .bool t => ifB t (R (g a) []) (R (g b) [])
    | _ => False
  | .alloc t => match o.dst with
    | some d => zeroK P t fun cs => R (.lptr d (ct d) 0 0) [⟨d, ⟨ct d, 0, cs.length, [cs]⟩, true⟩]
    | none => False
  | .box _ x => match o.dst with
    | some d => cellsK (g x) fun cs => R (.lptr d (ct d) 0 0) [⟨d, ⟨ct d, 0, cs.length, [cs]⟩, true⟩]
    | none => False
  | .build t parts => ifB (sizedB P t) (zeroK P t fun zs => fillK P t g parts.toList zs fun cs => R (.agg cs) []) False
  | .buildSlice t len parts => match o.dst, P.underlying t with
    | some d, some (.slice el) => zeroK P el fun zs => sizeK P el fun n => lenIs zs n = true ∧ len * n ≤ 16777216 ∧ rowsK n ob g parts.toList (List.replicate len zs) [] fun es us =>
      es.length = len ∧ R (.lrow d (ct d)) (us ++ [⟨d, ⟨ct d, 1, n, es⟩, true⟩])
    | _, _ => False
  | .load t x => match g x with
    | .lptr o' st i j => match ob o' with
      | some b => st = b.st ∧ elemK b i fun e => readK P t (e.drop j) fun v => R v []
      | none => False
    | .ptr cs => readK P t cs fun v => R v []
    | _ => False
  | .store t x y => match g x with
    | .lptr o' st i j => match ob o' with
      | some ⟨st', kd, z, xs⟩ => st = st' ∧ cellsK (g y) fun cs => sizeK P t fun n => ifB (lenIs cs n) (match kd with
          | 0 => i = 0 ∧ match xs with
            | [e] => spliceK j cs e fun e' => R .undef [⟨o', ⟨st', 0, z, [e']⟩, false⟩]
            | _ => False
          | 1 => ifB (allB pureB cs) (∃ e, xs[i]? = some e ∧ spliceK j cs e fun e' => R .undef [⟨o', ⟨st', 1, z, xs.set i e'⟩, false⟩]) False
          | _ => False) False
      | none => False
    | _ => False
  | .nilCheck x => match g x with
    | .lptr o' st i j => match ob o' with
      | some b => st = b.st ∧ R (.lptr o' st i j) []
      | none => False
    | .ptr cs => R (.ptr cs) []
    | _ => False
  | .binOp op t x y _ => match g x, g y with
    | .int k a, .int k' b => ifB (kEq k k') (int2K op k a b fun v => R v []) (shiftK op k a b fun v => R v [])
    | .bool a, .bool b => match P.underlying t, op with
      | some .bool, .eql => R (.bool (a == b)) []
      | some .bool, .neq => R (.bool (!(a == b))) []
      | _, _ => False
    | .str a, .str b => match op with
      | .add => ((a.size + b.size : Nat) : Int) ≤ 9223372036854775807 ∧ R (.str (a ++ b)) []
      | .eql => R (.bool (decide (a = b))) []
      | .neq => R (.bool (!decide (a = b))) []
      | _ => False
    | .agg cs, .agg ds => aggK P t fun ag => ifB ag (match leaves P 8 t with
      | some l => match op with
        | .eql => eqOk P 8 t = true ∧ eqK l cs ds fun r => R (.bool r) []
        | .neq => eqOk P 8 t = true ∧ eqK l cs ds fun r => R (.bool (!r)) []
        | _ => False
      | none => False) False
    | .sl _ xs, .nils => match P.underlying t with
      | some (.slice _) => xs ≠ [] ∧ nilEqK op false R
      | _ => False
    | .nils, .nils => match P.underlying t with
      | some (.slice _) => nilEqK op true R
      | _ => False
    | .ptr _, .nilp => match P.underlying t with
      | some (.pointer _) => nilEqK op false R
      | _ => False
    | .lptr o st _ _, .nilp => match P.underlying t with
      | some (.pointer _) => match ob o with
        | some b => st = b.st ∧ nilEqK op false R
        | none => False
      | _ => False
    | _, _ => False
  | .unOp op _ x => match op, g x with
    | .not, .bool b => R (.bool (!b)) []
    | .neg, .int k n => (k.min ≤ -n ∧ -n ≤ k.max ∧ R (.int k (-n)) []) ∨ R (.int k (k.wrap (0 - n))) []
    | _, _ => False
  | .convert s d x => match P.underlying s, P.underlying d, g x with
    | some (.int _), some (.int k), .int _ n => (k.min ≤ n ∧ n ≤ k.max ∧ R (.int k n) []) ∨ R (.int k (k.wrap n)) []
    | _, _, _ => False
  | .makeFunc (.func f) first caps => match first.toList with
    | [] => purLK ob (caps.toList.map g) fun cs us => R (.fn f cs) us
    | _ => False
  | .makeSlice t l c => match o.dst, P.underlying t, g l, g c with
    | some d, some (.slice el), .int .i64 n, .int .i64 m => n = m ∧ zeroK P el fun zs => sizeK P el fun z => lenIs zs z = true ∧ 0 ≤ n ∧ n * 4096 ≤ 140737488355328 ∧
      (match P.info? el with | some i => i.bytes ≤ 4096 | none => False) ∧ R (.lrow d (ct d)) [⟨d, ⟨ct d, 1, z, List.replicate n.toNat zs⟩, true⟩]
    | _, _, _, _ => False
  | .slice t x lo hi mx => match mx with
    | none => match P.underlying t with
      | some (.slice el) => sizeK P el fun n => sliceK n (g x) (lo.map g) (hi.map g) (fun v => R v []) ob
      | some .string => sliceStrK (g x) (lo.map g) (hi.map g) (fun v => R v [])
      | _ => False
    | some _ => False
  | .fieldAddr t x f => fieldK P t f fun off _ => match g x with
    | .lptr o' st i j => match ob o' with
      | some b => st = b.st ∧ R (.lptr o' st i (j + off)) []
      | none => False
    | .ptr cs => R (.ptr (cs.drop off)) []
    | _ => False
  | .field t x f => fieldK P t f fun off ft => match g x with
    | .agg cs => readK P ft (cs.drop off) fun v => R v []
    | _ => False
  | .indexAddr t x y => match g y with
    | .int _ n => match P.underlying t with
      | some (.slice el) => sizeK P el fun s => match g x with
        | .sl z xs => z = s ∧ 0 ≤ n ∧ ∃ e, xs[n.toNat]? = some e ∧ R (.ptr e) []
        | .lrow o' st => match ob o' with
          | some ⟨st', _, z, xs⟩ => st = st' ∧ z = s ∧ 0 ≤ n ∧ n < xs.length ∧ R (.lptr o' st n.toNat 0) []
          | none => False
        | .lsl o' st lo m => match ob o' with
          | some ⟨st', _, z, _⟩ => st = st' ∧ z = s ∧ 0 ≤ n ∧ n < m ∧ R (.lptr o' st (lo + n.toNat) 0) []
          | none => False
        | _ => False
      | some (.array len el) => sizeK P el fun s => match g x with
        | .lptr o' st i j => match ob o' with
          | some b => st = b.st ∧ 0 ≤ n ∧ n < len ∧ R (.lptr o' st i (j + n.toNat * s)) []
          | none => False
        | .ptr cs => 0 ≤ n ∧ n < len ∧ R (.ptr (cs.drop (n.toNat * s))) []
        | _ => False
      | _ => False
    | _ => False
  | .index t x y => match g y with
    | .int _ n => match P.underlying t with
      | some (.array len el) => sizeK P el fun s => match g x with
        | .agg cs => 0 ≤ n ∧ n < len ∧ aggK P el fun a => ifB a (takeK s (cs.drop (n.toNat * s)) fun es => R (.agg es) [])
          (s = 1 ∧ ∃ c, cs[n.toNat]? = some c ∧ R c [])
        | _ => False
      | some .string => match g x with
        | .str s => 0 ≤ n ∧ n < s.size ∧ R (.int .u8 ((s.data.getD n.toNat 0).toNat : Int)) []
        | _ => False
      | _ => False
    | _ => False
  | .extract x i => match g x with
    | .tup vs => match vs[i]? with | some v => R v [] | none => False
    | _ => False
  | .call c => match c.callee with
    | .builtin .len => match c.args.toList, c.argTypes.toList with
      | [x], [t] => match P.underlying t, g x with
        | some (.slice _), .sl _ xs => R (.i xs.length) []
        | some (.slice _), .nils => R (.i 0) []
        | some (.slice _), .lrow o' st => match ob o' with
          | some b => st = b.st ∧ R (.i b.xs.length) []
          | none => False
        | some (.slice _), .lsl o' st _ n => match ob o' with
          | some b => st = b.st ∧ R (.i n) []
          | none => False
        | some .string, .str s => R (.i s.size) []
        | some (.array n _), _ => R (.i n) []
        | _, _ => False
      | _, _ => False
    | .builtin .append => match c.args.toList, c.argTypes.toList, o.dst with
      | [x, y], [tx, ty], some d => match P.underlying tx, P.underlying ty with
        | some (.slice el), some (.slice _) => match P.info? el with
          | some i => match i.zero with
            | some zv => ifB (lenIs zv.cells.toList i.size && Nat.blt 0 i.bytes) (elsK ob i.size (g y) fun ys => appendK ob ct d i.size i.bytes (g x) ys R) False
            | none => False
          | none => False
        | some (.slice el), some (.int _) => match g x, g y with
          | .nils, .int .i64 n => zeroK P el fun zs => sizeK P el fun z => lenIs zs z = true ∧ 1 ≤ n ∧ n * 4096 ≤ 140737488355328 ∧
            (match P.info? el with | some i => (Nat.blt 0 i.bytes && Nat.blt 0 i.size && Nat.ble i.bytes 4096) = true | none => False) ∧ R (.lrow d (ct d)) [⟨d, ⟨ct d, 1, z, List.replicate n.toNat zs⟩, true⟩]
          | _, _ => False
        | _, _ => False
      | _, _, _ => False
    | .builtin .cap => match c.args.toList, c.argTypes.toList with
      | [x], [t] => match P.underlying t, g x with
        | some (.slice _), .nils => R (.i 0) []
        | _, _ => False
      | _, _ => False
    | .builtin .clear => match c.args.toList, c.argTypes.toList with
      | [x], [t] => match P.underlying t with
        | some (.slice el) => zeroK P el fun zs => sizeK P el fun z => lenIs zs z = true ∧ match g x with
          | .lsl o' st lo n => match ob o' with
            | some ⟨st', kd, z', xs⟩ => st = st' ∧ z' = z ∧ lo + n ≤ xs.length ∧ match kd with
              | 1 => R (.tup []) [⟨o', ⟨st', 1, z', xs.take lo ++ List.replicate n zs ++ xs.drop (lo + n)⟩, false⟩]
              | _ => False
            | none => False
          | _ => False
        | _ => False
      | _, _ => False
    | .builtin .max => match c.args.toList with
      | x :: r => match g x with
        | .int k a => maxK (fun a b => max a b) g r k a fun v => R v []
        | _ => False
      | [] => False
    | .builtin .min => match c.args.toList with
      | x :: r => match g x with
        | .int k a => maxK (fun a b => min a b) g r k a fun v => R v []
        | _ => False
      | [] => False
    | _ => False
  | _ => False

def addO : Tab → List Upd → Tab
  | ob, [] => ob
  | ob, u :: r => addO (upd ob u.nm (some u.ob)) r
def addC : Cnt → List Upd → Cnt
  | ct, [] => ct
  | ct, u :: r => addC (match u.fresh with | true => upd ct u.nm (ct u.nm + 1) | false => ct) r

/-- The value's head is worked out before it is kept. -/
def forceK (v : SV) (k : SV → Prop) : Prop := match v with
  | .junk => k .junk
  | .undef => k .undef
  | .int a n => k (.int a n)
  | .bool b => k (.bool b)
  | .str s => k (.str s)
  | .nils => k .nils
  | .nilp => k .nilp
  | .nilf => k .nilf
  | .nili => k .nili
  | .agg cs => k (.agg cs)
  | .tup vs => k (.tup vs)
  | .sl z xs => k (.sl z xs)
  | .ptr cs => k (.ptr cs)
  | .fn f c => k (.fn f c)
  | .lptr o st i j => k (.lptr o st i j)
  | .lrow o st => k (.lrow o st)
  | .lsl o st lo n => k (.lsl o st lo n)
theorem forceK_eq (v : SV) (k : SV → Prop) : forceK v k = k v := by cases v <;> rfl

def setd (N : Nat) (sl : Slots) (dst : Option Nat) (v : SV) (k : Slots → Prop) : Prop :=
  match dst with
  | some d => ifB (Nat.blt d N) (forceK v fun v => k (upd sl d v)) False
  | none => k sl

/-- Is it a call of a Go function? -/
def goCall : Op → Bool
  | .call c => match c.callee with | .value _ => true | _ => false
  | _ => false

/-- Is a guarded operation to be carried out? The guard's own slot is known behind the question. -/
def gateK (ops : List Oper) (o : Oper) (sl : Slots) (yes no : Slots → Prop) : Prop :=
  match o.guard with
  | none => yes sl
  | some (j, want) => match (ops[j]?).bind (·.dst) with
    | some t => match sl t with
      | .bool b => ifB b (ifB want (yes (upd sl t (.bool true))) (no (upd sl t (.bool true)))) (ifB want (no (upd sl t (.bool false))) (yes (upd sl t (.bool false))))
      | .undef => no sl
      | _ => False
    | none => no sl

/-- The objects of the call's own to which a value points. -/
def refs1 : SV → List Nat
  | .lptr o _ _ _ => [o]
  | .lrow o _ => [o]
  | .lsl o _ _ _ => [o]
  | _ => []
def refsL : List SV → List Nat
  | [] => []
  | v :: r => refs1 v ++ refsL r
def refsA : SV → List Nat
  | .agg cs => refsL cs
  | s => refs1 s
def refsAL : List SV → List Nat
  | [] => []
  | v :: r => refsA v ++ refsAL r

/-- The objects that an operation reads, and those that it writes or makes. -/
def foot (o : Oper) (g : Operand → SV) : List Nat × List Nat :=
  match o.op with
  | .alloc _ | .box _ _ => ([], o.dst.toList)
  | .binOp _ _ x _ _ => (refs1 (g x), [])
  | .load _ x | .indexAddr _ x _ | .slice _ x _ _ _ | .nilCheck x | .fieldAddr _ x _ => (refs1 (g x), [])
  | .store _ x _ => ([], refs1 (g x))
  | .buildSlice _ _ parts => ([], o.dst.toList ++ refsAL (parts.toList.map fun p => g p.2))
  | .makeFunc _ _ caps => ([], refsAL (caps.toList.map g))
  | .makeSlice .. => ([], o.dst.toList)
  | .call c => match c.callee with
    | .builtin .append => (refsAL (c.args.toList.map g), o.dst.toList ++ (match c.args.toList with | x :: _ => refsA (g x) | _ => []))
    | .builtin .clear => ([], refsAL (c.args.toList.map g))
    | .builtin _ => (refsAL (c.args.toList.map g), [])
    | _ => ([], o.dst.toList ++ refsAL (c.args.toList.map g))
  | _ => ([], [])

/-- What is less known stands on the left: nil is an empty slice. -/
def leC : SV → SV → Prop
  | .nils, .sl _ xs => xs = []
  | a, b => a = b
def leL : List SV → List SV → Prop
  | [], [] => True
  | a :: r, b :: s => leC a b ∧ leL r s
  | _, _ => False
def leA : SV → SV → Prop
  | .agg cs, .agg ds => leL cs ds
  | a, b => leC a b
def leAL : List SV → List SV → Prop
  | [], [] => True
  | a :: r, b :: s => leA a b ∧ leAL r s
  | _, _ => False
def leV : SV → SV → Prop
  | .tup cs, .tup ds => leAL cs ds
  | a, b => leA a b
end Go.Proofs.Yticandbdabgkeaa.Am
