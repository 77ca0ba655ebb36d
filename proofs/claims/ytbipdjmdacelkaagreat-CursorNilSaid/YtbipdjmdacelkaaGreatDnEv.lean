/- The evaluator: what a piece of code asks for, computed from its text over typed values and the heap alone. -/
import Derived.Test.YtbipdjmdacelkaaGreatDnCanon
namespace Go.Dn
open Go

/-! ### typed values -/

structure Sl where
  a : Option Addr
  len : Nat
  cap : Nat

inductive Leaf where
  | bool | int (k : IntKind) | str | ptr | sl | map | raw

@[reducible] def LTy : Leaf → Type
  | .bool => Bool
  | .int _ => Int
  | .str => ByteArray
  | .ptr => Option Addr
  | .sl => Sl
  | .map => Option Nat
  | .raw => Value

def Leaf.enc : (l : Leaf) → LTy l → Value
  | .bool, b => .bool b
  | .int k, n => .int k n
  | .str, s => .string s
  | .ptr, a => .pointer a
  | .sl, s => .slice s.a s.len s.cap
  | .map, r => .map r
  | .raw, v => v

/-- a value that is of a leaf's kind -/
inductive Is : (l : Leaf) → Value → LTy l → Prop
  | bool (b : Bool) : Is .bool (.bool b) b
  | int (k : IntKind) (n : Int) : Is (.int k) (.int k n) n
  | str (s : ByteArray) : Is .str (.string s) s
  | ptr (a : Option Addr) : Is .ptr (.pointer a) a
  | sl (a : Option Addr) (n c : Nat) : Is .sl (.slice a n c) ⟨a, n, c⟩
  | map (r : Option Nat) : Is .map (.map r) r
  | raw (v : Value) : Is .raw v v

theorem Is.enc {l : Leaf} {v : Value} {x : LTy l} (h : Is l v x) : l.enc x = v := by cases h <;> rfl
theorem Leaf.is_enc : (l : Leaf) → (x : LTy l) → Is l (l.enc x) x
  | .bool, b => .bool b
  | .int k, n => .int k n
  | .str, s => .str s
  | .ptr, a => .ptr a
  | .sl, s => .sl s.a s.len s.cap
  | .map, r => .map r
  | .raw, v => .raw v

/-- functions of typed values, to something -/
@[reducible] def Cur (R : Type) : List Leaf → Type
  | [] => R
  | l :: ls => LTy l → Cur R ls

def curry {R : Type} : (ls : List Leaf) → (List Value → R) → Cur R ls
  | [], g => g []
  | l :: ls, g => fun x => curry ls fun vs => g (l.enc x :: vs)

/-- the values are of those kinds, and the typed function says so of them -/
def Appl {R : Type} (T : R → Prop) : (ls : List Leaf) → List Value → Cur R ls → Prop
  | [], [], K => T K
  | l :: ls, v :: vs, K => ∃ x, Is l v x ∧ Appl T ls vs (K x)
  | _, _, _ => False

theorem appl_curry {R : Type} {T : R → Prop} : ∀ (ls : List Leaf) (vs : List Value) (g : List Value → R), Appl T ls vs (curry ls g) → T (g vs)
  | [], [], _, h => h
  | l :: ls, v :: vs, g, ⟨x, hx, h⟩ => by
    have := appl_curry ls vs _ h
    rw [hx.enc] at this
    exact this
  | [], _ :: _, _, h => h.elim
  | _ :: _, [], _, h => h.elim

inductive Cmp where
  | leaf (l : Leaf)
  | agg (ls : List Leaf)

inductive Kd where
  | one (c : Cmp)
  | tup (cs : List Cmp)

def Cmp.leaves : Cmp → List Leaf
  | .leaf l => [l]
  | .agg ls => ls
def leavesAll : List Cmp → List Leaf
  | [] => []
  | c :: cs => c.leaves ++ leavesAll cs
def Kd.leaves : Kd → List Leaf
  | .one c => c.leaves
  | .tup cs => leavesAll cs

def takeN {α : Type} : Nat → List α → List α
  | 0, _ => []
  | _, [] => []
  | n + 1, x :: l => x :: takeN n l
def dropN {α : Type} : Nat → List α → List α
  | 0, l => l
  | _, [] => []
  | n + 1, _ :: l => dropN n l

def Cmp.build : Cmp → List Value → Value
  | .leaf _, v :: _ => v
  | .leaf _, [] => undef
  | .agg ls, vs => .agg (takeN ls.length vs).toArray
def buildAll : List Cmp → List Value → List Value
  | [], _ => []
  | c :: cs, vs => c.build vs :: buildAll cs (dropN c.leaves.length vs)
def Kd.build : Kd → List Value → Value
  | .one c, vs => c.build vs
  | .tup cs, vs => .tuple (buildAll cs vs).toArray

/-- a value that is of that kind, and the typed function says so of it -/
def Fits {R : Type} (T : R → Prop) (kd : Kd) (v : Value) (K : Cur R kd.leaves) : Prop := ∃ vs, v = kd.build vs ∧ Appl T kd.leaves vs K

theorem fits_curry {R : Type} {T : R → Prop} {kd : Kd} {v : Value} {g : Value → R} (h : Fits T kd v (curry kd.leaves fun vs => g (kd.build vs))) : T (g v) := by
  obtain ⟨vs, rfl, h⟩ := h
  exact appl_curry _ _ _ h

/-! ### kinds of the program's types -/

def leafOf : TypeDesc → Leaf
  | .bool => .bool
  | .int k => .int k
  | .string => .str
  | .pointer _ => .ptr
  | .slice _ => .sl
  | .map _ _ => .map
  | _ => .raw

def repeatL (l : List Leaf) : Nat → List Leaf
  | 0 => []
  | n + 1 => l ++ repeatL l n

def flat (P : Program) : Nat → TypeId → List Leaf
  | 0, _ => []
  | d + 1, t =>
    match P.underlying t with
    | some (.struct fs) => flatFs (fun f => flat P d f.type) fs.toList
    | some (.array n e) => repeatL (flat P d e) n
    | some u => [leafOf u]
    | none => [.raw]
where
  flatFs (g : Field → List Leaf) : List Field → List Leaf
    | [] => []
    | f :: fs => g f ++ flatFs g fs

def cmpOf (P : Program) (t : TypeId) : Cmp :=
  match P.underlying t with
  | some (.struct _) => .agg (flat P 12 t)
  | some (.array _ _) => .agg (flat P 12 t)
  | some u => .leaf (leafOf u)
  | none => .leaf .raw

def kdOf (P : Program) (t : TypeId) : Kd :=
  match P.underlying t with
  | some (.tuple ts) => .tup (ts.toList.map (cmpOf P))
  | _ => .one (cmpOf P t)

/-! ### what is asked of the heap -/

/-- a computation runs to a value, over whatever world has this heap -/
def Runs {α : Type} (P : Program) (m : Sem α) (h : Mem) (K : α → Mem → Prop) : Prop :=
  ∀ w : World, w.heap = h → ∃ a w', m.run P w = .ok a w' ∧ Same w w' ∧ K a w'.heap

/-- a computation that leaves the heap alone -/
def Reads (P : Program) (m : Sem Value) (h : Mem) (v : Value) : Prop := ∀ w : World, w.heap = h → m.run P w = .ok v w
/-- a computation that looks at no heap -/
def Gives (P : Program) (m : Sem Value) (v : Value) : Prop := ∀ w : World, m.run P w = .ok v w

def PureT (P : Program) (m : Sem Value) (kd : Kd) (K : Cur Prop kd.leaves) : Prop := ∃ v, Gives P m v ∧ Fits id kd v K
def ReadT (P : Program) (m : Sem Value) (kd : Kd) (h : Mem) (K : Cur Prop kd.leaves) : Prop := ∃ v, Reads P m h v ∧ Fits id kd v K
def PrimT (P : Program) (m : Sem Value) (kd : Kd) (h : Mem) (K : Cur (Mem → Prop) kd.leaves) : Prop := Runs P m h fun v h' => Fits (fun k => k h') kd v K
def PrimU (P : Program) (m : Sem Unit) (h : Mem) (K : Mem → Prop) : Prop := Runs P m h fun _ h' => K h'

/-- a load -/
def Ld (P : Program) (t : TypeId) (p : Addr) (kd : Kd) (h : Mem) (K : Cur Prop kd.leaves) : Prop := ReadT P (loadVar t p) kd h K
/-- a store -/
def St (P : Program) (t : TypeId) (p : Addr) (v : Value) (h : Mem) (K : Mem → Prop) : Prop := PrimU P (storeVar t p v) h K

def IsNew (o : Obj) (h : Mem) (b : Nat) (h' : Mem) : Prop := b = h.size ∧ h' = h.push o
/-- a new block -/
def New (o : Obj) (h : Mem) (K : Nat → Mem → Prop) : Prop := ∀ b h', IsNew o h b h' → K b h'

def Deref (a : Option Addr) (K : Addr → Prop) : Prop := Option.rec False K a
/-- a check -/
def Chk (c : Bool) (A : Prop) : Prop := Bool.rec False A c
/-- a check that is over before it begins -/
def Ck (c : Bool) (A : Prop) : Prop :=
  match c with
  | true => A
  | false => False
/-- a branch -/
def Br (c : Bool) (A B : Prop) : Prop := Bool.rec B A c
def Idx (a : Option Addr) (len : Nat) (i : Int) (K : Addr → Prop) : Prop := ∃ p, a = some p ∧ 0 ≤ i ∧ i < (len : Int) ∧ K p
def IdxS (s : ByteArray) (i : Int) (K : Int → Prop) : Prop := ∃ b : UInt8, 0 ≤ i ∧ s[i.toNat]? = some b ∧ K b.toNat

def cutSl (sz : Nat) (a : Option Addr) (l h m : Nat) : Sl := ⟨if m = l then a else a.map (·.add (l * sz)), h - l, m - l⟩
/-- a slice of a slice: the bounds asked for, if any -/
def Cut (sz : Nat) (a : Option Addr) (len cap : Nat) (lo hi mx : Option Int) (K : Sl → Prop) : Prop :=
  ∃ l h m : Nat, (match mx with | some x => x = (m : Int) ∧ m ≤ cap | none => m = cap) ∧ (match hi with | some x => x = (h : Int) ∧ h ≤ m | none => h = len ∧ mx = none) ∧
    (match lo with | some x => x = (l : Int) ∧ l ≤ h | none => l = 0) ∧ K (cutSl sz a l h m)
def CutS (s : ByteArray) (lo hi : Option Int) (K : ByteArray → Prop) : Prop :=
  ∃ l h : Nat, (match hi with | some x => x = (h : Int) ∧ h ≤ s.size | none => h = s.size) ∧ (match lo with | some x => x = (l : Int) ∧ l ≤ h | none => l = 0) ∧ K (s.extract l h)
/-- two structs, or arrays, held against each other -/
def EqP (P : Program) (op : BinOp) (t : TypeId) (x y : Value) (K : Bool → Prop) : Prop := ∃ b, Gives P (binOp op t x y) (.bool b) ∧ P.eqGuardType P.depth t = false ∧ K b

/-- a step of an iterator: is there one more -/
def NextP (P : Program) (m : Sem Value) (h : Mem) (K : Bool → List Value → Mem → Prop) : Prop :=
  Runs P m h fun v h' => ∃ b rest, v = .tuple (.bool b :: rest).toArray ∧ K b rest h'

/-! ### calls -/

def NextV (P : Program) (R : Value → World → Prop) : Result Next → Prop
  | .ok (.value v) w' => R v w'
  | .ok .skip w' => R undef w'
  | .ok (.enter f args) w' => FrDoes P (Frame.enter P f args .normal) w' R
  | .ok (.row row args) w' => Rows P row args w' R
  | .ok (.round l f tmps assign body) w' => FrDoes P (Frame.round l f tmps assign body .normal) w' R
  | _ => False

def Invokes (P : Program) (m : Sem Next) (h : Mem) (K : Value → Mem → Prop) : Prop :=
  ∀ w : World, w.heap = h → NextV P (fun v w' => Same w w' ∧ K v w'.heap) (m.run P w)

/-- a call of a function by its number -/
def CallF (P : Program) (f : FuncId) (args : List Value) (kd : Kd) (h : Mem) (K : Cur (Mem → Prop) kd.leaves) : Prop :=
  Invokes P (callFunc f args.toArray) h fun v h' => Fits (fun k => k h') kd v K
/-- a call of a function value -/
def CallV (P : Program) (f : Value) (args : List Value) (kd : Kd) (h : Mem) (K : Cur (Mem → Prop) kd.leaves) : Prop :=
  Invokes P (do let d ← Deferred.ofValue f args.toArray; invoke d.target d.args) h fun v h' => Fits (fun k => k h') kd v K

/-! ### the evaluator -/

abbrev Fr := Nat → Value
def upd (fr : Fr) (i : Nat) (v : Value) : Fr := fun j => bif Nat.beq j i then v else fr j
def updO (fr : Fr) : Option Nat → Value → Fr
  | none, _ => fr
  | some i, v => upd fr i v

def nth {α : Type} : List α → Nat → Option α
  | [], _ => none
  | x :: _, 0 => some x
  | _ :: l, n + 1 => nth l n

section ev
variable (P : Program) (n : Nat)

def evv (fr : Fr) : Operand → Value
  | .tmp t => bif Nat.ble (t + 1) n then fr t else undef
  | .const v => v
  | .global g => .pointer (some ⟨g, 0, none⟩)
  | .func f => .func (.func f) #[] #[]

def kEq : IntKind → IntKind → Bool
  | .i8, .i8 => true
  | .i16, .i16 => true
  | .i32, .i32 => true
  | .i64, .i64 => true
  | .u8, .u8 => true
  | .u16, .u16 => true
  | .u32, .u32 => true
  | .u64, .u64 => true
  | _, _ => false

def bitsOf (op : BinOp) (k : IntKind) (a b : Int) : Int :=
  let x := BitVec.ofInt k.bits a
  let y := BitVec.ofInt k.bits b
  k.wrap (match op with
    | .and => (x &&& y).toNat
    | .or => (x ||| y).toNat
    | .xor => (x ^^^ y).toNat
    | _ => (x &&& ~~~y).toNat : Nat)

def shN (k : IntKind) (b : Int) : Nat := min b.toNat k.bits

def evInt (op : BinOp) (k : IntKind) (a : Int) (k' : IntKind) (b : Int) (K : Value → Prop) : Prop :=
  match op with
  | .shl => Chk (decide (0 ≤ b)) (K (.int k (k.wrap (a * 2 ^ shN k b))))
  | .shr => Chk (decide (0 ≤ b)) (K (.int k (a.fdiv (2 ^ shN k b))))
  | .add => Ck (kEq k k') (K (.int k (k.wrap (a + b))))
  | .sub => Ck (kEq k k') (K (.int k (k.wrap (a - b))))
  | .mul => Ck (kEq k k') (K (.int k (k.wrap (a * b))))
  | .quo => Ck (kEq k k') (Chk (!decide (b = 0)) (K (.int k (k.wrap (a.tdiv b)))))
  | .rem => Ck (kEq k k') (Chk (!decide (b = 0)) (K (.int k (a.tmod b))))
  | .and => Ck (kEq k k') (K (.int k (bitsOf .and k a b)))
  | .or => Ck (kEq k k') (K (.int k (bitsOf .or k a b)))
  | .xor => Ck (kEq k k') (K (.int k (bitsOf .xor k a b)))
  | .andNot => Ck (kEq k k') (K (.int k (bitsOf .andNot k a b)))
  | .eql => Ck (kEq k k') (K (.bool (a == b)))
  | .neq => Ck (kEq k k') (K (.bool (a != b)))
  | .lss => Ck (kEq k k') (K (.bool (decide (a < b))))
  | .leq => Ck (kEq k k') (K (.bool (decide (a ≤ b))))
  | .gtr => Ck (kEq k k') (K (.bool (decide (a > b))))
  | .geq => Ck (kEq k k') (K (.bool (decide (a ≥ b))))

def sEq (a b : ByteArray) : Bool := a.toList == b.toList
def sLt (a b : ByteArray) : Bool := Op.bytesLess a.toList b.toList

def evStr (op : BinOp) (a b : ByteArray) (K : Value → Prop) : Prop :=
  match op with
  | .add => Chk (Nat.ble (a.size + b.size) 9223372036854775807) (K (.string (a ++ b)))
  | .eql => K (.bool (sEq a b))
  | .neq => K (.bool (!sEq a b))
  | .lss => K (.bool (sLt a b))
  | .leq => K (.bool (sLt a b || sEq a b))
  | .gtr => K (.bool (!(sLt a b || sEq a b)))
  | .geq => K (.bool (!sLt a b))
  | _ => False

/-- == or != -/
def evEq (op : BinOp) (b : Bool) (K : Value → Prop) : Prop :=
  match op with
  | .eql => K (.bool b)
  | .neq => K (.bool (!b))
  | _ => False

/-- a nil on one side -/
def nilEq (op : BinOp) {α : Type} (a b : Option α) (K : Value → Prop) : Prop :=
  match b with
  | none => evEq op a.isNone K
  | some _ =>
    match a with
    | none => evEq op false K
    | some _ => False

def evBin2 (op : BinOp) (t : TypeId) (x y : Value) (K : Value → Prop) : Prop :=
  match x, y with
  | .int k a, .int k' b => evInt op k a k' b K
  | .string a, .string b => evStr op a b K
  | .bool a, .bool b => match P.underlying t with | some .bool => evEq op (a == b) K | _ => False
  | .agg xs, .agg ys =>
    match op with
    | .eql => EqP P .eql t (.agg xs) (.agg ys) fun b => K (.bool b)
    | .neq => EqP P .neq t (.agg xs) (.agg ys) fun b => K (.bool b)
    | _ => False
  | .pointer a, .pointer b => match P.underlying t with | some (.pointer _) => nilEq op a b K | _ => False
  | .slice a _ _, .slice b _ _ => match P.underlying t with | some (.slice _) => nilEq op a b K | _ => False
  | .map a, .map b => match P.underlying t with | some (.map _ _) => nilEq op a b K | _ => False
  | .func _ _ _, .nilFunc => match P.underlying t with | some (.func _ _ _) => evEq op false K | _ => False
  | .nilFunc, .nilFunc => match P.underlying t with | some (.func _ _ _) => evEq op true K | _ => False
  | _, _ => False

/-- is a function's value nil -/
def NilF (x : Value) (K : Bool → Prop) : Prop := (x = .nilFunc ∧ K true) ∨ ((∃ f a c, x = .func f a c) ∧ K false)
def evBin (op : BinOp) (t : TypeId) (x y : Value) (K : Value → Prop) : Prop :=
  match y with
  | .nilFunc => match P.underlying t with | some (.func _ _ _) => NilF x fun b => evEq op b K | _ => False
  | y => evBin2 P op t x y K

def evUn (op : UnOp) (x : Value) (K : Value → Prop) : Prop :=
  match op, x with
  | .not, .bool b => K (.bool (!b))
  | .neg, .int k a => K (.int k (k.wrap (0 - a)))
  | .xor, .int k a => K (.int k (bitsOf .xor k (bif k.signed then -1 else k.max) a))
  | _, _ => False

def pickV (t : Bool) (a b : Value) : Value :=
  match a, b with
  | .bool x, .bool y => .bool (bif t then x else y)
  | _, _ => match t with | true => a | false => b

def szOf (t : TypeId) : Nat := ((P.info? t).map (·.size)).getD 0
def isAggB (t : TypeId) : Bool :=
  match P.underlying t with
  | some (.struct _) => true
  | some (.array _ _) => true
  | _ => false

def cellsL : Value → List Value
  | .agg cs => cs.toList
  | v => [v]

/-- put a part's cells in -/
def splice : List Value → Nat → List Value → List Value
  | [], _, _ => []
  | _ :: l, 0, v :: vs => v :: splice l 0 vs
  | x :: l, 0, [] => x :: l
  | x :: l, n + 1, vs => x :: splice l n vs

def fillL (place : Nat → Option (Nat × Nat)) : List Value → List (Nat × Value) → Option (List Value)
  | cells, [] => some cells
  | cells, (i, v) :: rest =>
    match place i with
    | none => none
    | some (off, size) => bif Nat.beq (cellsL v).length size && Nat.ble (off + (cellsL v).length) cells.length then fillL place (splice cells off (cellsL v)) rest else none

def evParts (fr : Fr) : List (Nat × Operand) → List (Nat × Value)
  | [] => []
  | (i, x) :: l => (i, evv n fr x) :: evParts fr l

def infoB (t : TypeId) : Bool := match P.info? t with | some _ => true | none => false
def infoAll : List Field → Bool
  | [] => true
  | f :: l => infoB P f.type && infoAll l

def evBuild (t : TypeId) (parts : List (Nat × Value)) (K : Value → Prop) : Prop :=
  match P.info? t with
  | none => False
  | some i =>
    match i.zero with
    | none => False
    | some z =>
      match P.underlying t with
      | some (.struct fs) =>
        Ck (infoAll P fs.toList) (match fillL (fun j => (nth fs.toList j).map fun f => (f.offset, szOf P f.type)) (cellsL z) parts with
        | some cells => K (.agg cells.toArray)
        | none => False)
      | some (.array _ e) =>
        Ck (infoB P e) (match fillL (fun j => some (j * szOf P e, szOf P e)) (cellsL z) parts with
        | some cells => K (.agg cells.toArray)
        | none => False)
      | _ => False

/-- so many zero values in a row -/
def zerosL (z : List Value) : Nat → List Value
  | 0 => []
  | n + 1 => z ++ zerosL z n

def evBuildSlice (t : TypeId) (len : Nat) (parts : List (Nat × Value)) (h : Mem) (K : Value → Mem → Prop) : Prop :=
  match P.underlying t with
  | some (.slice e) =>
    match P.info? e with
    | none => False
    | some i =>
      match i.zero with
      | none => False
      | some z =>
        Ck (Nat.ble (len * i.size) 16777216 && Nat.beq (cellsL z).length i.size && !Nat.beq i.size 0)
          (match fillL (fun j => some (j * i.size, i.size)) (zerosL (cellsL z) len) parts with
          | some cells => New (.cells cells.toArray e) h fun b h' => K (.slice (some ⟨b, 0, none⟩) len len) h'
          | none => False)
  | _ => False

def evField (t : TypeId) (x : Value) (f : Nat) (K : Value → Prop) : Prop :=
  match P.underlying t, x with
  | some (.struct fs), .agg cs =>
    match nth fs.toList f with
    | some fd =>
      bif isAggB P fd.type then Ck (Nat.ble (fd.offset + szOf P fd.type) cs.toList.length) (K (.agg (takeN (szOf P fd.type) (dropN fd.offset cs.toList)).toArray))
      else match P.underlying fd.type with
        | none => False
        | some _ => match nth cs.toList fd.offset with
          | some v => K v
          | none => False
    | none => False
  | _, _ => False

/-- so many cells on -/
def padd (p : Addr) : Nat → Addr
  | 0 => p
  | n + 1 => p.add (n + 1)

def evFieldAddr (s : TypeId) (x : Value) (f : Nat) (K : Value → Prop) : Prop :=
  match P.underlying s, x with
  | some (.struct fs), .pointer a =>
    match nth fs.toList f with
    | some fd => Ck (!Nat.beq (szOf P fd.type) 0) (Deref a fun p => K (.pointer (some (padd p fd.offset))))
    | none => False
  | _, _ => False

def evIndexAddr (t : TypeId) (x i : Value) (K : Value → Prop) : Prop :=
  match i with
  | .int _ i =>
    match P.underlying t, x with
    | some (.slice e), .slice a len _ => Ck (infoB P e) (Idx a len i fun p => K (.pointer (some (p.add (i.toNat * szOf P e)))))
    | some (.array n e), .pointer a => Ck (infoB P e) (Idx a n i fun p => K (.pointer (some (p.add (i.toNat * szOf P e)))))
    | _, _ => False
  | _ => False

def evExtract (x : Value) (i : Nat) (K : Value → Prop) : Prop :=
  match x with
  | .tuple vs =>
    match nth vs.toList i with
    | some v => K v
    | none => False
  | _ => False

def optInt (fr : Fr) : Option Operand → Option (Option Int)
  | none => some none
  | some x =>
    match evv n fr x with
    | .int _ i => some (some i)
    | _ => none

def evSlice (fr : Fr) (t : TypeId) (x : Operand) (lo hi mx : Option Operand) (K : Value → Prop) : Prop :=
  match optInt n fr lo, optInt n fr hi, optInt n fr mx with
  | some l, some h, some m =>
    match P.underlying t, evv n fr x with
    | some .string, .string s => match m with | none => CutS s l h fun r => K (.string r) | some _ => False
    | some (.slice e), .slice a len cap => Ck (infoB P e) (Cut (szOf P e) a len cap l h m fun r => K (.slice r.a r.len r.cap))
    | some (.array n e), .pointer a => Ck (infoB P e) (Deref a fun p => Cut (szOf P e) (some p) n n l h m fun r => K (.slice r.a r.len r.cap))
    | _, _ => False
  | _, _, _ => False

def evLen (x : Value) (t : TypeId) (K : Value → Prop) : Prop :=
  match P.underlying t, x with
  | some .string, .string s => K (.int .i64 (s.size : Int))
  | some (.array n _), _ => K (.int .i64 (n : Int))
  | some (.slice _), .slice _ n _ => K (.int .i64 (n : Int))
  | _, _ => False

def evCap (x : Value) (t : TypeId) (K : Value → Prop) : Prop :=
  match P.underlying t, x with
  | some (.array n _), _ => K (.int .i64 (n : Int))
  | some (.slice _), .slice _ _ c => K (.int .i64 (c : Int))
  | _, _ => False

def minV (x y : Value) : Option Value :=
  match x, y with
  | .int k a, .int _ b => some (.int k (if b < a then b else a))
  | .string a, .string b => some (.string (bif sLt a b || sEq a b then a else b))
  | _, _ => none
def maxV (x y : Value) : Option Value :=
  match x, y with
  | .int k a, .int _ b => some (.int k (if b > a then b else a))
  | .string a, .string b => some (.string (bif !sLt a b then a else b))
  | _, _ => none
def foldV (f : Value → Value → Option Value) : Value → List Value → Option Value
  | x, [] => some x
  | x, y :: l => match f x y with | some z => foldV f z l | none => none
def evMM (f : Value → Value → Option Value) (l : List Value) (K : Value → Prop) : Prop :=
  match l with
  | [] => False
  | x :: r => match foldV f x r with | some v => K v | none => False

/-- of what sort an operation is: it looks at no heap; it reads; it does more -/
inductive Cls where
  | pure | read | loud

def clsOf (o : Oper) : Cls :=
  match o.op with
  | .move _ | .assign _ | .pick _ _ _ | .build _ _ | .fieldAddr _ _ _ | .nilCheck _ | .binOp _ _ _ _ _ | .unOp _ _ _ | .makeFunc _ _ _ | .slice _ _ _ _ _ | .indexAddr _ _ _ | .index _ _ _ | .field _ _ _ | .extract _ _ => .pure
  | .load _ _ | .lookup _ _ _ _ | .entry _ => .read
  | .convert src dst _ =>
    match P.underlying src, P.underlying dst with
    | _, some (.int _) => .pure
    | some .string, some .string => .pure
    | some (.slice _), some .string => .read
    | _, _ => .loud
  | .call c =>
    match c.callee with
    | .builtin b =>
      match b with
      | .len => match nth c.argTypes.toList 0 with
        | some t => match P.underlying t with | some (.map _ _) => .read | _ => .pure
        | none => .loud
      | .cap => .pure
      | .min => .pure
      | .max => .pure
      | _ => .loud
    | _ => .loud
  | _ => .loud

def argsL (fr : Fr) : List Operand → List Value
  | [] => []
  | x :: l => evv n fr x :: argsL fr l

/-- an operation that looks at no heap -/
def evP (o : Oper) (fr : Fr) (K : Value → Prop) : Prop :=
  match o.op with
  | .move x => K (evv n fr x)
  | .assign x => K (evv n fr x)
  | .pick c a b => match evv n fr c with | .bool t => K (pickV t (evv n fr a) (evv n fr b)) | _ => False
  | .build t parts => evBuild P t (evParts n fr parts.toList) K
  | .fieldAddr s x f => evFieldAddr P s (evv n fr x) f K
  | .nilCheck x => match evv n fr x with | .pointer a => Deref a fun p => K (.pointer (some p)) | _ => False
  | .binOp op t x y _ => evBin P op t (evv n fr x) (evv n fr y) K
  | .unOp op _ x => evUn op (evv n fr x) K
  | .makeFunc fn first captured => K (.func fn (argsL n fr first.toList).toArray (argsL n fr captured.toList).toArray)
  | .slice t x lo hi mx => evSlice P n fr t x lo hi mx K
  | .indexAddr t x i => evIndexAddr P t (evv n fr x) (evv n fr i) K
  | .index t x i =>
    match P.underlying t, evv n fr x, evv n fr i with
    | some .string, .string s, .int _ i => IdxS s i fun b => K (.int .u8 b)
    | _, x, i => PureT P (Instr.index t x i) (kdOf P o.type) (curry (kdOf P o.type).leaves fun vs => K ((kdOf P o.type).build vs))
  | .field t x f => evField P t (evv n fr x) f K
  | .extract x i => evExtract (evv n fr x) i K
  | .convert src dst x =>
    match P.underlying src with
    | none => False
    | some _ =>
      match P.underlying dst, evv n fr x with
      | some (.int k), .int _ a => K (.int k (k.wrap a))
      | some .string, .string s => K (.string s)
      | _, _ => False
  | .call c =>
    match c.callee with
    | .builtin .len => match nth c.argTypes.toList 0, argsL n fr c.args.toList with | some t, x :: _ => evLen P x t K | _, _ => False
    | .builtin .cap => match nth c.argTypes.toList 0, argsL n fr c.args.toList with | some t, x :: _ => evCap P x t K | _, _ => False
    | .builtin .min => evMM minV (argsL n fr c.args.toList) K
    | .builtin .max => evMM maxV (argsL n fr c.args.toList) K
    | _ => False
  | _ => False

/-- the kind of a component that is taken out of temporary d -/
def compOf (d i : Nat) : List Oper → Cmp
  | [] => .leaf .raw
  | o :: l =>
    match o.op with
    | .extract (.tmp t) j => bif Nat.beq t d && Nat.beq j i then cmpOf P o.type else compOf d i l
    | _ => compOf d i l

def entryKd (ops : List Oper) (o : Oper) : Kd :=
  match o.dst with
  | some d => .tup [compOf P d 0 ops, compOf P d 1 ops]
  | none => .tup [.leaf .raw, .leaf .raw]

/-- an operation that reads -/
def evR (ops : List Oper) (o : Oper) (fr : Fr) (h : Mem) (K : Value → Prop) : Prop :=
  match o.op with
  | .load t a => match evv n fr a with
    | .pointer q => Deref q fun p => Ld P t p (kdOf P t) h (curry (kdOf P t).leaves fun vs => K ((kdOf P t).build vs))
    | _ => False
  | .lookup t x i ok => ReadT P (Instr.lookup t (evv n fr x) (evv n fr i) ok) (kdOf P o.type) h (curry (kdOf P o.type).leaves fun vs => K ((kdOf P o.type).build vs))
  | .entry x => ReadT P (Instr.entry (evv n fr x)) (entryKd P ops o) h (curry (entryKd P ops o).leaves fun vs => K ((entryKd P ops o).build vs))
  | .convert src _ x =>
    match P.underlying src with
    | some (.slice e) =>
      match P.underlying e, evv n fr x with
      | some (.int .u8), .slice a l c => ReadT P (Conv.bytesToString (.slice a l c)) (.one (.leaf .str)) h (curry [.str] fun vs => K (Kd.build (.one (.leaf .str)) vs))
      | _, _ => False
    | _ => False
  | .call c => ReadT P (Builtin.len_ c.argTypes o.type (argsL n fr c.args.toList).toArray) (.one (.leaf (.int .i64))) h (curry [.int .i64] fun vs => K (Kd.build (.one (.leaf (.int .i64))) vs))
  | _ => False

def zeroOf (t : TypeId) : Option (List Value) :=
  match P.info? t with
  | some i => match i.zero with | some z => some (cellsL z) | none => none
  | none => none

/-- the builtins that do more than look -/
def semB (b : Builtin) (argTypes : Array TypeId) (type : TypeId) (args : Array Value) : Option (Sem Value) :=
  match b with
  | .append => some (Builtin.append_ argTypes type args)
  | .copy => some (Builtin.copy_ argTypes type args)
  | .clear => some (Builtin.clear_ argTypes type args)
  | .delete => some (Builtin.delete_ argTypes type args)
  | _ => none

/-- an operation that does more -/
def evL (o : Oper) (fr : Fr) (h : Mem) (K : Value → Mem → Prop) : Prop :=
  match o.op with
  | .alloc e => match zeroOf P e with | some z => New (.cells z.toArray e) h fun b h' => K (.pointer (some ⟨b, 0, none⟩)) h' | none => False
  | .box e x => New (.cells (cellsL (evv n fr x)).toArray e) h fun b h' => K (.pointer (some ⟨b, 0, none⟩)) h'
  | .buildSlice t len parts => evBuildSlice P t len (evParts n fr parts.toList) h K
  | .store t a x => match evv n fr a with | .pointer q => Deref q fun p => St P t p (evv n fr x) h fun h' => K undef h' | _ => False
  | .convert src dst x => PrimT P (convert src dst (evv n fr x)) (kdOf P o.type) h (curry (kdOf P o.type).leaves fun vs => K ((kdOf P o.type).build vs))
  | .makeMap t none => PrimT P (Instr.makeMap t none) (kdOf P o.type) h (curry (kdOf P o.type).leaves fun vs => K ((kdOf P o.type).build vs))
  | .makeMap t (some r) => PrimT P (Instr.makeMap t (some (evv n fr r))) (kdOf P o.type) h (curry (kdOf P o.type).leaves fun vs => K ((kdOf P o.type).build vs))
  | .makeSlice t l c => PrimT P (Instr.makeSlice t (evv n fr l) (evv n fr c)) (kdOf P o.type) h (curry (kdOf P o.type).leaves fun vs => K ((kdOf P o.type).build vs))
  | .mapUpdate t m k x => PrimU P (Instr.mapUpdate t (evv n fr m) (evv n fr k) (evv n fr x)) h fun h' => K undef h'
  | .insert t m k x => PrimU P (Instr.mapUpdate t (evv n fr m) (evv n fr k) (evv n fr x)) h fun h' => K undef h'
  | .range t x => PrimT P (Instr.range t (evv n fr x)) (.one (.leaf .ptr)) h (curry [.ptr] fun vs => K (Kd.build (.one (.leaf .ptr)) vs))
  | .next it isString => NextP P (Instr.next (evv n fr it) isString o.type) h fun b rest h' => K (.tuple (.bool b :: rest).toArray) h'
  | .call c =>
    match c.callee with
    | .builtin b =>
      match semB b c.argTypes o.type (argsL n fr c.args.toList).toArray with
      | some m => PrimT P m (kdOf P o.type) h (curry (kdOf P o.type).leaves fun vs => K ((kdOf P o.type).build vs))
      | none => False
    | .value f =>
      match f with
      | .func g => CallF P g (argsL n fr c.args.toList) (kdOf P o.type) h (curry (kdOf P o.type).leaves fun vs => K ((kdOf P o.type).build vs))
      | f => CallV P (evv n fr f) (argsL n fr c.args.toList) (kdOf P o.type) h (curry (kdOf P o.type).leaves fun vs => K ((kdOf P o.type).build vs))
    | .invoke _ _ => False
  | _ => False

/-- whatever sort it is of -/
def evO (ops : List Oper) (o : Oper) (fr : Fr) (h : Mem) (K : Value → Mem → Prop) : Prop :=
  match clsOf P o with
  | .pure => evP P n o fr fun v => K v h
  | .read => evR P n ops o fr h fun v => K v h
  | .loud => evL P n o fr h K

/-- whether a guarded operation is carried out -/
def evG (ops : List Oper) (g : Option (Nat × Bool)) (fr : Fr) (run skip : Fr → Prop) : Prop :=
  match g with
  | none => run fr
  | some (j, want) =>
    match nth ops j with
    | some oj =>
      match oj.dst with
      | some t =>
        bif Nat.ble (t + 1) n then
          match fr t with
          | .bool b => Br b (match want with | true => run (upd fr t (.bool true)) | false => skip (upd fr t (.bool true))) (match want with | true => skip (upd fr t (.bool false)) | false => run (upd fr t (.bool false)))
          | _ => skip fr
        else skip fr
      | none => skip fr
    | none => skip fr

end ev

/-! ### the canonical order of a region that draws -/

def isData : Ground → Bool
  | .data => true
  | .chain => true
  | _ => false

def reachE (rec : Oper → Bool) (ops : List Oper) (i : Nat) : List Edge → Bool
  | [] => false
  | e :: l => (Region.binds .any e && (Nat.beq e.on i || (isData e.ground && (match nth ops e.on with | some o => rec o | none => false)))) || reachE rec ops i l

/-- l waits for i, in so many steps of data at the most -/
def reachL (ops : List Oper) : Nat → Oper → Nat → Bool
  | 0, _, _ => false
  | d + 1, o, i => reachE (fun o' => reachL ops d o' i) ops i o.after.toList

def memN (i : Nat) : List Nat → Bool
  | [] => false
  | j :: l => Nat.beq i j || memN i l

def readyL (o : Oper) (done : List Nat) : Bool := allE o.after.toList
where
  allE : List Edge → Bool
    | [] => true
    | e :: l => (!Region.binds .any e || memN e.on done) && allE l

def isLoud (P : Program) (o : Oper) : Bool := match clsOf P o with | .loud => true | _ => false
def isRead (P : Program) (o : Oper) : Bool := match clsOf P o with | .read => true | _ => false

/-- the first one that may come up and is of that sort -/
def firstReady (P : Program) (loud : Bool) (done : List Nat) : List (Nat × Oper) → Option Nat
  | [] => none
  | (i, o) :: l => bif !memN i done && (isLoud P o == loud) && readyL o done then some i else firstReady P loud done l

def number {α : Type} : Nat → List α → List (Nat × α)
  | _, [] => []
  | i, x :: l => (i, x) :: number (i + 1) l

def canonOrder (P : Program) (ops : List (Nat × Oper)) : Nat → List Nat → List (Nat × Bool)
  | 0, _ => []
  | f + 1, done =>
    match firstReady P false done ops with
    | some i => (i, false) :: canonOrder P ops f (i :: done)
    | none =>
      match firstReady P true done ops with
      | some i => (i, true) :: canonOrder P ops f (i :: done)
      | none => []

/-- operations in an order; where more than one may come up that does more: each of them -/
inductive AT where
  | nil
  | op (i : Nat) (loud : Bool) (rest : AT)
  | alt (a b : AT)

/-- all that may come up and do more -/
def readyLoud (P : Program) (done : List Nat) : List (Nat × Oper) → List Nat
  | [] => []
  | (i, o) :: l => bif !memN i done && isLoud P o && readyL o done then i :: readyLoud P done l else readyLoud P done l

def altsOf (g : Nat → AT) : List Nat → AT
  | [] => .nil
  | [i] => .op i true (g i)
  | i :: l => .alt (.op i true (g i)) (altsOf g l)

/-- the orders of a region in which more than one order must be gone through -/
def altTree (P : Program) (ops : List (Nat × Oper)) : Nat → List Nat → AT
  | 0, _ => .nil
  | f + 1, done =>
    match firstReady P false done ops with
    | some i => .op i false (altTree P ops f (i :: done))
    | none => altsOf (fun i => altTree P ops f (i :: done)) (readyLoud P done ops)

/-! ### places where ways meet -/

/-- the temporaries that a loop, or a place where ways meet, is said over; those whose values are lost there -/
structure Spec where
  slots : List (Nat × Cmp)
  junk : List Nat

/-- the operations of a region, in an order; where guarded ones are over, their ways meet -/
inductive RT where
  | nil
  | op (i : Nat) (loud : Bool) (rest : RT)
  | join (s : Spec) (body rest : RT)

def RT.flat : RT → List (Nat × Bool)
  | .nil => []
  | .op i loud rest => (i, loud) :: rest.flat
  | .join _ body rest => body.flat ++ rest.flat

def chainT : List (Nat × Bool) → RT → RT
  | [], r => r
  | (i, loud) :: l, r => .op i loud (chainT l r)
def chainR (l : List (Nat × Bool)) : RT := chainT l .nil

/-- of the loops, and of the places where ways meet: each by the number of its first region; of regions: their trees -/
structure Tab where
  L : List (Nat × Spec)
  J : List (Nat × Spec)
  R : List (Nat × RT)

def findR : List (Nat × RT) → Nat → Option RT
  | [], _ => none
  | (i, s) :: l, k => bif Nat.beq i k then some s else findR l k

def eqOrder : List (Nat × Bool) → List (Nat × Bool) → Bool
  | [], [] => true
  | (i, a) :: l, (j, b) :: m => Nat.beq i j && (a == b) && eqOrder l m
  | _, _ => false

def findS : List (Nat × Spec) → Nat → Option Spec
  | [], _ => none
  | (i, s) :: l, k => bif Nat.beq i k then some s else findS l k

def firstReg : Code → Nat
  | .region id _ _ => id
  | .seq a _ => firstReg a
  | .block _ b => firstReg b
  | .loop b => firstReg b
  | .scope b => firstReg b
  | _ => 1000000

def specLeaves : List (Nat × Cmp) → List Leaf
  | [] => []
  | (_, c) :: l => c.leaves ++ specLeaves l

def cmpVals : Cmp → Value → Option (List Value)
  | .leaf _, v => some [v]
  | .agg ls, .agg cs => bif Nat.beq cs.toList.length ls.length then some cs.toList else none
  | .agg _, _ => none

def andThenL : Option (List Value) → Option (List Value) → Option (List Value)
  | some a, some b => some (a ++ b)
  | _, _ => none

/-- the values of the slots, taken apart -/
def slotVals (fr : Fr) : List (Nat × Cmp) → Option (List Value)
  | [] => some []
  | (i, c) :: l => andThenL (cmpVals c (fr i)) (slotVals fr l)

def updAll : List (Nat × Cmp) → List Value → Fr → Fr
  | [], _, fr => fr
  | (i, c) :: l, vs, fr => upd (updAll l (dropN c.leaves.length vs) fr) i (c.build vs)

def over (junk : List Nat) (j fr : Fr) : Fr := fun i => bif memN i junk then j i else fr i

/-- a value of a leaf's kind -/
def decLeaf : (l : Leaf) → Value → (LTy l → Prop) → Prop
  | .bool, .bool b, K => K b
  | .int k, .int k' n, K => Ck (kEq k' k) (K n)
  | .str, .string s, K => K s
  | .ptr, .pointer a, K => K a
  | .sl, .slice a n c, K => K ⟨a, n, c⟩
  | .map, .map r, K => K r
  | .raw, v, K => K v
  | _, _, _ => False

def decL : (ls : List Leaf) → List Value → Cur (Mem → Prop) ls → Mem → Prop
  | [], [], K, h => K h
  | l :: ls, v :: vs, K, h => decLeaf l v fun x => decL ls vs (K x) h
  | _, _, _, _ => False

def decO (ls : List Leaf) (vs : Option (List Value)) (K : Cur (Mem → Prop) ls) (h : Mem) : Prop :=
  match vs with
  | some vs => decL ls vs K h
  | none => False

/-- the relation, and the measure gone down -/
def andC : (ls : List Leaf) → Cur (Mem → Prop) ls → Cur (Mem → Nat) ls → Nat → Cur (Mem → Prop) ls
  | [], I, μ, m => fun h => I h ∧ μ h < m
  | _ :: ls, I, μ, m => fun x => andC ls (I x) (μ x) m

def allL : (ls : List Leaf) → Cur (Mem → Prop) ls → Cur (Mem → Nat) ls → (List Value → (Mem → Prop) → (Mem → Nat) → Prop) → Prop
  | [], I, μ, g => g [] I μ
  | l :: ls, I, μ, g => ∀ x : LTy l, allL ls (I x) (μ x) fun vs i m => g (l.enc x :: vs) i m

def allJ : (ls : List Leaf) → Cur (Mem → Prop) ls → (List Value → (Mem → Prop) → Prop) → Prop
  | [], I, g => g [] I
  | l :: ls, I, g => ∀ x : LTy l, allJ ls (I x) fun vs i => g (l.enc x :: vs) i

def sameD (d' d : List Deferred) (A : Prop) : Prop :=
  match d', d with
  | [], [] => A
  | d', d => d' = d ∧ A

/-! ### range over a function -/

/-- a call of a function value that enters a function's body -/
def EnterV (P : Program) (f : Value) (args : List Value) (kd : Kd) (h : Mem) (K : Cur (Mem → Prop) kd.leaves) : Prop :=
  ∀ w : World, w.heap = h → ∃ g as w1, (do let d ← Deferred.ofValue f args.toArray; invoke d.target d.args : Sem Next).run P w = .ok (.enter g as) w1 ∧
    FrDoes P (Frame.enter P g as .normal) w1 fun v w' => Same w w' ∧ Fits (fun k => k w'.heap) kd v K
/-- the record of a loop over a function -/
def LoopIs (h : Mem) (l : Nat) (r : Loop) (st : LoopState) (pd : Option Code) : Prop := h[l]? = some (.loop { r with state := st, pending := pd })
def setLoop (h : Mem) (l : Nat) (r : Loop) (st : LoopState) (pd : Option Code) : Mem := h.setIfInBounds l (.loop { r with state := st, pending := pd })
/-- of typed values whatever they are -/
def allC {R : Type} : (ls : List Leaf) → Cur R ls → (List Value → R → Prop) → Prop
  | [], b, g => g [] b
  | l :: ls, b, g => ∀ x : LTy l, allC ls (b x) fun vs r => g (l.enc x :: vs) r
/-- a round: the heap; how it begins; how it is left: off its end, by an exit, by a return -/
abbrev RB := Mem → (Mem → (Mem → Prop) → Prop) → (Mem → Prop) → (Mem → Prop) → (Mem → Prop) → Prop
/-- what stands behind the loop -/
def afterRange (eid : Nat) (Kn Ke Kr : Mem → Prop) : Option Code → Mem → Prop
  | none, h => Kn h
  | some (.exit i), h => i = eid ∧ Ke h
  | some .ret, h => Kr h
  | _, _ => False
/-- a loop over a function, as it stands in block l -/
def RangeAt (P : Program) (f : Value) (l : Nat) (r : Loop) (h1 : Mem) (cs : List Cmp) (B : Cur RB (leavesAll cs)) (Kn Ke Kr : Mem → Prop) (eid : Nat) : Prop :=
  (∀ (h2 : Mem) (pd : Option Code) (R : Bool → Mem → Prop), LoopIs h2 l r .ready pd → allC (leavesAll cs) B fun vs b =>
      b h2 (fun h3 F => ∃ pd, LoopIs h3 l r .ready pd ∧ F (setLoop h3 l r .busy pd))
        (fun h4 => ∃ st pd, LoopIs h4 l r st pd ∧ R true (setLoop h4 l r .ready none))
        (fun h4 => ∃ st pd, LoopIs h4 l r st pd ∧ R false (setLoop h4 l r .done (some (.exit eid))))
        (fun h4 => ∃ st pd, LoopIs h4 l r st pd ∧ R false (setLoop h4 l r .done (some .ret))) →
      CallV P (.func (.yield l) #[] #[]) (buildAll cs vs) (.one (.leaf .bool)) h2 R) →
  EnterV P f [.func (.yield l) #[] #[]] (.tup []) h1 fun h4 => ∃ st pd, LoopIs h4 l r st pd ∧ st ≠ .busy ∧ afterRange eid Kn Ke Kr pd (setLoop h4 l r .exhausted pd)
def RangeFn (P : Program) (f : Value) (h : Mem) (cs : List Cmp) (B : Cur RB (leavesAll cs)) (Kn Ke Kr : Mem → Prop) (eid : Nat) : Prop :=
  ∀ (r : Loop) (h1 : Mem), h1 = (h.push (.deferred (some []))).push (.loop { r with state := .ready, pending := none }) → RangeAt P f (h.size + 1) r h1 cs B Kn Ke Kr eid
/-- the exit by which a round's code is left, if any -/
def freeExit : List Nat → Code → Option Nat
  | bound, .exit i => bif memN i bound then none else some i
  | bound, .seq a b => match freeExit bound a with | some i => some i | none => freeExit bound b
  | bound, .cond _ a b => match freeExit bound a with | some i => some i | none => freeExit bound b
  | bound, .block id b => freeExit (id :: bound) b
  | bound, .loop b => freeExit bound b
  | bound, .scope b => freeExit bound b
  | _, _ => none
def exitId (c : Code) : Nat := match freeExit [] c with | some i => i | none => 1000000
def eqNats : List Nat → List Nat → Bool
  | [], [] => true
  | a :: l, b :: m => Nat.beq a b && eqNats l m
  | _, _ => false
def slotTmps : List (Nat × Cmp) → List Nat
  | [] => []
  | (i, _) :: l => i :: slotTmps l
def slotCmps : List (Nat × Cmp) → List Cmp
  | [] => []
  | (_, c) :: l => c :: slotCmps l
/-- the mark that a loop over a function leaves among the deferred calls -/
def markOf (h : Mem) : Deferred := ⟨.collected h.size, #[]⟩
/-- the marks are taken, when the function is left -/
def evOut : List Deferred → Mem → (Mem → Prop) → Prop
  | [], h, K => K h
  | ⟨.collected D, _⟩ :: l, h, K => h[D]? = some (.deferred (some [])) ∧ evOut l (h.setIfInBounds D (.deferred none)) K
  | _, _, _ => False

section ev2
variable (P : Program) (n : Nat)

/-- what was read is read again -/
def evAgain (ops : List Oper) (l : Oper) (h : Mem) : List (Nat × Value × Fr × Oper) → Prop → Prop
  | [], A => A
  | (i, v, fr, o) :: hs, A => bif reachL ops 8 l i then evAgain ops l h hs A else evR P n ops o fr h (fun v' => v' = v) ∧ evAgain ops l h hs A

def dropWaits (ops : List Oper) (l : Oper) : List (Nat × Value × Fr × Oper) → List (Nat × Value × Fr × Oper)
  | [] => []
  | x :: hs => bif reachL ops 8 l x.1 then dropWaits ops l hs else x :: dropWaits ops l hs

/-- the operations of a region, in an order -/
def evN (ops : List Oper) : RT → Fr → Mem → (Fr → Mem → Prop) → Prop
  | .nil, fr, h, K => K fr h
  | .op i _ rest, fr, h, K =>
    match nth ops i with
    | none => False
    | some o => evG n ops o.guard fr (fun fr => evO P n ops o fr h fun v h' => evN ops rest (updO fr o.dst v) h' K) (fun fr => evN ops rest (updO fr o.dst undef) h K)
  | .join s body rest, fr, h, K =>
    ∃ J : Cur (Mem → Prop) (specLeaves s.slots),
      (∀ j : Fr, allJ (specLeaves s.slots) J fun vs i => ∀ h, i h → evN ops rest (updAll s.slots vs (over s.junk j fr)) h K) ∧
      evN ops body fr h fun fr' h' => decO (specLeaves s.slots) (slotVals fr' s.slots) J h'

/-- the reads of a tree -/
def readsOf (ops : List Oper) : RT → List Nat
  | .nil => []
  | .op i _ rest => match nth ops i with | some o => bif isRead P o then i :: readsOf ops rest else readsOf ops rest | none => readsOf ops rest
  | .join _ body rest => readsOf ops body ++ readsOf ops rest

/-- each loud one of the tree waits for the read -/
def allWait (ops : List Oper) (i : Nat) : List (Nat × Bool) → Bool
  | [] => true
  | (l, loud) :: r => (!loud || (match nth ops l with | some o => reachL ops 8 o i | none => false)) && allWait ops i r

def allWaits (ops : List Oper) (order : List (Nat × Bool)) : List Nat → Bool
  | [] => true
  | i :: l => allWait ops i order && allWaits ops order l

def dropTree (ops : List Oper) : List (Nat × Bool) → List (Nat × Value × Fr × Oper) → List (Nat × Value × Fr × Oper)
  | [], hs => hs
  | (l, loud) :: r, hs => match nth ops l with | some o => bif loud then dropTree ops r (dropWaits ops o hs) else dropTree ops r hs | none => dropTree ops r hs

/-- the operations of a region that draws, in the canonical order -/
def evD (ops : List Oper) : RT → List (Nat × Value × Fr × Oper) → Fr → Mem → (Fr → Mem → Prop) → Prop
  | .nil, _, fr, h, K => K fr h
  | .op i loud rest, hs, fr, h, K =>
    match nth ops i with
    | none => False
    | some o =>
      match loud with
      | false =>
        evG n ops o.guard fr
          (fun fr => match clsOf P o with
            | .pure => evP P n o fr fun v => evD ops rest hs (updO fr o.dst v) h K
            | .read => evR P n ops o fr h fun v => evD ops rest ((i, v, fr, o) :: hs) (updO fr o.dst v) h K
            | .loud => False)
          (fun fr => evD ops rest hs (updO fr o.dst undef) h K)
      | true =>
        evG n ops o.guard fr
          (fun fr => match clsOf P o with
            | .loud => evL P n o fr h fun v h' => evAgain P n ops o h' hs (evD ops rest (dropWaits ops o hs) (updO fr o.dst v) h' K)
            | _ => False)
          (fun fr => evD ops rest (dropWaits ops o hs) (updO fr o.dst undef) h K)
  | .join s body rest, hs, fr, h, K =>
    Ck (allWaits ops rest.flat (readsOf P ops body))
      (∃ J : Cur (Mem → Prop) (specLeaves s.slots),
        (∀ j : Fr, allJ (specLeaves s.slots) J fun vs i => ∀ h, i h → evD ops rest (dropTree ops body.flat hs) (updAll s.slots vs (over s.junk j fr)) h K) ∧
        evD ops body hs fr h fun fr' h' => decO (specLeaves s.slots) (slotVals fr' s.slots) J h')

/-- the operations of a region that draws, in each of the orders of a tree -/
def evA (ops : List Oper) : AT → List (Nat × Value × Fr × Oper) → Fr → Mem → (Fr → Mem → Prop) → Prop
  | .nil, _, fr, h, K => K fr h
  | .alt a b, hs, fr, h, K => evA ops a hs fr h K ∧ evA ops b hs fr h K
  | .op i loud rest, hs, fr, h, K =>
    match nth ops i with
    | none => False
    | some o =>
      match loud with
      | false =>
        evG n ops o.guard fr
          (fun fr => match clsOf P o with
            | .pure => evP P n o fr fun v => evA ops rest hs (updO fr o.dst v) h K
            | .read => evR P n ops o fr h fun v => evA ops rest ((i, v, fr, o) :: hs) (updO fr o.dst v) h K
            | .loud => False)
          (fun fr => evA ops rest hs (updO fr o.dst undef) h K)
      | true =>
        evG n ops o.guard fr
          (fun fr => match clsOf P o with
            | .loud => evL P n o fr h fun v h' => evAgain P n ops o h' hs (evA ops rest (dropWaits ops o hs) (updO fr o.dst v) h' K)
            | _ => False)
          (fun fr => evA ops rest (dropWaits ops o hs) (updO fr o.dst undef) h K)

def textOrder (ops : List Oper) : List (Nat × Bool) := number 0 (ops.map fun _ => false)

abbrev EK := Ex → Fr → List Deferred → Mem → Prop

def evC (T : Tab) : Code → EK → Fr → List Deferred → Mem → Prop
  | .skip, K, fr, d, h => K .normal fr d h
  | .label _, K, fr, d, h => K .normal fr d h
  | .region id ops false, K, fr, d, h =>
    match findR T.R id with
    | none => evN P n ops.toList (chainR (textOrder ops.toList)) fr h fun fr h => K .normal fr d h
    | some r => Ck (eqOrder r.flat (textOrder ops.toList)) (evN P n ops.toList r fr h fun fr h => K .normal fr d h)
  | .region id ops true, K, fr, d, h =>
    match findR T.R id with
    | none => evD P n ops.toList (chainR (canonOrder P (number 0 ops.toList) ops.toList.length [])) [] fr h fun fr h => K .normal fr d h
    | some r =>
      match r with
      | .nil => evA P n ops.toList (altTree P (number 0 ops.toList) ops.toList.length []) [] fr h fun fr h => K .normal fr d h
      | r => Ck (eqOrder r.flat (canonOrder P (number 0 ops.toList) ops.toList.length [])) (evD P n ops.toList r [] fr h fun fr h => K .normal fr d h)
  | .seq a b, K, fr, d, h =>
    match findS T.J (firstReg b) with
    | none =>
      evC T a (fun e fr d h => match e with
        | .normal => evC T b K fr d h
        | .exit i => K (.exit i) fr d h
        | .ret => K .ret fr d h) fr d h
    | some s =>
      ∃ J : Cur (Mem → Prop) (specLeaves s.slots),
        (∀ j : Fr, allJ (specLeaves s.slots) J fun vs i => ∀ h, i h → evC T b K (updAll s.slots vs (over s.junk j fr)) d h) ∧
        evC T a (fun e fr' d' h => match e with
          | .normal => sameD d' d (decO (specLeaves s.slots) (slotVals fr' s.slots) J h)
          | .exit i => K (.exit i) fr' d' h
          | .ret => K .ret fr' d' h) fr d h
  | .cond c a b, K, fr, d, h =>
    match evv n fr c with
    | .bool t => Br t (evC T a K fr d h) (evC T b K fr d h)
    | _ => False
  | .block id b, K, fr, d, h =>
    evC T b (fun e fr d h => match e with
      | .normal => K .normal fr d h
      | .exit i => bif Nat.beq i id then K .normal fr d h else K (.exit i) fr d h
      | .ret => K .ret fr d h) fr d h
  | .loop b, K, fr, d, h =>
    match findS T.L (firstReg b) with
    | none => False
    | some s =>
      ∃ (I : Cur (Mem → Prop) (specLeaves s.slots)) (μ : Cur (Mem → Nat) (specLeaves s.slots)),
        decO (specLeaves s.slots) (slotVals fr s.slots) I h ∧
        ∀ j : Fr, allL (specLeaves s.slots) I μ fun vs i m => ∀ h, i h →
          evC T b (fun e fr' d' h' => match e with
            | .normal => sameD d' d (decO (specLeaves s.slots) (slotVals fr' s.slots) (andC (specLeaves s.slots) I μ (m h)) h')
            | .exit i => K (.exit i) fr' d' h'
            | .ret => K .ret fr' d' h') (updAll s.slots vs (over s.junk j fr)) d h
  | .exit id, K, fr, d, h => K (.exit id) fr d h
  | .ret, K, fr, d, h => K .ret fr d h
  | .scope b, K, fr, d, h => evC T b K fr d h
  | .rangeFunc f ps assign body, K, fr, d, h =>
    match findS T.L (firstReg body) with
    | none => False
    | some s => Ck (eqNats (slotTmps s.slots) ps.toList)
        (RangeFn P (evv n fr f) h (slotCmps s.slots)
          (curry (leavesAll (slotCmps s.slots)) fun vs h2 beg kn ke kr =>
            evC T assign (fun e fr2 d2 h3 => match e, d2 with
              | .normal, [] => beg h3 fun h3 => evC T body (fun e _ d4 h4 => match e, d4 with
                  | .normal, [] => kn h4
                  | .exit i, [] => bif Nat.beq i (exitId body) then ke h4 else False
                  | .ret, [] => kr h4
                  | _, _ => False) fr2 [] h3
              | _, _ => False) (updAll s.slots vs fr) [] h2)
          (fun h' => K .normal fr (markOf h :: d) h') (fun h' => K (.exit (exitId body)) fr (markOf h :: d) h') (fun h' => K .ret fr (markOf h :: d) h') (exitId body))
  | _, _, _, _, _ => False
end ev2

/-! ### a function -/

/-- the results, when the frame is left -/
def evRes (P : Program) (n : Nat) (fr : Fr) (h : Mem) : List ResultVar → List Value → (List Value → Prop) → Prop
  | [], acc, K => K acc.reverse
  | .tmp t :: l, acc, K => evRes P n fr h l (evv n fr (.tmp t) :: acc) K
  | .cell a t :: l, acc, K =>
    match evv n fr (.tmp a) with
    | .pointer q => Deref q fun p => Ld P t p (kdOf P t) h (curry (kdOf P t).leaves fun vs => evRes P n fr h l ((kdOf P t).build vs :: acc) K)
    | _ => False

/-- the kind of what a function returns -/
def retKd (P : Program) : List TypeId → Kd
  | [t] => .one (cmpOf P t)
  | ts => .tup (ts.map (cmpOf P))

def allVals : List Cmp → List Value → Option (List Value)
  | [], [] => some []
  | c :: cs, v :: vs => andThenL (cmpVals c v) (allVals cs vs)
  | _, _ => none

def kdVals : Kd → List Value → Option (List Value)
  | .one c, [v] => cmpVals c v
  | .one _, _ => none
  | .tup _, [_] => none
  | .tup cs, vs => allVals cs vs

def frame0 (args : List Value) : Fr := fun i => (nth args i).getD undef

/-- WHAT A CALL ASKS FOR -/
def evF (P : Program) (fn : Func) (T : Tab) (args : List Value) (kd : Kd) (h : Mem) (Q : Cur (Mem → Prop) kd.leaves) : Prop :=
  match fn.body with
  | none => False
  | some c =>
    evC P fn.ntmps T c (fun e fr d h => match e with
      | .exit _ => False
      | _ => evOut d h fun h => evRes P fn.ntmps fr h fn.results.toList [] fun vs => decO kd.leaves (kdVals kd vs) Q h) (frame0 args) [] h

def evFn (P : Program) (f : FuncId) (T : Tab) (args : List Value) (kd : Kd) (h : Mem) (Q : Cur (Mem → Prop) kd.leaves) : Prop :=
  match nth P.funcs.toList f with
  | none => False
  | some fn => Ck (Nat.ble args.length fn.ntmps) (evF P fn T args kd h Q)
end Go.Dn
