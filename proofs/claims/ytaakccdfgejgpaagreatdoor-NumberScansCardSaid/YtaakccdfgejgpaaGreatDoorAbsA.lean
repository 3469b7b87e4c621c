/-
  An evaluator of the model's code over abstract values and an abstract memory: definitions.
-/
import Derived.Orders
import Derived.Tactics
import Derived.Below
import Derived.KernelRfl
import Derived.Deep.LoopGhost
namespace Go.Proofs.YtaakccdfgejgpaaGreatDoor.Abs
open Go

/-! ### Values -/
inductive Er where
  | nil
  | no (n : Int)
  | at_ (o n : Int)
def Er.isNil : Er → Bool
  | .nil => true
  | _ => false

structure Tk where
  k : Int
  f : Int
  t : Int
  a : Bool
  e : Int

/-- A row of elements of one kind. -/
inductive Sq where
  | u8 (l : List UInt8)
  | int (k : IntKind) (l : List Int)
  | str (l : List (List UInt8))
  | bool (l : List Bool)
  | tok (l : List Tk)

/-- A piece of a row. -/
inductive Vw where
  | all
  | cut (v : Vw) (lo hi : Int)

inductive Stp where
  | f (i : Nat)
  | x (i : Nat)

inductive AVal where
  | undef
  | bool (b : Bool)
  | int (k : IntKind) (n : Int)
  | str (l : List UInt8)
  | err (e : Er)
  | nilp
  | ptr (b g : Nat) (p : List Stp)
  | nils
  | slice (b g : Nat) (v : Vw)
  | nilfn
  | fn (f : Nat) (first caps : AVal)
  | nil
  | pair (a r : AVal)
  | agg (p : AVal)
  | arr (n : Nat) (s : Sq)
  | tup (p : AVal)

abbrev mk (l : List UInt8) : ByteArray := ⟨⟨l⟩⟩
abbrev wr (k : IntKind) (x : Int) : Int := k.wrap x
def byt (l : List UInt8) (i : Int) : Int := ((l.getD i.toNat 0).toNat : Int)
def cut {α : Type} (l : List α) (a b : Int) : List α := (l.take b.toNat).drop a.toNat
def toU8 (x : Int) : UInt8 := x.toNat.toUInt8
def quoI (k : IntKind) (x y : Int) : Int := k.wrap (x.tdiv y)
def remI (x y : Int) : Int := x.tmod y
def shlI (k : IntKind) (x y : Int) : Int := k.wrap (x * 2 ^ (min y.toNat k.bits))
def shrI (k : IntKind) (x y : Int) : Int := x.fdiv (2 ^ (min y.toNat k.bits))

def kindEq : IntKind → IntKind → Bool
  | .i8, .i8 => true | .i16, .i16 => true | .i32, .i32 => true | .i64, .i64 => true
  | .u8, .u8 => true | .u16, .u16 => true | .u32, .u32 => true | .u64, .u64 => true
  | _, _ => false

def loK : IntKind → Int
  | .i8 => -128 | .i16 => -32768 | .i32 => -2147483648 | .i64 => -9223372036854775808
  | .u8 => 0 | .u16 => 0 | .u32 => 0 | .u64 => 0
def hiK : IntKind → Int
  | .i8 => 127 | .i16 => 32767 | .i32 => 2147483647 | .i64 => 9223372036854775807
  | .u8 => 255 | .u16 => 65535 | .u32 => 4294967295 | .u64 => 18446744073709551615
def Rng (k : IntKind) (n : Int) : Prop := loK k ≤ n ∧ n ≤ hiK k
def rngB (k : IntKind) (n : Int) : Bool := decide (loK k ≤ n) && decide (n ≤ hiK k)

/-! ### Types, by a table -/
inductive TK where
  | int (k : IntKind)
  | str
  | bool
  | err
  | slice (e : Nat)
  | arr (n e : Nat)
  | struct (fs : List (Nat × Nat))
  | ptr (e : Nat)
  | fn
structure TE where
  k : TK
  sz : Nat
  bt : Nat
  eq : Bool
abbrev Tab := List (Nat × TE)
def tlk : Tab → Nat → Option TE
  | [], _ => none
  | (j, v) :: r, i => match Nat.beq j i with
    | true => some v
    | false => tlk r i

structure Cfg where
  tt : Tab
  tE : Nat
  tA : Nat
  gl : List (Nat × (Option Obj → Prop))

/-! ### Rows -/
def tk0 : Tk := ⟨0, 0, 0, false, 0⟩
def tkA (t : Tk) : AVal := .agg (.pair (.int .i64 t.k) (.pair (.int .i64 t.f) (.pair (.int .i64 t.t) (.pair (.bool t.a) (.pair (.int .i64 t.e) .nil)))))
def Sq.len : Sq → Nat
  | .u8 l => l.length
  | .int _ l => l.length
  | .str l => l.length
  | .bool l => l.length
  | .tok l => l.length
def Sq.esz : Sq → Nat
  | .tok _ => 5
  | _ => 1
def Sq.get : Sq → Nat → AVal
  | .u8 l, i => .int .u8 ((l.getD i 0).toNat : Int)
  | .int k l, i => .int k (l.getD i 0)
  | .str l, i => .str (l.getD i [])
  | .bool l, i => .bool (l.getD i false)
  | .tok l, i => tkA (l.getD i tk0)
def tkOf : AVal → Option Tk
  | .agg (.pair (.int .i64 k) (.pair (.int .i64 f) (.pair (.int .i64 t) (.pair (.bool a) (.pair (.int .i64 e) .nil))))) => some ⟨k, f, t, a, e⟩
  | _ => none
def Sq.set : Sq → Nat → AVal → Option Sq
  | .u8 l, i, .int .u8 n => some (.u8 (l.set i (toU8 n)))
  | .int k l, i, .int k' n => match kindEq k k' with
    | true => some (.int k (l.set i n))
    | false => none
  | .str l, i, .str s => some (.str (l.set i s))
  | .bool l, i, .bool b => some (.bool (l.set i b))
  | .tok l, i, v => match tkOf v with
    | some t => some (.tok (l.set i t))
    | none => none
  | _, _, _ => none
def Sq.app : Sq → Sq → Option Sq
  | .u8 l, .u8 m => some (.u8 (l ++ m))
  | .int k l, .int k' m => match kindEq k k' with
    | true => some (.int k (l ++ m))
    | false => none
  | .str l, .str m => some (.str (l ++ m))
  | .bool l, .bool m => some (.bool (l ++ m))
  | .tok l, .tok m => some (.tok (l ++ m))
  | _, _ => none
def Sq.cut : Sq → Int → Int → Sq
  | .u8 l, a, b => .u8 (Abs.cut l a b)
  | .int k l, a, b => .int k (Abs.cut l a b)
  | .str l, a, b => .str (Abs.cut l a b)
  | .bool l, a, b => .bool (Abs.cut l a b)
  | .tok l, a, b => .tok (Abs.cut l a b)
/-- An empty row of a type's elements. -/
def zq (tt : Tab) (e : Nat) : Option Sq := match tlk tt e with
  | some ⟨.int .u8, _, _, _⟩ => some (.u8 [])
  | some ⟨.int k, _, _, _⟩ => some (.int k [])
  | some ⟨.str, _, _, _⟩ => some (.str [])
  | some ⟨.bool, _, _, _⟩ => some (.bool [])
  | some ⟨.struct [(t1, 0), (t2, 1), (t3, 2), (t4, 3), (t5, 4)], _, _, _⟩ => match tlk tt t1, tlk tt t2, tlk tt t3, tlk tt t4, tlk tt t5 with
    | some ⟨.int .i64, _, _, _⟩, some ⟨.int .i64, _, _, _⟩, some ⟨.int .i64, _, _, _⟩, some ⟨.bool, _, _, _⟩, some ⟨.int .i64, _, _, _⟩ => some (.tok [])
    | _, _, _, _, _ => none
  | _ => none
/-- So many zeros. -/
def Sq.rep (n : Nat) : Sq → Sq
  | .u8 _ => .u8 (List.replicate n 0)
  | .int k _ => .int k (List.replicate n 0)
  | .str _ => .str (List.replicate n [])
  | .bool _ => .bool (List.replicate n false)
  | .tok _ => .tok (List.replicate n tk0)
/-- The zero row of so many elements of a type. -/
def zeroSq (tt : Tab) (e n : Nat) : Option Sq := match zq tt e with
  | some z => some (z.rep n)
  | none => none
/-- Are two rows of one kind? -/
def Sq.like : Sq → Sq → Bool
  | .u8 _, .u8 _ => true
  | .int k _, .int k' _ => kindEq k k'
  | .str _, .str _ => true
  | .bool _, .bool _ => true
  | .tok _, .tok _ => true
  | _, _ => false
def sqOk (tt : Tab) (e : Nat) (s : Sq) : Bool := match zq tt e with
  | some z => z.like s
  | none => false

/-! ### Parts of values -/
def AVal.nth : AVal → Nat → Option AVal
  | .pair a _, 0 => some a
  | .pair _ r, i + 1 => r.nth i
  | _, _ => none
def AVal.setNth : AVal → Nat → AVal → Option AVal
  | .pair _ r, 0, v => some (.pair v r)
  | .pair a r, i + 1, v => match r.setNth i v with
    | some r' => some (.pair a r')
    | none => none
  | _, _, _ => none
def AVal.app : AVal → AVal → AVal
  | .nil, q => q
  | .pair a r, q => .pair a (r.app q)
  | _, q => q
def AVal.ofList : List AVal → AVal
  | [] => .nil
  | v :: r => .pair v (AVal.ofList r)
def AVal.toList : AVal → List AVal
  | .pair a r => a :: r.toList
  | _ => []

def AVal.isList : AVal → Bool
  | .nil => true
  | .pair _ r => r.isList
  | _ => false

def getP : AVal → List Stp → Option AVal
  | v, [] => some v
  | .agg p, .f i :: r => match p.nth i with
    | some u => getP u r
    | none => none
  | .arr _ s, .x i :: r => getP (s.get i) r
  | _, _ => none
def setP : AVal → List Stp → AVal → Option AVal
  | _, [], u => some u
  | .agg p, .f i :: r, u => match p.nth i with
    | some q => match setP q r u with
      | some q' => match p.setNth i q' with
        | some p' => some (.agg p')
        | none => none
      | none => none
    | none => none
  | .arr n s, .x i :: r, u => match setP (s.get i) r u with
    | some q => match s.set i q with
      | some s' => some (.arr n s')
      | none => none
    | none => none
  | _, _, _ => none

/-- Does a value fit a type (a list of values: a list of types)? -/
def fits (tt : Tab) : AVal → List Nat → Bool
  | .bool _, [t] => match tlk tt t with
    | some ⟨.bool, _, _, _⟩ => true
    | _ => false
  | .int k _, [t] => match tlk tt t with
    | some ⟨.int k', _, _, _⟩ => kindEq k k'
    | _ => false
  | .str _, [t] => match tlk tt t with
    | some ⟨.str, _, _, _⟩ => true
    | _ => false
  | .err _, [t] => match tlk tt t with
    | some ⟨.err, _, _, _⟩ => true
    | _ => false
  | .nilp, [t] => match tlk tt t with
    | some ⟨.ptr _, _, _, _⟩ => true
    | _ => false
  | .ptr _ _ _, [t] => match tlk tt t with
    | some ⟨.ptr _, _, _, _⟩ => true
    | _ => false
  | .nils, [t] => match tlk tt t with
    | some ⟨.slice _, _, _, _⟩ => true
    | _ => false
  | .slice _ _ _, [t] => match tlk tt t with
    | some ⟨.slice _, _, _, _⟩ => true
    | _ => false
  | .nilfn, [t] => match tlk tt t with
    | some ⟨.fn, _, _, _⟩ => true
    | _ => false
  | .fn _ _ _, [t] => match tlk tt t with
    | some ⟨.fn, _, _, _⟩ => true
    | _ => false
  | .nil, [] => true
  | .pair a r, t :: ts => !a.isList && (fits tt a [t] && fits tt r ts)
  | .agg p, [t] => match tlk tt t with
    | some ⟨.struct fs, _, _, _⟩ => p.isList && fits tt p (fs.map (·.1))
    | _ => false
  | .arr n s, [t] => match tlk tt t with
    | some ⟨.arr n' e, _, _, _⟩ => Nat.beq n n' && sqOk tt e s
    | _ => false
  | _, _ => false

/-- One value. -/
def fit1 (tt : Tab) (v : AVal) (t : Nat) : Bool := !v.isList && fits tt v [t]

def zeros (f : Nat → Option AVal) : List (Nat × Nat) → Option AVal
  | [] => some .nil
  | (t, _) :: r => match f t, zeros f r with
    | some v, some p => some (.pair v p)
    | _, _ => none
/-- The zero value of a type. -/
def zeroA (tt : Tab) : Nat → Nat → Option AVal
  | 0, _ => none
  | d + 1, t => match tlk tt t with
    | none => none
    | some te => match te.k with
      | .int k => some (.int k 0)
      | .str => some (.str [])
      | .bool => some (.bool false)
      | .err => some (.err .nil)
      | .slice _ => some .nils
      | .ptr _ => some .nilp
      | .fn => some .nilfn
      | .arr n e => match zeroSq tt e n with
        | some s => some (.arr n s)
        | none => none
      | .struct fs => match zeros (zeroA tt d) fs with
        | some p => some (.agg p)
        | none => none

/-! ### Memory -/
inductive Blk where
  | dead
  | var (ver T : Nat) (v : AVal)
  | row (ver gen : Nat) (own : Bool) (e : Nat) (s : Sq)
abbrev Heap := List Blk
def hget : Heap → Nat → Blk
  | [], _ => .dead
  | x :: _, 0 => x
  | _ :: r, i + 1 => hget r i
def hset : Heap → Nat → Blk → Heap
  | [], _, _ => []
  | _ :: r, 0, y => y :: r
  | x :: r, i + 1, y => x :: hset r i y

def vw : Vw → Sq → Sq
  | .all, s => s
  | .cut v lo hi, s => (vw v s).cut lo hi
def pos : Vw → Nat → Nat
  | .all, i => i
  | .cut v lo _, i => pos v (lo.toNat + i)
/-- Does a piece begin where its row begins? -/
def pre : Vw → Bool
  | .all => true
  | .cut v lo _ => match lo with
    | .ofNat 0 => pre v
    | _ => false

abbrev Fr := List (Nat × AVal)
def look : Fr → Nat → Option AVal
  | [], _ => none
  | (j, v) :: r, i => match Nat.beq j i with
    | true => some v
    | false => look r i

def constA : Value → Option AVal
  | .int k n => match rngB k n with
    | true => some (.int k n)
    | false => none
  | .bool b => some (.bool b)
  | .string s => match Nat.blt s.data.toList.length 4611686018427387904 with
    | true => some (.str s.data.toList)
    | false => none
  | .nilIface => some (.err .nil)
  | .pointer none => some .nilp
  | .slice none 0 0 => some .nils
  | .nilFunc => some .nilfn
  | _ => none

def ev (fr : Fr) : Operand → Option AVal
  | .tmp t => look fr t
  | .const v => constA v
  | .global _ => none
  | .func f => some (.fn f .nil .nil)
def evL (fr : Fr) : List Operand → Option (List AVal)
  | [] => some []
  | x :: r => match ev fr x, evL fr r with
    | some v, some l => some (v :: l)
    | _, _ => none

/-! ### Operations -/
inductive AOut where
  | bad
  | val (g : Bool) (v : AVal)
  | red (g : Bool) (b : Nat) (v : AVal)
  | upd (g : Bool) (b : Nat) (blk : Blk) (v : AVal)
  | new (g : Bool) (p : Bool) (blk : Blk)
/-- The value of what is new: a pointer, or a row. -/
def nv : Bool → Nat → AVal
  | true, n => .ptr n 1 []
  | false, n => .slice n 1 .all

def nz (y : Int) : Bool := y != 0
def nn (y : Int) : Bool := decide (0 ≤ y)
def binInt (op : BinOp) (k : IntKind) (a b : Int) : AOut :=
  match op with
  | .add => .val true (.int k (k.wrap (a + b)))
  | .sub => .val true (.int k (k.wrap (a - b)))
  | .mul => .val true (.int k (k.wrap (a * b)))
  | .and => .val true (.int k (Go.bits .and k a b))
  | .or => .val true (.int k (Go.bits .or k a b))
  | .xor => .val true (.int k (Go.bits .xor k a b))
  | .andNot => .val true (.int k (Go.bits .andNot k a b))
  | .quo => .val (nz b) (.int k (quoI k a b))
  | .rem => .val (nz b) (.int k (remI a b))
  | .eql => .val true (.bool (a == b))
  | .neq => .val true (.bool (a != b))
  | .lss => .val true (.bool (decide (a < b)))
  | .leq => .val true (.bool (decide (a ≤ b)))
  | .gtr => .val true (.bool (decide (a > b)))
  | .geq => .val true (.bool (decide (a ≥ b)))
  | _ => .bad
def roomS (a b : List UInt8) : Bool := Nat.blt (a.length + b.length) 4611686018427387904
def binStr (op : BinOp) (a b : List UInt8) : AOut :=
  match op with
  | .add => .val (roomS a b) (.str (a ++ b))
  | .eql => .val true (.bool (a == b))
  | .neq => .val true (.bool (!(a == b)))
  | _ => .bad

def Sq.eqB : Sq → Sq → Option Bool
  | .u8 l, .u8 m => some (l == m)
  | .int k l, .int k' m => match kindEq k k' with
    | true => some (l == m)
    | false => none
  | .str l, .str m => some (l == m)
  | .bool l, .bool m => some (l == m)
  | _, _ => none
/-- Are two values of a type equal? -/
def eqA : AVal → AVal → Option Bool
  | .bool a, .bool b => some (a == b)
  | .int k a, .int k' b => match kindEq k k' with
    | true => some (a == b)
    | false => none
  | .str a, .str b => some (a == b)
  | .nil, .nil => some true
  | .pair a .nil, .pair b .nil => eqA a b
  | .pair a r, .pair b s => match eqA a b, eqA r s with
    | some x, some y => some (x && y)
    | _, _ => none
  | .agg p, .agg q => eqA p q
  | .arr _ s, .arr _ s' => s.eqB s'
  | _, _ => none

def depth : Nat := 12
def szT (tt : Tab) (t : Nat) : Nat := match tlk tt t with
  | some te => te.sz
  | none => 0
/-- Types whose values == compares cell by cell. -/
def eqTy (tt : Tab) : Nat → Nat → Bool
  | 0, _ => false
  | d + 1, t => match tlk tt t with
    | some ⟨.int _, _, _, _⟩ => true
    | some ⟨.str, _, _, _⟩ => true
    | some ⟨.bool, _, _, _⟩ => true
    | some ⟨.arr _ e, _, _, b⟩ => b && eqTy tt d e
    | some ⟨.struct fs, _, _, b⟩ => b && fs.all fun f => eqTy tt d f.1
    | _ => false
def isErrT (tt : Tab) (t : Nat) : Bool := match tlk tt t with
  | some ⟨.err, _, _, _⟩ => true
  | _ => false
def isPtrT (tt : Tab) (t : Nat) : Bool := match tlk tt t with
  | some ⟨.ptr _, _, _, _⟩ => true
  | _ => false
def isBoolT (tt : Tab) (t : Nat) : Bool := match tlk tt t with
  | some ⟨.bool, _, _, _⟩ => true
  | _ => false
def boolOp (op : BinOp) (g : Bool) (b : Bool) : AOut := match op, g with
  | .eql, true => .val true (.bool b)
  | .neq, true => .val true (.bool (!b))
  | _, _ => .bad
def binV (tt : Tab) (op : BinOp) (t : Nat) (x y : AVal) (nl : Bool) : AOut :=
  match x, y with
  | .int k a, .int k' b => match op with
    | .shl => .val (nn b) (.int k (shlI k a b))
    | .shr => .val (nn b) (.int k (shrI k a b))
    | _ => match kindEq k k' with
      | true => binInt op k a b
      | false => .bad
  | .str a, .str b => binStr op a b
  | .bool a, .bool b => boolOp op (isBoolT tt t) (a == b)
  | .err e, .err .nil => boolOp op (nl && isErrT tt t) e.isNil
  | .agg p, .agg q => match eqA p q with
    | some b => boolOp op (eqTy tt depth t && (fits tt (.agg p) [t] && fits tt (.agg q) [t])) b
    | none => .bad
  | .arr n s, .arr m s' => match s.eqB s' with
    | some b => boolOp op (eqTy tt depth t && (fits tt (.arr n s) [t] && fits tt (.arr m s') [t])) b
    | none => .bad
  | .ptr _ _ _, .nilp => boolOp op (isPtrT tt t) false
  | .nilp, .nilp => boolOp op (isPtrT tt t) true
  | _, _ => .bad

def isNilC : Operand → Bool
  | .const .nilIface => true
  | _ => false

def inB (i : Int) (n : Nat) : Bool := decide (0 ≤ i) && decide (i < (n : Int))
def cutB (lo hi : Int) (n : Nat) : Bool := decide (0 ≤ lo) && (decide (lo ≤ hi) && decide (hi ≤ (n : Int)))

/-- What a slice's value holds, and whether its row is the call's own. -/
def rowAt (H : Heap) (b g : Nat) : Option (Nat × Bool × Sq) := match hget H b with
  | .row _ g' own e s => match Nat.beq g g' with
    | true => some (e, own, s)
    | false => none
  | _ => none

def loadA (H : Heap) (b g : Nat) (p : List Stp) : Option AVal := match hget H b with
  | .var _ _ v => match Nat.beq g 1 with
    | true => getP v p
    | false => none
  | .row _ g' _ _ s => match Nat.beq g g', p with
    | true, .x i :: r => getP (s.get i) r
    | _, _ => none
  | .dead => none
def fieldAt (tt : Tab) (t i : Nat) : Option (Nat × Nat) := match tlk tt t with
  | some ⟨.struct fs, _, _, _⟩ => fs[i]?
  | _ => none
/-- The type of a place. -/
def tyP (tt : Tab) : Nat → List Stp → Option Nat
  | t, [] => some t
  | t, .f i :: r => match fieldAt tt t i with
    | some (u, _) => tyP tt u r
    | none => none
  | t, .x _ :: r => match tlk tt t with
    | some ⟨.arr _ e, _, _, _⟩ => tyP tt e r
    | _ => none
def storeA (tt : Tab) (H : Heap) (b g : Nat) (p : List Stp) (v : AVal) : Option Blk := match hget H b with
  | .var ver T u => match Nat.beq g 1, tyP tt T p with
    | true, some t => match fit1 tt v t, setP u p v with
      | true, some u' => some (.var (ver + 1) T u')
      | _, _ => none
    | _, _ => none
  | .row ver g' true e s => match Nat.beq g g', p with
    | true, .x i :: r => match tyP tt e r, setP (s.get i) r v with
      | some t, some q => match fit1 tt v t, s.set i q with
        | true, some s' => some (.row (ver + 1) g' true e s')
        | _, _ => none
      | _, _ => none
    | _, _ => none
  | _ => none
/-- Have two types one shape in memory? -/
def plainK : TK → Bool
  | .struct _ => false
  | .arr _ _ => false
  | _ => true
def sameTy (tt : Tab) (t u : Nat) : Bool := match tlk tt t, tlk tt u with
  | some a, some b => Nat.beq a.sz b.sz && (plainK a.k == plainK b.k)
  | _, _ => false
def placeTy (tt : Tab) (H : Heap) (b : Nat) (p : List Stp) : Option Nat := match hget H b, p with
  | .var _ T _, p => tyP tt T p
  | .row _ _ _ e _, .x _ :: r => tyP tt e r
  | _, _ => none

def room (n : Nat) : Bool := Nat.blt n 2147483648
def build1 (z : AVal) : List (Nat × AVal) → Option AVal
  | [] => some z
  | (i, v) :: r => match z.setNth i v with
    | some z' => build1 z' r
    | none => none
def build2 (s : Sq) : List (Nat × AVal) → Option Sq
  | [] => some s
  | (i, v) :: r => match Nat.blt i s.len, s.set i v with
    | true, some s' => build2 s' r
    | _, _ => none
def evP (fr : Fr) : List (Nat × Operand) → Option (List (Nat × AVal))
  | [] => some []
  | (i, x) :: r => match ev fr x, evP fr r with
    | some v, some l => some ((i, v) :: l)
    | _, _ => none


def lenA (tt : Tab) (H : Heap) (t : Nat) (x : AVal) : Option Int := match tlk tt t with
  | none => none
  | some te => match te.k, x with
    | .str, .str l => some (l.length : Int)
    | .slice _, .nils => some 0
    | .slice _, .slice b g v => match rowAt H b g with
      | some (_, _, s) => some ((vw v s).len : Int)
      | none => none
    | .arr n _, .arr _ _ => some (n : Int)
    | _, _ => none

/-- What is put behind a row: its content, out of memory or out of a string. -/
def tailOf (H : Heap) (z : Sq) : AVal → Option Sq
  | .nils => some z
  | .slice b g v => match rowAt H b g with
    | some (_, _, s) => some (vw v s)
    | none => none
  | _ => none

def appendA (tt : Tab) (H : Heap) (e : Nat) (x y : AVal) : AOut :=
  match zq tt e with
  | none => .bad
  | some z => match tailOf H z y with
    | none => .bad
    | some m => match x with
      | .nils => match z.like m with
        | true => .new (room m.len) false (.row 0 1 true e m)
        | false => .bad
      | .slice b g v => match hget H b with
        | .row ver g' true e' s => match Nat.beq g g' && Nat.beq e e' && pre v, (vw v s).app m with
          | true, some s' => .upd (room s'.len) b (.row (ver + 1) (g + 1) true e s') (.slice b (g + 1) .all)
          | _, _ => .bad
        | _ => .bad
      | _ => .bad

def pickA (a b : Option AVal) : Option AVal → AOut
  | some (.bool true) => match a with
    | some v => .val true v
    | none => .bad
  | some (.bool false) => match b with
    | some v => .val true v
    | none => .bad
  | _ => .bad
def unA : UnOp → AVal → AOut
  | .not, .bool b => .val true (.bool (!b))
  | .neg, .int k n => .val true (.int k (k.wrap (0 - n)))
  | .xor, .int k n => .val true (.int k (Go.bits .xor k (if k.signed then -1 else k.max) n))
  | _, _ => .bad
def extA (ix : Nat) : AVal → AOut
  | .tup p => match p.nth ix with
    | some v => .val true v
    | none => .bad
  | _ => .bad
def isU8 (tt : Tab) (e : Nat) : Bool := match tlk tt e with
  | some ⟨.int .u8, _, _, _⟩ => true
  | _ => false
def u8Of : Sq → Option (List UInt8)
  | .u8 l => some l
  | _ => none
/-- A conversion: by the kinds of both types. -/
def convA (tt : Tab) (H : Heap) (s d : Nat) (x : AVal) : AOut :=
  match tlk tt s, tlk tt d with
  | some a, some b => match a.k, b.k, x with
    | _, .int k, .int _ n => .val true (.int k (k.wrap n))
    | .str, .str, .str l => .val true (.str l)
    | .slice e, .str, .nils => match isU8 tt e with
      | true => .val true (.str [])
      | false => .bad
    | .slice e, .str, .slice b g v => match isU8 tt e, rowAt H b g with
      | true, some (_, _, s) => match u8Of (vw v s) with
        | some l => .red true b (.str l)
        | none => .bad
      | _, _ => .bad
    | .str, .slice e, .str l => match isU8 tt e with
      | true => .new true false (.row 0 1 true e (.u8 l))
      | false => .bad
    | .slice e, .slice _, .slice b g .all => match Nat.beq s d, isU8 tt e, hget H b with
      | true, true, .row ver g' true e' q => match Nat.beq g g' with
        | true => .upd (Nat.blt 0 q.len) b (.row (ver + 1) g' true e' q) (.slice b g .all)
        | false => .bad
      | _, _, _ => .bad
    | _, _, _ => .bad
  | _, _ => .bad
def ifaceA (C : Cfg) (t : Nat) : AVal → AOut
  | .int .i64 n => match Nat.beq t C.tE with
    | true => .val true (.err (.no n))
    | false => .bad
  | .agg (.pair (.int .i64 o) (.pair (.err (.no n)) .nil)) => match Nat.beq t C.tA with
    | true => .val true (.err (.at_ o n))
    | false => .bad
  | _ => .bad
def nilckA : AVal → AOut
  | .ptr b g p => .val true (.ptr b g p)
  | .fn f a c => .val true (.fn f a c)
  | _ => .bad
def fieldA (tt : Tab) (t i : Nat) : AVal → AOut
  | .agg p => match fits tt (.agg p) [t], p.nth i with
    | true, some v => .val true v
    | _, _ => .bad
  | _ => .bad
def isStrT (tt : Tab) (t : Nat) : Bool := match tlk tt t with
  | some ⟨.str, _, _, _⟩ => true
  | _ => false
def indexA (tt : Tab) (t : Nat) : AVal → AVal → AOut
  | .str l, .int _ j => match isStrT tt t with
    | true => .val (inB j l.length) (.int .u8 (byt l j))
    | false => .bad
  | .arr n s, .int _ j => match fits tt (.arr n s) [t] with
    | true => .val (inB j n) (s.get j.toNat)
    | false => .bad
  | _, _ => .bad
def sameFld (tt : Tab) (t u i : Nat) : Bool := match fieldAt tt t i, fieldAt tt u i with
  | some (a, x), some (b, y) => Nat.beq x y && (Nat.blt 0 (szT tt a) && Nat.beq a b)
  | _, _ => false
def faddrA (tt : Tab) (H : Heap) (t i : Nat) : AVal → AOut
  | .ptr b g p => match placeTy tt H b p with
    | some u => match sameFld tt t u i with
      | true => .val true (.ptr b g (p ++ [.f i]))
      | false => .bad
    | none => .bad
  | _ => .bad
def sliceOf (tt : Tab) (t : Nat) (s : Sq) : Bool := match tlk tt t with
  | some ⟨.slice e, _, _, _⟩ => Nat.beq (szT tt e) s.esz
  | _ => false
def arrOf (tt : Tab) (t : Nat) : Option (Nat × Nat) := match tlk tt t with
  | some ⟨.arr n e, _, _, _⟩ => some (n, szT tt e)
  | _ => none
def iaddrA (tt : Tab) (H : Heap) (t : Nat) : AVal → AVal → AOut
  | .slice b g v, .int _ j => match rowAt H b g with
    | some (_, _, s) => match sliceOf tt t s with
      | true => .val (inB j (vw v s).len) (.ptr b g [.x (pos v j.toNat)])
      | false => .bad
    | none => .bad
  | .ptr b g p, .int _ j => match placeTy tt H b p with
    | some u => match arrOf tt t, arrOf tt u with
      | some (n, z), some (n', z') => match Nat.beq n n' && (Nat.beq z z' && Nat.blt 0 z) with
        | true => .val (inB j n) (.ptr b g (p ++ [.x j.toNat]))
        | false => .bad
      | _, _ => .bad
    | none => .bad
  | _, _ => .bad
def bnd (d : Int) : Option (Option AVal) → Option Int
  | none => some d
  | some (some (.int _ m)) => some m
  | _ => none
def isSliceT (tt : Tab) (t : Nat) : Bool := match tlk tt t with
  | some ⟨.slice e, _, _, _⟩ => (tlk tt e).isSome
  | _ => false
def sliceA (tt : Tab) (H : Heap) (t : Nat) (x : AVal) (lo hi : Option (Option AVal)) : AOut :=
  match x, bnd 0 lo with
  | .str l, some L => match isStrT tt t, bnd (l.length : Int) hi with
    | true, some U => .val (cutB L U l.length) (.str (cut l L U))
    | _, _ => .bad
  | .slice b g v, some L => match rowAt H b g with
    | some (_, _, s) => match sliceOf tt t s, bnd ((vw v s).len : Int) hi with
      | true, some U => .val (cutB L U (vw v s).len) (.slice b g (.cut v L U))
      | _, _ => .bad
    | none => .bad
  | .nils, some L => match isSliceT tt t, bnd 0 hi with
    | true, some U => .val (cutB L U 0) .nils
    | _, _ => .bad
  | _, _ => .bad
def allocA (tt : Tab) (t : Nat) : AOut := match zeroA tt depth t with
  | some v => match fit1 tt v t with
    | true => .new true true (.var 0 t v)
    | false => .bad
  | none => .bad
def boxA (tt : Tab) (t : Nat) (v : AVal) : AOut := match fit1 tt v t with
  | true => .new true true (.var 0 t v)
  | false => .bad
def fitsAt (tt : Tab) (fs : List (Nat × Nat)) : List (Nat × AVal) → Bool
  | [] => true
  | (i, v) :: r => match fs[i]? with
    | some (t, _) => fit1 tt v t && fitsAt tt fs r
    | none => false
def buildA (tt : Tab) (t : Nat) (l : List (Nat × AVal)) : AOut :=
  match tlk tt t, zeroA tt depth t with
  | some ⟨.struct fs, _, _, _⟩, some (.agg z) => match fitsAt tt fs l, build1 z l with
    | true, some p => .val true (.agg p)
    | _, _ => .bad
  | some ⟨.arr _ _, _, _, _⟩, some (.arr n z) => match build2 z l with
    | some s => .val true (.arr n s)
    | none => .bad
  | _, _ => .bad
def elemOf (tt : Tab) (t : Nat) : Option Nat := match tlk tt t with
  | some ⟨.slice e, _, _, _⟩ => some e
  | _ => none
def bsliceA (tt : Tab) (t n : Nat) (l : List (Nat × AVal)) : AOut := match elemOf tt t with
  | some e => match zeroSq tt e n with
    | some z => match build2 z l with
      | some s => .new (Nat.blt n 65536) false (.row 0 1 true e s)
      | none => .bad
    | none => .bad
  | none => .bad
def mksliceA (tt : Tab) (t : Nat) : AVal → AVal → AOut
  | .int _ a, .int _ c => match elemOf tt t with
    | some e => match zeroSq tt e a.toNat with
      | some z => .new (nn a && ((a == c) && room a.toNat)) false (.row 0 1 true e z)
      | none => .bad
    | none => .bad
  | _, _ => .bad
def loadOp (tt : Tab) (H : Heap) (t : Nat) : AVal → AOut
  | .ptr b g p => match loadA H b g p, placeTy tt H b p with
    | some v, some u => match sameTy tt t u with
      | true => .red true b v
      | false => .bad
    | _, _ => .bad
  | _ => .bad
def storeOp (tt : Tab) (H : Heap) (t : Nat) : AVal → AVal → AOut
  | .ptr b g p, v => match placeTy tt H b p, storeA tt H b g p v with
    | some u, some blk => match sameTy tt t u with
      | true => .upd true b blk .undef
      | false => .bad
    | _, _ => .bad
  | _, _ => .bad
def biA (tt : Tab) (H : Heap) (b : Builtin) (ts : List Nat) (as : List AVal) : AOut :=
  match b, as with
  | .len, [x] => match ts with
    | [t] => match lenA tt H t x with
      | some n => .val true (.int .i64 n)
      | none => .bad
    | _ => .bad
  | .min, [.int k x, .int k' y] => match kindEq k k' with
    | true => .val true (.int k (if y < x then y else x))
    | false => .bad
  | .max, [.int k x, .int k' y] => match kindEq k k' with
    | true => .val true (.int k (if y > x then y else x))
    | false => .bad
  | .append, [x, y] => match ts with
    | [t, t'] => match Nat.beq t t', elemOf tt t with
      | true, some e => appendA tt H e x y
      | _, _ => .bad
    | _ => .bad
  | _, _ => .bad

def on1 (f : AVal → AOut) : Option AVal → AOut
  | some v => f v
  | none => .bad
def on2 (f : AVal → AVal → AOut) : Option AVal → Option AVal → AOut
  | some u, some v => f u v
  | _, _ => .bad
def onL {α : Type} (f : α → AOut) : Option α → AOut
  | some l => f l
  | none => .bad

def aop (C : Cfg) (fr : Fr) (H : Heap) : Op → AOut
  | .move x => on1 (.val true) (ev fr x)
  | .assign x => on1 (.val true) (ev fr x)
  | .pick c a b => pickA (ev fr a) (ev fr b) (ev fr c)
  | .binOp op t x y _ => on2 (fun u v => binV C.tt op t u v (isNilC y)) (ev fr x) (ev fr y)
  | .unOp op _ x => on1 (unA op) (ev fr x)
  | .extract t ix => on1 (extA ix) (ev fr t)
  | .convert s d x => on1 (convA C.tt H s d) (ev fr x)
  | .makeInterface t x => on1 (ifaceA C t) (ev fr x)
  | .makeFunc (.func f) first caps => onL (fun a => onL (fun b => .val true (.fn f (.ofList a) (.ofList b))) (evL fr caps.toList)) (evL fr first.toList)
  | .nilCheck x => on1 nilckA (ev fr x)
  | .field t x i => on1 (fieldA C.tt t i) (ev fr x)
  | .index t x i => on2 (indexA C.tt t) (ev fr x) (ev fr i)
  | .fieldAddr t x i => on1 (faddrA C.tt H t i) (ev fr x)
  | .indexAddr t x i => on2 (iaddrA C.tt H t) (ev fr x) (ev fr i)
  | .slice t x lo hi none => on1 (fun v => sliceA C.tt H t v (lo.map (ev fr)) (hi.map (ev fr))) (ev fr x)
  | .alloc t => allocA C.tt t
  | .box t x => on1 (boxA C.tt t) (ev fr x)
  | .build t parts => onL (buildA C.tt t) (evP fr parts.toList)
  | .buildSlice t n parts => onL (bsliceA C.tt t n) (evP fr parts.toList)
  | .makeSlice t n c => on2 (mksliceA C.tt t) (ev fr n) (ev fr c)
  | .load t a => on1 (loadOp C.tt H t) (ev fr a)
  | .store t a x => on2 (storeOp C.tt H t) (ev fr a) (ev fr x)
  | .call { callee := .builtin b, args := as, argTypes := ts } => onL (biA C.tt H b ts.toList) (evL fr as.toList)
  | _ => .bad

def gk {R : Type} (g : Bool) (x : Option R) : Option R := match g with
  | true => x
  | false => none
end Go.Proofs.YtaakccdfgejgpaaGreatDoor.Abs
