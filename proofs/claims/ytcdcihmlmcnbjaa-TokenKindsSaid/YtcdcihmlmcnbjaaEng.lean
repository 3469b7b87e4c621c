/-
  A small calculus over the model's code: frames as lists of slots, one lemma an operation. Plain theorems over any program.
-/
import Derived.Orders
import Derived.Tactics
import Derived.Below
import Derived.KernelRfl
import Derived.Deep.LoopGhost
namespace Go.Proofs.Ytcdcihmlmcnbjaa.Eng
open Go

abbrev Fr := List (Nat × Value)

def look : Fr → Nat → Option Value
  | [], _ => none
  | (j, v) :: r, i => match Nat.beq j i with
    | true => some v
    | false => look r i

/-- An act's slots hold what the list says. -/
structure Rep (n : Nat) (ds : List Deferred) (fr : Fr) (a : Act) : Prop where
  size : a.tmps.size = n
  vals : ∀ i v, look fr i = some v → a.tmps[i]? = some v
  dfs : a.defers = ds

theorem look_cons (j i : Nat) (v : Value) (r : Fr) : look ((j, v) :: r) i = if j = i then some v else look r i := by
  show (match Nat.beq j i with | true => some v | false => look r i) = _
  by_cases h : j = i
  · subst h; rw [if_pos rfl, Nat.beq_refl]
  · rw [if_neg h]
    have : Nat.beq j i = false := by
      cases hb : Nat.beq j i
      · rfl
      · exact absurd (Nat.eq_of_beq_eq_true hb) h
    rw [this]

theorem Rep.put {n : Nat} {ds : List Deferred} {fr : Fr} {a : Act} (h : Rep n ds fr a) {d : Nat} {v : Value} (hd : Nat.blt d n = true) : Rep n ds ((d, v) :: fr) (a.put (some d) v) := by
  have hd' : d < n := by simpa [Nat.blt_eq] using hd
  refine ⟨by simp [Act.put, h.size], ?_, by simp [Act.put, h.dfs]⟩
  intro i u hi
  rw [look_cons] at hi
  by_cases e : d = i
  · subst e
    rw [if_pos rfl] at hi
    cases hi
    simp [Act.put, h.size, hd']
  · rw [if_neg e] at hi
    simp only [Act.put]
    rw [Array.getElem?_setIfInBounds_ne e]
    exact h.vals i u hi

theorem Rep.sub {n : Nat} {ds : List Deferred} {fr fr' : Fr} {a : Act} (h : Rep n ds fr a) (hs : ∀ i v, look fr' i = some v → look fr i = some v) : Rep n ds fr' a :=
  ⟨h.size, fun i v hi => h.vals i v (hs i v hi), h.dfs⟩

/-- Every entry of fr' is what fr says there. -/
def subF (fr fr' : Fr) : Prop := fr'.map (fun p => look fr p.1) = fr'.map (fun p => some p.2)

theorem subF_spec {fr fr' : Fr} (h : subF fr fr') : ∀ i v, look fr' i = some v → look fr i = some v := by
  induction fr' with
  | nil => intro i v hi; cases hi
  | cons p r ih =>
    obtain ⟨j, u⟩ := p
    unfold subF at h
    simp only [List.map_cons, List.cons.injEq] at h
    intro i v hi
    rw [look_cons] at hi
    by_cases e : j = i
    · subst e; rw [if_pos rfl] at hi; cases hi; exact h.1
    · rw [if_neg e] at hi; exact ih h.2 i v hi

def ev (fr : Fr) : Operand → Option Value
  | .tmp t => look fr t
  | .const v => some v
  | .global g => some (.pointer (some ⟨g, 0, none⟩))
  | .func f => some (.func (.func f) #[] #[])

theorem Rep.eval {n : Nat} {ds : List Deferred} {fr : Fr} {a : Act} (h : Rep n ds fr a) {x : Operand} {v : Value} (he : ev fr x = some v) : a.eval x = v := by
  cases x with
  | tmp t =>
    have := h.vals t v he
    simp [Act.eval, this]
  | const c => cases he; rfl
  | global g => cases he; rfl
  | func f => cases he; rfl

/-! ### Types, by a table -/
inductive TK where
  | int (k : IntKind)
  | str
  | bool
  | slice (e : Nat)
  | arr (n : Nat) (e : Nat)
  | struct (offs : List (Nat × Nat))
  | err
  | ptr (e : Nat)
  | fn

def TK.ok (P : Program) (t : Nat) : TK → Prop
  | .int k => P.underlying t = some (.int k)
  | .str => P.underlying t = some .string
  | .bool => P.underlying t = some .bool
  | .slice e => P.underlying t = some (.slice e)
  | .arr n e => P.underlying t = some (.array n e)
  | .struct _ => ∃ fs, P.underlying t = some (.struct fs)
  | .err => ∃ ms, P.underlying t = some (.interface ms)
  | .ptr e => P.underlying t = some (.pointer e)
  | .fn => ∃ a b c, P.underlying t = some (.func a b c)

def tlook : List (Nat × TK) → Nat → Option TK
  | [], _ => none
  | (j, v) :: r, i => match Nat.beq j i with
    | true => some v
    | false => tlook r i

def Tok (P : Program) (tt : List (Nat × TK)) : Prop := ∀ t k, tlook tt t = some k → k.ok P t

theorem Tok.nil (P : Program) : Tok P [] := fun _ _ h => by cases h
theorem Tok.cons {P : Program} {tt : List (Nat × TK)} {t : Nat} {k : TK} (h : k.ok P t) (r : Tok P tt) : Tok P ((t, k) :: tt) := by
  intro u q hq
  change (match Nat.beq t u with | true => some k | false => tlook tt u) = some q at hq
  cases hb : Nat.beq t u with
  | true => rw [hb] at hq; cases hq; rw [← Nat.eq_of_beq_eq_true hb]; exact h
  | false => rw [hb] at hq; exact r u q hq

/-! ### Operations that only compute -/
def pvInt (op : BinOp) (k : IntKind) (a b : Int) : Option Value :=
  match op with
  | .add => some (.int k (k.wrap (a + b)))
  | .sub => some (.int k (k.wrap (a - b)))
  | .mul => some (.int k (k.wrap (a * b)))
  | .and => some (.int k (Go.bits .and k a b))
  | .or => some (.int k (Go.bits .or k a b))
  | .xor => some (.int k (Go.bits .xor k a b))
  | .andNot => some (.int k (Go.bits .andNot k a b))
  | .eql => some (.bool (a == b))
  | .neq => some (.bool (a != b))
  | .lss => some (.bool (decide (a < b)))
  | .leq => some (.bool (decide (a ≤ b)))
  | .gtr => some (.bool (decide (a > b)))
  | .geq => some (.bool (decide (a ≥ b)))
  | _ => none

def pvStr (op : BinOp) (a b : ByteArray) : Option Value :=
  match op with
  | .eql => some (.bool (a.data.toList == b.data.toList))
  | .neq => some (.bool (!(a.data.toList == b.data.toList)))
  | _ => none

def kindEq : IntKind → IntKind → Bool
  | .i8, .i8 => true | .i16, .i16 => true | .i32, .i32 => true | .i64, .i64 => true
  | .u8, .u8 => true | .u16, .u16 => true | .u32, .u32 => true | .u64, .u64 => true
  | _, _ => false

theorem kindEq_spec {a b : IntKind} (h : kindEq a b = true) : a = b := by cases a <;> cases b <;> first | rfl | cases h

abbrev wr (k : IntKind) (x : Int) : Int := k.wrap x

def pvBin (op : BinOp) : Value → Value → Option Value
  | .int k a, .int k' b => match kindEq k k' with
    | true => pvInt op k a b
    | false => none
  | .string a, .string b => pvStr op a b
  | _, _ => none

def pvCall (tt : List (Nat × TK)) (b : Builtin) (ts : List Nat) (xs : List (Option Value)) : Option Value :=
  match b, ts, xs with
  | .len, [t], [some (.string s)] => match tlook tt t with
    | some .str => some (.int .i64 s.size)
    | _ => none
  | .len, [t], [some (.slice _ n _)] => match tlook tt t with
    | some (.slice _) => some (.int .i64 n)
    | _ => none
  | .min, _, [some (.int k x), some (.int _ y)] => some (.int k (if y < x then y else x))
  | .max, _, [some (.int k x), some (.int _ y)] => some (.int k (if y > x then y else x))
  | _, _, _ => none

def pv (tt : List (Nat × TK)) (fr : Fr) : Op → Option Value
  | .move x => ev fr x
  | .assign x => ev fr x
  | .pick c a b => match ev fr c with
    | some (.bool true) => ev fr a
    | some (.bool false) => ev fr b
    | _ => none
  | .binOp op t x y _ => match ev fr x, ev fr y with
    | some (.bool b), some (.bool c) => match op, tlook tt t with
      | .eql, some .bool => some (.bool (b == c))
      | .neq, some .bool => some (.bool (!(b == c)))
      | _, _ => none
    | some u, some v => pvBin op u v
    | _, _ => none
  | .unOp .not _ x => match ev fr x with
    | some (.bool b) => some (.bool (!b))
    | _ => none
  | .unOp .neg _ x => match ev fr x with
    | some (.int k n) => some (.int k (k.wrap (0 - n)))
    | _ => none
  | .extract t ix => match ev fr t with
    | some (.tuple vs) => vs.toList[ix]?
    | _ => none
  | .convert s d x => match tlook tt s, tlook tt d, ev fr x with
    | some _, some (.int k), some (.int _ n) => some (.int k (k.wrap n))
    | some .str, some .str, some (.string b) => some (.string b)
    | _, _, _ => none
  | .makeInterface t x => match tlook tt t, ev fr x with
    | some (.int _), some v => some (.iface t v)
    | some (.struct _), some v => some (.iface t v)
    | _, _ => none
  | .call { callee := .builtin b, args := as, argTypes := ts } => pvCall tt b ts.toList (as.toList.map (ev fr))
  | _ => none
end Go.Proofs.Ytcdcihmlmcnbjaa.Eng
