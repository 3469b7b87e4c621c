/-
  What the abstract values and the abstract memory mean in the model.
-/
import Derived.Test.YtaakccdfgejgpaaGreatDoorAbsA
import Derived.Laws.AppendOwn
import Derived.Laws.StructEq
namespace Go.Proofs.YtaakccdfgejgpaaGreatDoor.Abs
open Go
set_option linter.unusedVariables false

def encE (C : Cfg) : Er → Value
  | .nil => .nilIface
  | .no n => .iface C.tE (.int .i64 n)
  | .at_ o n => .iface C.tA (.agg #[.int .i64 o, .iface C.tE (.int .i64 n)])
def Er.rng : Er → Prop
  | .nil => True
  | .no n => Rng .i64 n
  | .at_ o n => Rng .i64 o ∧ Rng .i64 n

abbrev maxL : Nat := 4611686018427387904
def SB (l : List UInt8) : Prop := l.length < maxL
def encTk (t : Tk) : List Value := [.int .i64 t.k, .int .i64 t.f, .int .i64 t.t, .bool t.a, .int .i64 t.e]
def Tk.rng (t : Tk) : Prop := Rng .i64 t.k ∧ Rng .i64 t.f ∧ Rng .i64 t.t ∧ Rng .i64 t.e
def Sq.cells : Sq → List Value
  | .u8 l => l.map fun b => .int .u8 (b.toNat : Int)
  | .int k l => l.map (.int k)
  | .str l => l.map fun s => .string (mk s)
  | .bool l => l.map .bool
  | .tok l => l.flatMap encTk
def Sq.rng : Sq → Prop
  | .int k l => ∀ x ∈ l, Rng k x
  | .str l => ∀ x ∈ l, SB x
  | .tok l => ∀ t ∈ l, t.rng
  | _ => True

structure Pl where
  row : Bool
  gen : Nat
  n : Nat
  at_ : Option (Nat × Nat)
  T : Nat
  esz : Nat
  room : Nat

def offP (tt : Tab) : Nat → List Stp → Nat
  | _, [] => 0
  | t, .f i :: r => match fieldAt tt t i with
    | some (u, o) => o + offP tt u r
    | none => 0
  | t, .x i :: r => match tlk tt t with
    | some ⟨.arr _ e, _, _, _⟩ => i * szT tt e + offP tt e r
    | _ => 0
def offB (tt : Tab) (p : Pl) (q : List Stp) : Nat := match p.row with
  | false => offP tt p.T q
  | true => match q with
    | .x i :: r => i * p.esz + offP tt p.T r
    | _ => 0

/-- Indexes on a path lie within their arrays. -/
def pokP (tt : Tab) : Nat → List Stp → Prop
  | _, [] => True
  | t, .f i :: r => match fieldAt tt t i with
    | some (u, _) => pokP tt u r
    | none => False
  | t, .x i :: r => match tlk tt t with
    | some ⟨.arr n e, _, _, _⟩ => i < n ∧ pokP tt e r
    | _ => False
def pokB (tt : Tab) (p : Pl) (q : List Stp) : Prop := match p.row with
  | false => pokP tt p.T q
  | true => match q with
    | .x i :: r => i < p.n ∧ pokP tt p.T r
    | _ => False

def vlen (n : Nat) : Vw → Nat
  | .all => n
  | .cut _ lo hi => hi.toNat - lo.toNat
def voff : Vw → Nat
  | .all => 0
  | .cut v lo _ => voff v + lo.toNat
def vok (n : Nat) : Vw → Prop
  | .all => True
  | .cut v lo hi => vok n v ∧ 0 ≤ lo ∧ lo ≤ hi ∧ hi ≤ (vlen n v : Int)

theorem pos_off (v : Vw) : ∀ i, pos v i = voff v + i := by
  induction v with
  | all => intro i; simp [pos, voff]
  | cut v lo hi ih => intro i; simp only [pos, voff, ih]; omega

def SlOk (p : Pl) (v : Vw) (A : Option Addr) (len cap : Nat) : Prop :=
  vok p.n v ∧ len = vlen p.n v ∧ len ≤ cap ∧ voff v + cap ≤ p.room ∧
  match p.at_ with
  | none => A = none
  | some (c, o) => ∃ a, A = some a ∧ ((voff v = 0 ∨ 0 < len) → a = ⟨c, o + voff v * p.esz, none⟩) ∧ ∃ q, a = ⟨c, q, none⟩

def RL (C : Cfg) (σ : List Pl) : AVal → Bool → List Value → Prop
  | .undef, true, cs => cs = [undef]
  | .undef, false, _ => False
  | .bool b, _, cs => cs = [.bool b]
  | .int k n, _, cs => Rng k n ∧ cs = [.int k n]
  | .str l, _, cs => SB l ∧ cs = [.string (mk l)]
  | .err e, _, cs => e.rng ∧ cs = [encE C e]
  | .nilp, _, cs => cs = [.pointer none]
  | .ptr b g p, _, cs => ∃ pl a, σ[b]? = some pl ∧ g ≤ pl.gen ∧ (g = pl.gen → pokB C.tt pl p ∧ ∃ c o, pl.at_ = some (c, o) ∧ a = ⟨c, o + offB C.tt pl p, none⟩) ∧ cs = [.pointer (some a)]
  | .nils, _, cs => cs = [.slice none 0 0]
  | .slice b g v, _, cs => ∃ pl A len cap, σ[b]? = some pl ∧ g ≤ pl.gen ∧ (g = pl.gen → SlOk pl v A len cap) ∧ cs = [.slice A len cap]
  | .nilfn, _, cs => cs = [.nilFunc]
  | .fn f a c, _, cs => ∃ x y, RL C σ a true x ∧ RL C σ c true y ∧ cs = [.func (.func f) x.toArray y.toArray]
  | .nil, _, cs => cs = []
  | .pair a r, false, cs => ∃ x y, RL C σ a false x ∧ RL C σ r false y ∧ cs = x ++ y
  | .pair a r, true, cs => ∃ c y, RL C σ a true [c] ∧ RL C σ r true y ∧ cs = c :: y
  | .agg p, false, cs => RL C σ p false cs
  | .agg p, true, cs => ∃ x, RL C σ p false x ∧ cs = [.agg x.toArray]
  | .arr n s, false, cs => s.len = n ∧ s.rng ∧ cs = s.cells
  | .arr n s, true, cs => s.len = n ∧ s.rng ∧ cs = [.agg s.cells.toArray]
  | .tup _, false, _ => False
  | .tup p, true, cs => ∃ x, RL C σ p true x ∧ cs = [.tuple x.toArray]

/-- One value. -/
abbrev VR (C : Cfg) (σ : List Pl) (v : AVal) (c : Value) : Prop := RL C σ v true [c]

/-- What was placed stays where it was while it is of one generation. -/
def Le (σ σ' : List Pl) : Prop := ∀ (b : Nat) (p : Pl), σ[b]? = some p → ∃ p' : Pl, σ'[b]? = some p' ∧ p.gen ≤ p'.gen ∧ (p.gen = p'.gen → p' = p)
theorem Le.refl (σ : List Pl) : Le σ σ := fun _ p h => ⟨p, h, Nat.le_refl _, fun _ => rfl⟩
theorem Le.trans {σ σ' σ'' : List Pl} (h : Le σ σ') (k : Le σ' σ'') : Le σ σ'' := by
  intro b p hb
  obtain ⟨p', h1, h2, h3⟩ := h b p hb
  obtain ⟨p'', k1, k2, k3⟩ := k b p' h1
  refine ⟨p'', k1, Nat.le_trans h2 k2, fun e => ?_⟩
  have e1 : p.gen = p'.gen := by omega
  have e2 : p'.gen = p''.gen := by omega
  rw [k3 e2, h3 e1]
theorem Le.push (σ : List Pl) (q : List Pl) : Le σ (σ ++ q) := fun b p h => ⟨p, by rw [List.getElem?_append_left (List.getElem?_eq_some_iff.1 h).1]; exact h, Nat.le_refl _, fun _ => rfl⟩

theorem RL.mono {C : Cfg} {σ σ' : List Pl} (hl : Le σ σ') : ∀ {v : AVal} {m : Bool} {cs : List Value}, RL C σ v m cs → RL C σ' v m cs := by
  intro v
  induction v with
  | ptr b g p =>
    intro m cs h
    simp only [RL] at h ⊢
    obtain ⟨pl, a, h1, h2, h3, h4⟩ := h
    obtain ⟨pl', k1, k2, k3⟩ := hl b pl h1
    refine ⟨pl', a, k1, Nat.le_trans h2 k2, fun e => ?_, h4⟩
    have e1 : pl.gen = pl'.gen := by omega
    rw [k3 e1]
    exact h3 (by omega)
  | slice b g v =>
    intro m cs h
    simp only [RL] at h ⊢
    obtain ⟨pl, A, len, cap, h1, h2, h3, h4⟩ := h
    obtain ⟨pl', k1, k2, k3⟩ := hl b pl h1
    refine ⟨pl', A, len, cap, k1, Nat.le_trans h2 k2, fun e => ?_, h4⟩
    have e1 : pl.gen = pl'.gen := by omega
    rw [k3 e1]
    exact h3 (by omega)
  | fn f a c iha ihc =>
    intro m cs h
    simp only [RL] at h ⊢
    obtain ⟨x, y, h1, h2, h3⟩ := h
    exact ⟨x, y, iha h1, ihc h2, h3⟩
  | pair a r iha ihr =>
    intro m cs h
    cases m <;> simp only [RL] at h ⊢
    · obtain ⟨x, y, h1, h2, h3⟩ := h
      exact ⟨x, y, iha h1, ihr h2, h3⟩
    · obtain ⟨x, y, h1, h2, h3⟩ := h
      exact ⟨x, y, iha h1, ihr h2, h3⟩
  | agg p ih =>
    intro m cs h
    cases m <;> simp only [RL] at h ⊢
    · exact ih h
    · obtain ⟨x, h1, h2⟩ := h
      exact ⟨x, ih h1, h2⟩
  | tup p ih =>
    intro m cs h
    cases m <;> simp only [RL] at h ⊢
    obtain ⟨x, h1, h2⟩ := h
    exact ⟨x, ih h1, h2⟩
  | _ =>
    intro m cs h
    cases m <;> first | (simp only [RL] at h; done) | simpa only [RL] using h

/-! ### Memory -/
structure Bx (F : Nat → Prop) (w0 w : World) : Prop where
  os : w.os = w0.os
  tape : w.tape = w0.tape
  output : w.output = w0.output
  size : w0.heap.size ≤ w.heap.size
  block : ∀ k, k < w0.heap.size → ¬ F k → w.heap[k]? = w0.heap[k]?

/-- Nothing below n is frozen. -/
def fzOk (fz : Nat × Nat) (n : Nat) : Prop := fz.1 = fz.2 ∨ n ≤ fz.1

def Blk.own : Blk → Bool
  | .dead => false
  | .var _ _ _ => true
  | .row _ _ o _ _ => o
def Blk.live : Blk → Bool
  | .dead => false
  | _ => true

def VarAt (C : Cfg) (σ : List Pl) (w : World) (p : Pl) (T : Nat) (v : AVal) : Prop :=
  p.row = false ∧ p.gen = 1 ∧ p.T = T ∧ fit1 C.tt v T = true ∧
  ∃ c cs fz, p.at_ = some (c, 0) ∧ RL C σ v false cs ∧ w.heap[c]? = some (.cells cs.toArray T fz) ∧ fzOk fz cs.length
def RowAt (C : Cfg) (w : World) (p : Pl) (own : Bool) (e : Nat) (s : Sq) : Prop :=
  p.row = true ∧ p.n = s.len ∧ p.T = e ∧ p.esz = s.esz ∧ sqOk C.tt e s = true ∧ s.rng ∧ s.len ≤ p.room ∧ s.len < maxL ∧
  match p.at_ with
  | none => p.room = 0
  | some (c, o) => ∃ (cl : List Value) (T : Nat) (fz : Nat × Nat), w.heap[c]? = some (.cells cl.toArray T fz) ∧ (∀ j v, s.cells[j]? = some v → cl[o + j]? = some v) ∧
      (own = true → o = 0 ∧ cl.length = p.room * p.esz ∧ fzOk fz cl.length)

def BR (C : Cfg) (σ : List Pl) (w : World) (p : Pl) : Blk → Prop
  | .dead => True
  | .var _ T v => VarAt C σ w p T v
  | .row _ g own e s => p.gen = g ∧ RowAt C w p own e s

/-- What the program's own variables hold that are never written. -/
def Gl (C : Cfg) (F : Nat → Prop) (w0 : World) : Prop := ∀ x ∈ C.gl, ¬ F x.1 ∧ x.1 < w0.heap.size ∧ x.2 w0.heap[x.1]?
theorem Gl.at_ {C : Cfg} {F : Nat → Prop} {w0 w : World} (h : Gl C F w0) (hb : Bx F w0 w) : ∀ x ∈ C.gl, ¬ F x.1 ∧ x.1 < w.heap.size ∧ x.2 w.heap[x.1]? := fun x hx => by
  obtain ⟨h1, h2, h3⟩ := h x hx
  exact ⟨h1, Nat.lt_of_lt_of_le h2 hb.size, by rw [hb.block x.1 h2 h1]; exact h3⟩

structure HR (C : Cfg) (F G : Nat → Prop) (w0 : World) (σ : List Pl) (H : Heap) (w : World) : Prop where
  bx : Bx F w0 w
  len : σ.length = H.length
  blk : ∀ b p, σ[b]? = some p → BR C σ w p (hget H b)
  mine : ∀ b p c o, σ[b]? = some p → (hget H b).live = true → p.at_ = some (c, o) → c < w.heap.size ∧ ((hget H b).own = true → w0.heap.size ≤ c ∨ F c) ∧ (w0.heap.size ≤ c ∨ F c ∨ G c)
  apart : ∀ b p b' p' c o c' o', b ≠ b' → (hget H b).own = true → (hget H b').live = true → σ[b]? = some p → σ[b']? = some p' → p.at_ = some (c, o) → p'.at_ = some (c', o') → c ≠ c'
  gl : Gl C F w0

theorem hget_len : ∀ {H : Heap} {b : Nat}, (hget H b).live = true → b < H.length
  | [], _, h => by simp [hget, Blk.live] at h
  | _ :: _, 0, _ => by simp
  | _ :: r, b + 1, h => by
    have := hget_len (H := r) (b := b) h
    simp only [List.length_cons]; omega
theorem hget_set : ∀ {H : Heap} {b : Nat} {y : Blk}, b < H.length → ∀ i, hget (hset H b y) i = if b = i then y else hget H i
  | x :: r, 0, y, _, 0 => rfl
  | x :: r, 0, y, _, i + 1 => by simp [hset, hget]
  | x :: r, b + 1, y, h, 0 => by simp [hset, hget]
  | x :: r, b + 1, y, h, i + 1 => by
    simp only [hset, hget]
    rw [hget_set (Nat.lt_of_succ_lt_succ h) i]
    by_cases e : b = i <;> simp [e]
theorem hset_len : ∀ (H : Heap) (b : Nat) (y : Blk), (hset H b y).length = H.length
  | [], _, _ => rfl
  | _ :: _, 0, _ => rfl
  | _ :: r, b + 1, y => by simp [hset, hset_len r b y]
theorem hget_app : ∀ (H : Heap) (q : Heap) (i : Nat), hget (H ++ q) i = if i < H.length then hget H i else hget q (i - H.length)
  | [], q, i => by simp
  | x :: r, q, 0 => by simp [hget]
  | x :: r, q, i + 1 => by
    simp only [List.cons_append, hget, hget_app r q i, List.length_cons]
    by_cases e : i < r.length
    · rw [if_pos e, if_pos (by omega)]
    · rw [if_neg e, if_neg (by omega)]
      congr 1; omega

/-! ### Types -/
def flat0 : AVal → List Value
  | .bool b => [.bool b]
  | .int k n => [.int k n]
  | .str l => [.string (mk l)]
  | .err .nil => [.nilIface]
  | .nils => [.slice none 0 0]
  | .nilp => [.pointer none]
  | .nilfn => [.nilFunc]
  | .pair a r => flat0 a ++ flat0 r
  | .agg p => flat0 p
  | .arr _ s => s.cells
  | _ => []
def packV : AVal → Value
  | .agg p => .agg (flat0 p).toArray
  | .arr _ s => .agg s.cells.toArray
  | .bool b => .bool b
  | .int k n => .int k n
  | .str l => .string (mk l)
  | .err _ => .nilIface
  | .nils => .slice none 0 0
  | .nilp => .pointer none
  | .nilfn => .nilFunc
  | _ => undef
/-- A type's zero value, size and bytes, as one closed fact. -/
def infoB (P : Program) (t : Nat) (z : Value) (sz bytes : Nat) : Prop := (P.info? t).map (fun i => (i.zero, i.size, i.bytes)) = some (some z, sz, bytes)
theorem infoB.get {P : Program} {t : Nat} {z : Value} {sz bytes : Nat} (h : infoB P t z sz bytes) : ∃ i, P.info? t = some i ∧ i.zero = some z ∧ i.size = sz ∧ i.bytes = bytes := by
  unfold infoB at h
  cases hq : P.info? t with
  | none => rw [hq] at h; cases h
  | some i =>
    rw [hq] at h
    simp only [Option.map_some, Option.some.injEq, Prod.mk.injEq] at h
    exact ⟨i, rfl, h.1, h.2.1, h.2.2⟩
def offsOk (tt : Tab) : Nat → List (Nat × Nat) → Bool
  | _, [] => true
  | a, (t, o) :: r => Nat.beq o a && offsOk tt (a + szT tt t) r
def sumSz (tt : Tab) : List Nat → Nat
  | [] => 0
  | t :: r => szT tt t + sumSz tt r
def EqOk (P : Program) (t : Nat) : Prop := P.eqGuardType P.depth t = false ∧ P.stoodInHeld t = false ∧ (P.fieldsOf t).toList.all (fun f => f.name != "_") = true
def KOk (P : Program) (tt : Tab) (t sz : Nat) (eq : Bool) : TK → Prop
  | .int k => P.underlying t = some (.int k) ∧ sz = 1
  | .str => P.underlying t = some .string ∧ sz = 1
  | .bool => P.underlying t = some .bool ∧ sz = 1
  | .err => (∃ ms, P.underlying t = some (.interface ms)) ∧ sz = 1
  | .slice e => P.underlying t = some (.slice e) ∧ sz = 1
  | .arr n e => P.underlying t = some (.array n e) ∧ sz = n * szT tt e ∧ (eq = true → EqOk P t) ∧ n < maxL
  | .struct fs => (∃ fields, P.underlying t = some (.struct fields) ∧ fields.toList.map (fun f => (f.type, f.offset)) = fs) ∧ offsOk tt 0 fs = true ∧ sz = sumSz tt (fs.map (·.1)) ∧ (eq = true → EqOk P t)
  | .ptr e => P.underlying t = some (.pointer e) ∧ sz = 1
  | .fn => (∃ a b c, P.underlying t = some (.func a b c)) ∧ sz = 1
def TeOk (P : Program) (tt : Tab) (t : Nat) (te : TE) : Prop :=
  ((match zeroA tt depth t with
    | some v => infoB P t (packV v) te.sz te.bt
    | none => False) ∧ te.bt ≤ 65536) ∧ KOk P tt t te.sz te.eq te.k
def TabOk (P : Program) (tt : Tab) : Prop := ∀ t te, tlk tt t = some te → TeOk P tt t te

def AllT (P : Program) (tt : Tab) : Tab → Prop
  | [] => True
  | (t, te) :: r => TeOk P tt t te ∧ AllT P tt r
theorem TabOk.of {P : Program} {tt : Tab} (h : AllT P tt tt) : TabOk P tt := by
  have key : ∀ l : Tab, AllT P tt l → ∀ t te, tlk l t = some te → TeOk P tt t te := by
    intro l
    induction l with
    | nil => intro _ t te h; cases h
    | cons p r ih =>
      obtain ⟨j, v⟩ := p
      intro ha t te ht
      change (match Nat.beq j t with | true => some v | false => tlk r t) = some te at ht
      cases hb : Nat.beq j t with
      | true => rw [hb] at ht; cases ht; rw [← Nat.eq_of_beq_eq_true hb]; exact ha.1
      | false => rw [hb] at ht; exact ih ha.2 t te ht
  exact key tt h

theorem kindEq_spec {a b : IntKind} (h : kindEq a b = true) : a = b := by cases a <;> cases b <;> first | rfl | cases h
theorem kindEq_refl (a : IntKind) : kindEq a a = true := by cases a <;> rfl

theorem Sq.cells_len (s : Sq) : s.cells.length = s.len * s.esz := by
  cases s with
  | tok l =>
    simp only [Sq.cells, Sq.len, Sq.esz]
    induction l with
    | nil => rfl
    | cons t r ih => rw [List.flatMap_cons, List.length_append, ih, List.length_cons]; simp [encTk]; omega
  | _ => simp [Sq.cells, Sq.len, Sq.esz]
end Go.Proofs.YtaakccdfgejgpaaGreatDoor.Abs
