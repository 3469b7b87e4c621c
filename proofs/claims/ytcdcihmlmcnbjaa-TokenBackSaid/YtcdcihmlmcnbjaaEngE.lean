/-
  The small calculus, fifth part: memory of the call's own, as a list of blocks.
-/
import Derived.Test.YtcdcihmlmcnbjaaEngD
import Derived.ChangeKeysEq
namespace Go.Proofs.Ytcdcihmlmcnbjaa.Eng
open Go Go.RowKit
set_option linter.unusedVariables false

abbrev Blk := Nat × List Value × Nat × (Nat × Nat)

/-- w is w0 with blocks of the call's own; of those in the list it is known what they hold. -/
structure Mem (w0 w : World) (m : List Blk) : Prop where
  bl : Bl w0 w
  own : ∀ e ∈ m, w0.heap.size ≤ e.1 ∧ w.heap[e.1]? = some (.cells e.2.1.toArray e.2.2.1 e.2.2.2)
  nd : m.Pairwise (fun x y => x.1 ≠ y.1)

theorem Mem.refl (w : World) : Mem w w [] := ⟨Bl.refl w, fun _ h => (by cases h), .nil⟩
theorem Mem.lt {w0 w : World} {m : List Blk} (h : Mem w0 w m) {e : Blk} (he : e ∈ m) : e.1 < w.heap.size :=
  (Array.getElem?_eq_some_iff.1 (h.own e he).2).1
theorem Mem.call {w0 w w1 : World} {m : List Blk} (h : Mem w0 w m) (hb : Bl w w1) : Mem w0 w1 m :=
  ⟨thn h.bl hb, fun e he => ⟨(h.own e he).1, (hb.block _ (h.lt he)).trans (h.own e he).2⟩, h.nd⟩
theorem Mem.drop {w0 w : World} {m m' : List Blk} (h : Mem w0 w m) (hs : m'.Sublist m) : Mem w0 w m' :=
  ⟨h.bl, fun e he => h.own e (hs.subset he), h.nd.sublist hs⟩
theorem Mem.alloc {w0 w : World} {m : List Blk} (h : Mem w0 w m) (cl : List Value) (T : Nat) : Mem w0 (w.alloc (.cells cl.toArray T)) ((w.heap.size, cl, T, (0, 0)) :: m) := by
  have hold : ∀ k, k < w.heap.size → (w.alloc (.cells cl.toArray T)).heap[k]? = w.heap[k]? := fun k hk => by
    rw [show (w.alloc (.cells cl.toArray T)).heap = w.heap.push (.cells cl.toArray T) from rfl, Array.getElem?_push, if_neg (Nat.ne_of_lt hk)]
  refine ⟨⟨h.bl.os, h.bl.tape, h.bl.output, ?_, fun k hk => (hold k (Nat.lt_of_lt_of_le hk h.bl.size)).trans (h.bl.block k hk)⟩, ?_, ?_⟩
  · have := h.bl.size
    rw [show (w.alloc (.cells cl.toArray T)).heap = w.heap.push (.cells cl.toArray T) from rfl, Array.size_push]; omega
  · intro e he
    rcases List.mem_cons.1 he with rfl | he
    · refine ⟨h.bl.size, ?_⟩
      rw [show (w.alloc (.cells cl.toArray T)).heap = w.heap.push (.cells cl.toArray T) from rfl, Array.getElem?_push, if_pos rfl]
    · exact ⟨(h.own e he).1, (hold _ (h.lt he)).trans (h.own e he).2⟩
  · refine List.pairwise_cons.2 ⟨fun e he => ?_, h.nd⟩
    have := h.lt he
    simp only
    omega

theorem Mem.cell {w0 w : World} {m : List Blk} (h : Mem w0 w m) {i b T : Nat} {fz : Nat × Nat} {cl : List Value} (hi : m[i]? = some (b, cl, T, fz)) (j : Nat) : w.cell? ⟨b, j, none⟩ = cl[j]? := by
  have := (h.own _ (List.mem_of_getElem? hi)).2
  simp only at this
  simp [World.cell?, this]

theorem pw_set {m : List Blk} {i : Nat} {e e' : Blk} (hi : m[i]? = some e) (hb : e'.1 = e.1) (h : m.Pairwise (fun x y => x.1 ≠ y.1)) : (m.set i e').Pairwise (fun x y => x.1 ≠ y.1) := by
  induction m generalizing i with
  | nil => cases hi
  | cons x r ih =>
    obtain ⟨h1, h2⟩ := List.pairwise_cons.1 h
    cases i with
    | zero =>
      simp only [List.getElem?_cons_zero, Option.some.injEq] at hi
      subst hi
      simp only [List.set_cons_zero]
      exact List.pairwise_cons.2 ⟨fun y hy => by rw [hb]; exact h1 y hy, h2⟩
    | succ i =>
      simp only [List.getElem?_cons_succ] at hi
      simp only [List.set_cons_succ]
      refine List.pairwise_cons.2 ⟨fun y hy => ?_, ih hi h2⟩
      rcases List.mem_or_eq_of_mem_set hy with hy | rfl
      · exact h1 y hy
      · rw [hb]; exact h1 e (List.mem_of_getElem? hi)

theorem Mem.setCell {w0 w : World} {m : List Blk} (h : Mem w0 w m) {i b T : Nat} {fz : Nat × Nat} {cl : List Value} (hi : m[i]? = some (b, cl, T, fz)) (j : Nat) (v : Value) : Mem w0 (w.setCell ⟨b, j, none⟩ v) (m.set i (b, cl.set j v, T, fz)) := by
  have hmem := List.mem_of_getElem? hi
  have hlt : i < m.length := (List.getElem?_eq_some_iff.1 hi).1
  have he := (h.own _ hmem)
  have hother : ∀ k, k ≠ b → (w.setCell ⟨b, j, none⟩ v).heap[k]? = w.heap[k]? := fun k hk => by
    simp only [World.setCell]
    rw [Array.getElem?_modify, if_neg (fun e => hk e.symm)]
  have hself : (w.setCell ⟨b, j, none⟩ v).heap[b]? = some (.cells (cl.set j v).toArray T fz) := by
    simp only [World.setCell]
    rw [Array.getElem?_modify, if_pos rfl, he.2]
    simp
  refine ⟨⟨h.bl.os, h.bl.tape, h.bl.output, ?_, fun k hk => ?_⟩, ?_, pw_set hi rfl h.nd⟩
  · have := h.bl.size
    simpa [World.setCell] using this
  · have := he.1
    exact (hother k (by omega)).trans (h.bl.block k hk)
  · intro e hem
    obtain ⟨q, hq⟩ := List.getElem?_of_mem hem
    by_cases hqi : q = i
    · subst hqi
      rw [List.getElem?_set_self hlt] at hq
      cases hq
      exact ⟨he.1, hself⟩
    · rw [List.getElem?_set_ne (fun e => hqi e.symm)] at hq
      have ho := h.own e (List.mem_of_getElem? hq)
      refine ⟨ho.1, (hother _ ?_).trans ho.2⟩
      have hp := List.pairwise_iff_getElem.1 h.nd
      have hql : q < m.length := (List.getElem?_eq_some_iff.1 hq).1
      have eq1 : m[q] = e := (List.getElem?_eq_some_iff.1 hq).2
      have eq2 : m[i] = (b, cl, T, fz) := (List.getElem?_eq_some_iff.1 hi).2
      rcases Nat.lt_or_gt_of_ne hqi with hl | hl
      · have := hp q i hql hlt hl
        rw [eq1, eq2] at this
        exact this
      · have := hp i q hlt hql hl
        rw [eq1, eq2] at this
        exact fun e => this e.symm

def _root_.Go.Value.one1 : Value → Bool
  | .agg _ | .tuple _ => false
  | _ => true

theorem Mem.freeze {w0 w : World} {m : List Blk} (h : Mem w0 w m) {i b T : Nat} {fz : Nat × Nat} {cl : List Value} (hi : m[i]? = some (b, cl, T, fz)) {w' : World} (hos : w'.os = w.os) (htape : w'.tape = w.tape) (hout : w'.output = w.output) (hsz : w'.heap.size = w.heap.size)
    (hother : ∀ k, k ≠ b → w'.heap[k]? = w.heap[k]?) (cl' : List Value) (fz' : Nat × Nat) (hself : w'.heap[b]? = some (.cells cl'.toArray T fz')) : Mem w0 w' (m.set i (b, cl', T, fz')) := by
  have hmem := List.mem_of_getElem? hi
  have hlt : i < m.length := (List.getElem?_eq_some_iff.1 hi).1
  have he := (h.own _ hmem)
  refine ⟨⟨hos.trans h.bl.os, htape.trans h.bl.tape, hout.trans h.bl.output, by rw [hsz]; exact h.bl.size, fun k hk => ?_⟩, ?_, pw_set hi rfl h.nd⟩
  · have := he.1
    exact (hother k (by simp only at this; omega)).trans (h.bl.block k hk)
  · intro e hem
    obtain ⟨q, hq⟩ := List.getElem?_of_mem hem
    by_cases hqi : q = i
    · subst hqi
      rw [List.getElem?_set_self hlt] at hq
      cases hq
      exact ⟨he.1, hself⟩
    · rw [List.getElem?_set_ne (fun e => hqi e.symm)] at hq
      have ho := h.own e (List.mem_of_getElem? hq)
      refine ⟨ho.1, (hother _ ?_).trans ho.2⟩
      have hp := List.pairwise_iff_getElem.1 h.nd
      have hql : q < m.length := (List.getElem?_eq_some_iff.1 hq).1
      have eq1 : m[q] = e := (List.getElem?_eq_some_iff.1 hq).2
      have eq2 : m[i] = (b, cl, T, fz) := (List.getElem?_eq_some_iff.1 hi).2
      rcases Nat.lt_or_gt_of_ne hqi with hl | hl
      · have := hp q i hql hlt hl
        rw [eq1, eq2] at this
        exact this
      · have := hp i q hlt hql hl
        rw [eq1, eq2] at this
        exact fun e => this e.symm

/-- So many cells put into a row, from a place on. -/
def splice (cl : List Value) (off : Nat) : List Value → List Value
  | [] => cl
  | v :: r => splice (cl.set off v) (off + 1) r

theorem splice_at : ∀ (vs a b c : List Value) (off : Nat), vs.length = b.length → a.length = off → splice (a ++ (b ++ c)) off vs = a ++ (vs ++ c)
  | [], a, b, c, off, h, _ => by
    have : b = [] := List.length_eq_zero_iff.1 h.symm
    subst this; rfl
  | v :: r, a, b, c, off, h, ho => by
    match b, h with
    | x :: b, h =>
      subst ho
      simp only [splice]
      have e : (a ++ (x :: b ++ c)).set a.length v = (a ++ [v]) ++ (b ++ c) := by simp
      rw [e, splice_at r (a ++ [v]) b c (a.length + 1) (by simpa using h) (by simp)]
      simp
theorem splice_all (vs cl : List Value) (h : vs.length = cl.length) : splice cl 0 vs = vs := by
  have := splice_at vs [] cl [] 0 h rfl
  simpa using this

theorem splice_length : ∀ (vs cl : List Value) (off : Nat), (splice cl off vs).length = cl.length
  | [], _, _ => rfl
  | v :: r, cl, off => by rw [splice, splice_length r]; simp

section
variable {P : Program} {Q : Exit → Act → World → Prop} {n : Nat} {ds : List Deferred} {fr : Fr} {w w0 : World} {tt : List (Nat × TK)} {ops : List Oper} {m : List Blk}

theorem run_store_own (h : Mem w0 w m) {i b T : Nat} {cl : List Value} (hi : m[i]? = some (b, cl, T, (0, 0))) (j : Nat) (hj : j < cl.length) (v : Value) (hv : v.one1 = true) (md : Mode) : (store ⟨b, j, none⟩ v md).run P w = .ok () (w.setCell ⟨b, j, none⟩ v) := by
  have hc : w.cell? ⟨b, j, none⟩ = some cl[j] := by rw [h.cell hi]; simp [hj]
  have hf : w.frozen? ⟨b, j, none⟩ = false := by
    have := (h.own _ (List.mem_of_getElem? hi)).2
    simp only at this
    simp [World.frozen?, this]
  cases v <;> simp [store, Sem.run, hc, hf] <;> cases hv

theorem addr_add (b off j : Nat) : (⟨b, off, none⟩ : Addr).add j = ⟨b, off + j, none⟩ := by
  unfold Addr.add; split <;> simp_all

theorem run_storeCells_own : ∀ (vs : List Value) (k : Nat) {w : World} {m : List Blk} (h : Mem w0 w m) {i b T : Nat} {cl : List Value} (hi : m[i]? = some (b, cl, T, (0, 0))) (off : Nat), off + k + vs.length ≤ cl.length → (∀ v ∈ vs, v.one1 = true) →
    ∃ w', (storeCells ⟨b, off, none⟩ vs k).run P w = .ok () w' ∧ Mem w0 w' (m.set i (b, splice cl (off + k) vs, T, (0, 0)))
  | [], k, w, m, h, i, b, T, cl, hi, off, _, _ => ⟨w, rfl, by
      have hlt : i < m.length := (List.getElem?_eq_some_iff.1 hi).1
      have : m.set i (b, cl, T, (0, 0)) = m := by
        have e := (List.getElem?_eq_some_iff.1 hi).2
        rw [← e, List.set_getElem_self]
      rw [splice, this]; exact h⟩
  | v :: r, k, w, m, h, i, b, T, cl, hi, off, hlen, hone => by
    simp only [List.length_cons] at hlen
    have h1 := run_store_own (P := P) h hi (off + k) (by omega) v (hone v (by simp)) .plain
    have hlt : i < m.length := (List.getElem?_eq_some_iff.1 hi).1
    obtain ⟨w', h2, h3⟩ := run_storeCells_own r (k + 1) (h.setCell hi (off + k) v) (i := i) (b := b) (T := T) (cl := cl.set (off + k) v) (by rw [List.getElem?_set_self hlt]) off (by simp; omega) (fun u hu => hone u (by simp [hu]))
    refine ⟨w', ?_, ?_⟩
    · simp only [storeCells, addr_add, Sem.run_bind, h1, Result.andThen_ok]
      exact h2
    · rw [List.set_set] at h3
      exact h3

theorem run_info {t : Nat} {i : TypeInfo} (h : P.info? t = some i) (w : World) : (typeInfo t).run P w = .ok i w := by simp [typeInfo, program, Sem.run, h]

/-- A type's zero value and size, as one closed fact. -/
def infoIs (P : Program) (t : Nat) (z : Value) (sz : Nat) : Prop := (P.info? t).map (fun i => (i.zero, i.size)) = some (some z, sz)
theorem infoIs.run {t : Nat} {z : Value} {sz : Nat} (h : infoIs P t z sz) (w : World) : (zeroValue t).run P w = .ok z w ∧ (sizeOf t).run P w = .ok sz w := by
  unfold infoIs at h
  cases hq : P.info? t with
  | none => rw [hq] at h; cases h
  | some i =>
    rw [hq] at h
    simp only [Option.map_some, Option.some.injEq, Prod.mk.injEq] at h
    simp [zeroValue, sizeOf, run_info hq, h.1, h.2]

theorem St.alloc (hm : Mem w0 w m) {o : Oper} {T : Nat} (hop : o.op = .alloc T) {cl : List Value} {z : Value} {sz : Nat} (hi : infoIs P T z sz) (hz : z.cells = cl.toArray) :
    St P Q n ds fr w o (fun u w' => ∃ b, u = .pointer (some ⟨b, 0, none⟩) ∧ Mem w0 w' ((b, cl, T, (0, 0)) :: m)) := by
  intro a _
  have : (execOp a.eval o).run P w = .ok (.value (.pointer (some ⟨w.heap.size, 0, none⟩))) (w.alloc (.cells cl.toArray T)) := by
    unfold execOp
    simp [hop, Instr.alloc, (hi.run w).1, newVar, newRow, newObj, Sem.run, hz]
  unfold Oper.wp
  rw [this, Oper.upon_value]
  exact ⟨_, rfl, _, rfl, hm.alloc cl T⟩

theorem St.box (hm : Mem w0 w m) {o : Oper} {T : Nat} {x : Operand} {v : Value} (hop : o.op = .box T x) (hx : ev fr x = some v) (cl : List Value) (hv : v.cells = cl.toArray) :
    St P Q n ds fr w o (fun u w' => ∃ b, u = .pointer (some ⟨b, 0, none⟩) ∧ Mem w0 w' ((b, cl, T, (0, 0)) :: m)) := by
  intro a hr
  have : (execOp a.eval o).run P w = .ok (.value (.pointer (some ⟨w.heap.size, 0, none⟩))) (w.alloc (.cells cl.toArray T)) := by
    unfold execOp
    simp [hop, hr.eval hx, Instr.box, newVar, newRow, newObj, Sem.run, hv]
  unfold Oper.wp
  rw [this, Oper.upon_value]
  exact ⟨_, rfl, _, rfl, hm.alloc cl T⟩

/-- Into cells of a block of the call's own. -/
theorem St.store (hm : Mem w0 w m) {o : Oper} {t : Nat} {x y : Operand} (hop : o.op = .store t x y) {i b off T : Nat} {cl : List Value} {v : Value} (hx : ev fr x = some (.pointer (some ⟨b, off, none⟩))) (hy : ev fr y = some v) (hi : m[i]? = some (b, cl, T, (0, 0)))
    {z : Value} {sz : Nat} (hinf : infoIs P t z sz) (vs : List Value) (hv : v.cells = vs.toArray) (hlen : vs.length = sz) (hone : vs.all (·.one1) = true) (hoff : off + sz ≤ cl.length) (m' : List Blk) (hm' : m.set i (b, splice cl off vs, T, (0, 0)) = m') :
    St P Q n ds fr w o (fun _ w' => Mem w0 w' m') := by
  intro a hr
  obtain ⟨w', h1, h2⟩ := run_storeCells_own (P := P) vs 0 hm hi off (by omega) (fun u hu => (List.all_eq_true.1 hone) u hu)
  have hs : vs.toArray.size = sz := by simpa using hlen
  have : (execOp a.eval o).run P w = .ok .skip w' := by
    unfold execOp
    simp [hop, hr.eval hx, hr.eval hy, Instr.storeAt, Instr.sureAddr, storeVar, (hinf.run w).2, hv, hs, h1]
  unfold Oper.wp
  rw [this, Oper.upon_skip]
  refine ⟨_, rfl, ?_⟩
  rw [← hm']
  exact h2

def plainK : TK → Bool
  | .struct _ => false
  | .arr _ _ => false
  | _ => true

theorem plainK_agg (ht : Tok P tt) {t : Nat} {k : TK} (hk : tlook tt t = some k) (hp : plainK k = true) (w : World) : (isAgg t).run P w = .ok false w := by
  have := ht _ _ hk
  cases k
  case struct => cases hp
  case arr => cases hp
  case err => obtain ⟨ms, hu⟩ := this; simp [isAgg, run_underlying hu]
  case fn => obtain ⟨_, _, _, hu⟩ := this; simp [isAgg, run_underlying hu]
  all_goals (simp only [TK.ok] at this; simp [isAgg, run_underlying this])

theorem aggK_agg (ht : Tok P tt) {t : Nat} {k : TK} (hk : tlook tt t = some k) (hp : plainK k = false) (w : World) : (isAgg t).run P w = .ok true w := by
  have := ht _ _ hk
  cases k
  case struct => obtain ⟨fs, hu⟩ := this; simp [isAgg, run_underlying hu]
  case arr => simp only [TK.ok] at this; simp [isAgg, run_underlying this]
  all_goals cases hp

/-- One cell. -/
theorem St.load_cell (ht : Tok P tt) {o : Oper} {t : Nat} {x : Operand} (hop : o.op = .load t x) {k : TK} (hk : tlook tt t = some k) (hp : plainK k = true) {p : Addr} {v : Value} (hx : ev fr x = some (.pointer (some p))) (hc : w.cell? p = some v) :
    St P Q n ds fr w o (fun u w' => u = v ∧ w = w') := by
  refine St.val fun a hr => ?_
  unfold execOp
  simp [hop, hr.eval hx, Instr.loadAt, Instr.sureAddr, loadVar, plainK_agg ht hk hp, load, Sem.run, hc]

theorem St.load_own (ht : Tok P tt) (hm : Mem w0 w m) {o : Oper} {t : Nat} {x : Operand} (hop : o.op = .load t x) {k : TK} (hk : tlook tt t = some k) (hp : plainK k = true) {i b off T : Nat} {fz : Nat × Nat} {cl : List Value} (hx : ev fr x = some (.pointer (some ⟨b, off, none⟩)))
    (hi : m[i]? = some (b, cl, T, fz)) (v : Value) (hv : cl[off]? = some v) : St P Q n ds fr w o (fun u w' => u = v ∧ w = w') :=
  St.load_cell ht hop hk hp hx ((hm.cell hi off).trans hv)

theorem run_loadCells_own (hm : Mem w0 w m) {i b off T : Nat} {fz : Nat × Nat} {cl : List Value} (hi : m[i]? = some (b, cl, T, fz)) (vs : List Value) (hv : (cl.drop off).take vs.length = vs) : (loadCells ⟨b, off, none⟩ vs.length).run P w = .ok vs.toArray w := by
  refine run_loadCells_list (P := P) w ⟨b, off, none⟩ vs (fun j v hj => ?_)
  rw [addr_add, hm.cell hi, ← hj]
  have hlt : j < vs.length := (List.getElem?_eq_some_iff.1 hj).1
  conv => rhs; rw [← hv]
  rw [List.getElem?_take_of_lt hlt, List.getElem?_drop]

/-- Several cells as one value. -/
theorem St.load_agg (ht : Tok P tt) (hm : Mem w0 w m) {o : Oper} {t : Nat} {x : Operand} (hop : o.op = .load t x) {k : TK} (hk : tlook tt t = some k) (hp : plainK k = false) {i b off T : Nat} {fz : Nat × Nat} {cl : List Value} (hx : ev fr x = some (.pointer (some ⟨b, off, none⟩)))
    (hi : m[i]? = some (b, cl, T, fz)) {z : Value} {sz : Nat} (hinf : infoIs P t z sz) (vs : List Value) (hlen : vs.length = sz) (hv : (cl.drop off).take vs.length = vs) : St P Q n ds fr w o (fun u w' => u = .agg vs.toArray ∧ w = w') := by
  refine St.val fun a hr => ?_
  have hl := run_loadCells_own (P := P) hm hi vs hv
  rw [hlen] at hl
  unfold execOp
  simp [hop, hr.eval hx, Instr.loadAt, Instr.sureAddr, loadVar, aggK_agg ht hk hp, (hinf.run w).2, hl]

/-! ### Results that lie in memory -/
/-- What a result is: a slot's value, or what a block holds. -/
def resIs (P : Program) (tt : List (Nat × TK)) (fr : Fr) (m : List Blk) : ResultVar → Value → Prop
  | .tmp t, v => look fr t = some v
  | .cell t ty, v => ∃ (i b T : Nat) (fz : Nat × Nat) (cl : List Value) (k : TK), look fr t = some (.pointer (some ⟨b, 0, none⟩)) ∧ m[i]? = some (b, cl, T, fz) ∧ tlook tt ty = some k ∧
      ((plainK k = true ∧ cl[0]? = some v) ∨ (plainK k = false ∧ v = .agg cl.toArray ∧ ∃ z, infoIs P ty z cl.length))

theorem resIs.run (ht : Tok P tt) (hm : Mem w0 w m) {a : Act} (hr : Rep n ds fr a) {r : ResultVar} {v : Value} (h : resIs P tt fr m r v) :
    (match r with | .tmp t => (pure (a.tmps.getD t undef) : Sem Value) | .cell t ty => do loadVar ty (← asAddr (a.tmps.getD t undef))).run P w = .ok v w := by
  cases r with
  | tmp t =>
    have := hr.vals t v h
    simp [this]
  | cell t ty =>
    obtain ⟨i, b, T, fz, cl, k, h1, h2, h3, h4⟩ := h
    have h1' := hr.vals t _ h1
    rcases h4 with ⟨h4, h5⟩ | ⟨h4, rfl, z, h5⟩
    · have hc : w.cell? ⟨b, 0, none⟩ = some v := (hm.cell h2 0).trans h5
      simp [h1', asAddr, loadVar, plainK_agg ht h3 h4, load, Sem.run, hc]
    · have hl := run_loadCells_own (P := P) hm (off := 0) h2 cl (by simp)
      simp [h1', asAddr, loadVar, aggK_agg ht h3 h4, (h5.run w).2, hl]

def resAll (P : Program) (tt : List (Nat × TK)) (fr : Fr) (m : List Blk) : List ResultVar → List Value → Prop
  | [], [] => True
  | r :: rs, v :: vs => resIs P tt fr m r v ∧ resAll P tt fr m rs vs
  | _, _ => False

def resGet (tmps : Array Value) : ResultVar → Sem Value
  | .tmp t => pure (tmps.getD t undef)
  | .cell a t => do loadVar t (← asAddr (tmps.getD a undef))

theorem results_mix {fn : Func} (ht : Tok P tt) (hm : Mem w0 w m) {a : Act} (hr : Rep n ds fr a) (rs : List ResultVar) (vs : List Value) (hres : fn.results = rs.toArray) (hl : rs.length ≤ 3) (h : resAll P tt fr m rs vs) : (results fn a.tmps).run P w = .ok (tupleOf vs) w := by
  have e : ∀ (r : ResultVar) (v : Value), resIs P tt fr m r v → (resGet a.tmps r).run P w = .ok v w := fun r v hv => by
    have := hv.run ht hm hr
    cases r <;> exact this
  have hdef : results fn a.tmps = (do
      let vs ← fn.results.mapM (resGet a.tmps)
      pure (if h : vs.size = 1 then vs[0] else .tuple vs)) := by
    unfold results
    congr 1
  rw [hdef, hres]
  match rs, vs, h, hl with
  | [], [], _, _ => simp [tupleOf]
  | [r1], [v1], ⟨h1, _⟩, _ => simp [tupleOf, e r1 v1 h1]
  | [r1, r2], [v1, v2], ⟨h1, h2, _⟩, _ => simp [tupleOf, e r1 v1 h1, e r2 v2 h2]
  | [r1, r2, r3], [v1, v2, v3], ⟨h1, h2, h3, _⟩, _ => simp [tupleOf, e r1 v1 h1, e r2 v2 h2, e r3 v3 h3]
  | _ :: _ :: _ :: _ :: _, _, _, hl => simp at hl

theorem QF.retM {fn : Func} {R : Ending → World → Prop} (ht : Tok P tt) (hm : Mem w0 w m) (rs : List ResultVar) (vs : List Value) (hl : Nat.ble rs.length 3 = true) (hres : fn.results = rs.toArray) (h : resAll P tt fr m rs vs) (hR : R (.returned (tupleOf vs)) w) : QF (bodyPost P fn R) n [] .ret fr w :=
  fun _ hr => ⟨hr.dfs, _, results_mix ht hm hr rs vs hres (Nat.le_of_ble_eq_true hl) h, hR⟩
theorem QF.fallM {fn : Func} {R : Ending → World → Prop} (ht : Tok P tt) (hm : Mem w0 w m) (rs : List ResultVar) (vs : List Value) (hl : Nat.ble rs.length 3 = true) (hres : fn.results = rs.toArray) (h : resAll P tt fr m rs vs) (hR : R (.returned (tupleOf vs)) w) : QF (bodyPost P fn R) n [] .normal fr w :=
  fun _ hr => ⟨hr.dfs, _, results_mix ht hm hr rs vs hres (Nat.le_of_ble_eq_true hl) h, hR⟩
end
end Go.Proofs.Ytcdcihmlmcnbjaa.Eng
