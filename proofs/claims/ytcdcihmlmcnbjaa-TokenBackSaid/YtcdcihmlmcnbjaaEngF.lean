/-
  The small calculus, sixth part: lists in memory that are read; strings out of bytes; arrays.
-/
import Derived.Test.YtcdcihmlmcnbjaaEngE
import Derived.Laws.BytesArg
import Derived.Laws.Tables
namespace Go.Proofs.Ytcdcihmlmcnbjaa.Eng
open Go Go.RowKit
set_option linter.unusedVariables false

/-- One cell an element. -/
abbrev Rd1 {α : Type} (w : World) (enc : α → Value) (A : Option Addr) (l : List α) : Prop := RdL w 1 (fun x => [enc x]) A l
def encB (b : UInt8) : Value := .int .u8 (b.toNat : Int)
def encI (k : IntKind) (x : Int) : Value := .int k x
def encS (l : List UInt8) : Value := .string (mk l)
def encT (b : Bool) : Value := .bool b

theorem RdL.up {α : Type} {w0 w : World} {m : List Blk} {size : Nat} {enc : α → List Value} {A : Option Addr} {l : List α} (h : RdL w0 size enc A l) (hm : Mem w0 w m) : RdL w size enc A l := h.below hm.bl
theorem Mem.rd {w0 w : World} {m : List Blk} (hm : Mem w0 w m) {p : Addr} {v : Value} (h : w0.cell? p = some v) : w.cell? p = some v :=
  (hm.bl.cell (World.block_lt_of_cell? w0 p h)).trans h

theorem Mem.rd1 {α : Type} {w0 w : World} {m : List Blk} (hm : Mem w0 w m) {i b T : Nat} {fz : Nat × Nat} {enc : α → Value} {l : List α} (hi : m[i]? = some (b, l.map enc, T, fz)) : Rd1 w enc (some ⟨b, 0, none⟩) l := by
  intro j x hx
  refine ⟨_, rfl, fun t v hv => ?_⟩
  match t, hv with
  | 0, hv =>
    cases hv
    rw [addr_add, hm.cell hi]
    simp [hx]
  | t + 1, hv => simp at hv

theorem Mem.rd1x {α : Type} {w0 w : World} {m : List Blk} (hm : Mem w0 w m) {i b T : Nat} {fz : Nat × Nat} {enc : α → Value} {l : List α} {rest : List Value} (hi : m[i]? = some (b, l.map enc ++ rest, T, fz)) : Rd1 w enc (some ⟨b, 0, none⟩) l := by
  intro j x hx
  refine ⟨_, rfl, fun t v hv => ?_⟩
  have hlt : j < l.length := (List.getElem?_eq_some_iff.1 hx).1
  match t, hv with
  | 0, hv =>
    cases hv
    rw [addr_add, hm.cell hi, List.getElem?_append_left (by simp; omega)]
    simp [hx]
  | t + 1, hv => simp at hv

section
variable {P : Program} {Q : Exit → Act → World → Prop} {n : Nat} {ds : List Deferred} {fr : Fr} {w w0 : World} {tt : List (Nat × TK)} {ops : List Oper} {m : List Blk} {α : Type}

theorem cut_length (l : List α) (a b : Int) (h0 : 0 ≤ a) (h1 : a ≤ b) (h2 : b ≤ (l.length : Int)) : (cut l a b).length = b.toNat - a.toNat := by
  simp only [cut, List.length_drop, List.length_take]
  omega

theorem St.idx1 (ht : Tok P tt) (d : α) {o : Oper} {t e : Nat} {x y : Operand} (hop : o.op = .indexAddr t x y) (hty : tlook tt t = some (.slice e)) {z : Value} (hinf : infoIs P e z 1) {enc : α → Value} {A : Option Addr} {l : List α} {c : Nat} {k : IntKind} {i : Int}
    (hx : ev fr x = some (.slice A l.length c)) (hy : ev fr y = some (.int k i)) (hr0 : Rd1 w0 enc A l) (hg : (decide (0 ≤ i) && decide (i < (l.length : Int))) = true) :
    St P Q n ds fr w o (fun u w' => ∃ p, u = .pointer (some p) ∧ w0.cell? p = some (enc (l.getD i.toNat d)) ∧ w = w') := by
  simp only [Bool.and_eq_true, decide_eq_true_eq] at hg
  have hlt : i.toNat < l.length := by omega
  have hget : l[i.toNat]? = some (l.getD i.toNat d) := by simp [List.getD_eq_getElem?_getD, hlt]
  obtain ⟨ad, rfl, hc⟩ := hr0 i.toNat _ hget
  have hcell := hc 0 _ rfl
  intro a hr
  have hu : P.underlying t = some (.slice e) := ht _ _ hty
  have : (execOp a.eval o).run P w = .ok (.value (.pointer (some (ad.add (i.toNat * 1))))) w := by
    unfold execOp
    simp [hop, hr.eval hx, hr.eval hy, Instr.indexAt, asIntOf, run_underlying hu, hg.1, hg.2, (hinf.run w).2]
  unfold Oper.wp
  rw [this, Oper.upon_value]
  exact ⟨_, rfl, _, rfl, by simpa using hcell, rfl⟩

/-- A piece of a list that is read. -/
theorem St.slice_rd (ht : Tok P tt) {o : Oper} {t e : Nat} {x : Operand} {lo hi : Option Operand} (hop : o.op = .slice t x lo hi none) (hty : tlook tt t = some (.slice e)) {z : Value} {sz : Nat} (hinf : infoIs P e z sz) {enc : α → List Value} {A : Option Addr} {l : List α} {c : Nat} {L H : Int}
    (hx : ev fr x = some (.slice A l.length c)) (hr0 : RdL w0 sz enc A l) (hc : l.length ≤ c) (hlo : bnd fr 0 lo = some L) (hhi : bnd fr (l.length : Int) hi = some H)
    (hg : (decide (0 ≤ L) && (decide (L ≤ H) && decide (H ≤ (l.length : Int)))) = true) :
    St P Q n ds fr w o (fun u w' => ∃ A' c', u = .slice A' (cut l L H).length c' ∧ RdL w0 sz enc A' (cut l L H) ∧ (cut l L H).length ≤ c' ∧ w = w') := by
  simp only [Bool.and_eq_true, decide_eq_true_eq] at hg
  have hl := cut_length l L H hg.1 hg.2.1 hg.2.2
  intro a hr
  have hu : P.underlying t = some (.slice e) := ht _ _ hty
  have hb := run_bounds_hl (P := P) (w := w) (isSlice := true) (len := l.length) (cap := c) hr hlo hhi hg.1 hg.2.1 hg.2.2 hc
  have : (execOp a.eval o).run P w = .ok (.value (.slice (if c = L.toNat then A else A.map (·.add (L.toNat * sz))) (H.toNat - L.toNat) (c - L.toNat))) w := by
    unfold execOp
    simp only [hop, hr.eval hx, Instr.sliceAt, Sem.run_bind, run_underlying hu, Result.andThen_ok, Instr.slice, Option.map_none]
    rw [hb]
    simp [(hinf.run w).2]
  unfold Oper.wp
  rw [this, Oper.upon_value]
  refine ⟨_, rfl, _, _, by rw [hl], ?_, by rw [hl]; omega, rfl⟩
  intro j y hy
  have hjl : j < (cut l L H).length := (List.getElem?_eq_some_iff.1 hy).1
  have hy' : l[L.toNat + j]? = some y := by
    unfold cut at hy
    rw [List.getElem?_drop, List.getElem?_take] at hy
    split at hy
    · exact hy
    · cases hy
  obtain ⟨ad, rfl, hcell⟩ := hr0 _ _ hy'
  have hne : ¬ c = L.toNat := by omega
  refine ⟨ad.add (L.toNat * sz), by rw [if_neg hne]; rfl, fun t v hv => ?_⟩
  have := hcell t v hv
  have hadd : (ad.add (L.toNat * sz)).add (j * sz + t) = ad.add ((L.toNat + j) * sz + t) := by
    have e : (L.toNat + j) * sz + t = L.toNat * sz + (j * sz + t) := by rw [Nat.add_mul]; omega
    rw [e]
    generalize L.toNat * sz = p
    generalize j * sz + t = q
    unfold Addr.add
    by_cases hp : p = 0
    · subst hp; simp
    · by_cases hq : q = 0
      · subst hq; simp [hp]
      · have : ¬ p + q = 0 := by omega
        simp [hp, hq, Nat.add_assoc]
  rw [hadd]
  exact this

/-- Where a piece of a list lies, known ahead of the operation. -/
def pieceAt (A : Option Addr) (c : Nat) (sz : Nat) (L : Int) : Option Addr := if c = L.toNat then A else A.map (·.add (L.toNat * sz))
theorem addr_add_add (ad : Addr) (p q : Nat) : (ad.add p).add q = ad.add (p + q) := by
  unfold Addr.add
  by_cases hp : p = 0
  · subst hp; simp
  · by_cases hq : q = 0
    · subst hq; simp [hp]
    · have : ¬ p + q = 0 := by omega
      simp [hp, hq, Nat.add_assoc]
theorem slice_known {sz : Nat} {enc : α → List Value} {A : Option Addr} {l : List α} {c : Nat} {L H : Int} (hr0 : RdL w0 sz enc A l) (hc : l.length ≤ c)
    (hg : (decide (0 ≤ L) && (decide (L ≤ H) && decide (H ≤ (l.length : Int)))) = true) : ∃ A' c', (A' = pieceAt A c sz L ∧ c' = c - L.toNat) ∧ RdL w0 sz enc A' (cut l L H) ∧ (cut l L H).length ≤ c' := by
  simp only [Bool.and_eq_true, decide_eq_true_eq] at hg
  have hl := cut_length l L H hg.1 hg.2.1 hg.2.2
  refine ⟨_, _, ⟨rfl, rfl⟩, ?_, by rw [hl]; omega⟩
  intro j y hy
  have hy' : l[L.toNat + j]? = some y := by
    unfold cut at hy
    rw [List.getElem?_drop, List.getElem?_take] at hy
    split at hy
    · exact hy
    · cases hy
  have hjl : j < (cut l L H).length := (List.getElem?_eq_some_iff.1 hy).1
  obtain ⟨ad, rfl, hcell⟩ := hr0 _ _ hy'
  have hne : ¬ c = L.toNat := by omega
  refine ⟨ad.add (L.toNat * sz), by unfold pieceAt; rw [if_neg hne]; rfl, fun t v hv => ?_⟩
  have := hcell t v hv
  rw [addr_add_add]
  have e : (L.toNat + j) * sz + t = L.toNat * sz + (j * sz + t) := by rw [Nat.add_mul]; omega
  rw [← e]
  exact this
theorem St.slice_rdK (ht : Tok P tt) {o : Oper} {t e : Nat} {x : Operand} {lo hi : Option Operand} (hop : o.op = .slice t x lo hi none) (hty : tlook tt t = some (.slice e)) {z : Value} {sz : Nat} (hinf : infoIs P e z sz) {A : Option Addr} {l : List α} {c : Nat} {L H : Int}
    (hx : ev fr x = some (.slice A l.length c)) (hc : l.length ≤ c) (hlo : bnd fr 0 lo = some L) (hhi : bnd fr (l.length : Int) hi = some H)
    (hg : (decide (0 ≤ L) && (decide (L ≤ H) && decide (H ≤ (l.length : Int)))) = true) {A' : Option Addr} {c' : Nat} (he : A' = pieceAt A c sz L ∧ c' = c - L.toNat) :
    St P Q n ds fr w o (fun u w' => u = .slice A' (cut l L H).length c' ∧ w = w') := by
  obtain ⟨rfl, rfl⟩ := he
  simp only [Bool.and_eq_true, decide_eq_true_eq] at hg
  have hl := cut_length l L H hg.1 hg.2.1 hg.2.2
  refine St.val fun a hr => ?_
  have hu : P.underlying t = some (.slice e) := ht _ _ hty
  have hb := run_bounds_hl (P := P) (w := w) (isSlice := true) (len := l.length) (cap := c) hr hlo hhi hg.1 hg.2.1 hg.2.2 hc
  unfold execOp
  simp only [hop, hr.eval hx, Instr.sliceAt, Sem.run_bind, run_underlying hu, Result.andThen_ok, Instr.slice, Option.map_none]
  rw [hb]
  simp [(hinf.run w).2, hl, pieceAt]
theorem idx_known (d : α) {enc : α → Value} {A : Option Addr} {l : List α} {i : Int} (hr0 : Rd1 w0 enc A l) (hg : (decide (0 ≤ i) && decide (i < (l.length : Int))) = true) :
    ∃ p, A.map (·.add i.toNat) = some p ∧ w0.cell? p = some (enc (l.getD i.toNat d)) := by
  simp only [Bool.and_eq_true, decide_eq_true_eq] at hg
  have hlt : i.toNat < l.length := by omega
  have hget : l[i.toNat]? = some (l.getD i.toNat d) := by simp [List.getD_eq_getElem?_getD, hlt]
  obtain ⟨ad, rfl, hc⟩ := hr0 i.toNat _ hget
  have hcell := hc 0 _ rfl
  exact ⟨_, rfl, by simpa using hcell⟩
theorem St.idx1K (ht : Tok P tt) {o : Oper} {t e : Nat} {x y : Operand} (hop : o.op = .indexAddr t x y) (hty : tlook tt t = some (.slice e)) {z : Value} (hinf : infoIs P e z 1) {A : Option Addr} {l : List α} {c : Nat} {k : IntKind} {i : Int}
    (hx : ev fr x = some (.slice A l.length c)) (hy : ev fr y = some (.int k i)) (hg : (decide (0 ≤ i) && decide (i < (l.length : Int))) = true) {p : Addr} (he : A.map (·.add i.toNat) = some p) :
    St P Q n ds fr w o (fun u w' => u = .pointer (some p) ∧ w = w') := by
  simp only [Bool.and_eq_true, decide_eq_true_eq] at hg
  refine St.val fun a hr => ?_
  have hu : P.underlying t = some (.slice e) := ht _ _ hty
  cases A with
  | none => cases he
  | some ad =>
    cases he
    unfold execOp
    simp [hop, hr.eval hx, hr.eval hy, Instr.indexAt, asIntOf, run_underlying hu, hg.1, hg.2, (hinf.run w).2]

theorem St.bytes_str (ht : Tok P tt) {o : Oper} {s d e : Nat} {x : Operand} (hop : o.op = .convert s d x) (hs : tlook tt s = some (.slice e)) (he : tlook tt e = some (.int .u8)) (hd : tlook tt d = some .str) {A : Option Addr} {l : List UInt8} {c : Nat}
    (hx : ev fr x = some (.slice A l.length c)) (hr0 : Rd1 w encB A l) : St P Q n ds fr w o (fun u w' => u = .string (mk l) ∧ w = w') := by
  refine St.val fun a hr => ?_
  have hu1 : P.underlying s = some (.slice e) := ht _ _ hs
  have hu2 : P.underlying e = some (.int .u8) := ht _ _ he
  have hu3 : P.underlying d = some .string := ht _ _ hd
  have key : (convert s d (.slice A l.length c)).run P w = .ok (.string (mk l)) w := by
    cases A with
    | none =>
      cases l with
      | nil => exact run_convert_bytes_nil w s e hu1 hu2 0 c d hu3
      | cons b r =>
        obtain ⟨ad, h, _⟩ := hr0 0 b rfl
        cases h
    | some ad =>
      refine run_convert_bytes_back w s d e ad c l hu1 hu2 hu3 (fun j hj => ?_)
      obtain ⟨ad', h, hc⟩ := hr0 j l[j] (by simp [hj])
      cases h
      have := hc 0 _ rfl
      simpa [encB] using this
  unfold execOp
  simp [hop, hr.eval hx, key]

/-- An element of an array value. -/
theorem St.index_arr (ht : Tok P tt) (d : α) {o : Oper} {t e len : Nat} {x y : Operand} (hop : o.op = .index t x y) (hty : tlook tt t = some (.arr len e)) {k : TK} (hk : tlook tt e = some k) (hp : plainK k = true) {z : Value} (hinf : infoIs P e z 1) {enc : α → Value} {l : List α} {q : IntKind} {i : Int}
    (hx : ev fr x = some (.agg (l.map enc).toArray)) (hy : ev fr y = some (.int q i)) (hlen : l.length = len) (hg : (decide (0 ≤ i) && decide (i < (l.length : Int))) = true) :
    St P Q n ds fr w o (fun u w' => u = enc (l.getD i.toNat d) ∧ w = w') := by
  refine St.val fun a hr => ?_
  simp only [Bool.and_eq_true, decide_eq_true_eq] at hg
  have hu : P.underlying t = some (.array len e) := ht _ _ hty
  have hlt : i.toNat < l.length := by omega
  have hgl : i < (len : Int) := by omega
  have hpart : (part e (l.map enc).toArray i.toNat).run P w = .ok (enc (l.getD i.toNat d)) w := by
    have hag := plainK_agg ht hk hp w
    simp [part, hag, hlt, List.getD_eq_getElem?_getD]
  unfold execOp
  simp [hop, hr.eval hx, hr.eval hy, Instr.index, asIntOf, run_underlying hu, hg.1, hgl, (hinf.run w).2, hpart]

/-- '[]byte' of a string: a new row, perhaps with room behind it. -/
theorem St.str_bytes (ht : Tok P tt) (hm : Mem w0 w m) {o : Oper} {t s e : Nat} {x : Operand} (hop : o.op = .convert s t x) (hs : tlook tt s = some .str) (hty : tlook tt t = some (.slice e)) (he : tlook tt e = some (.int .u8)) {l : List UInt8} (hx : ev fr x = some (.string (mk l))) :
    St P Q n ds fr w o (fun u w' => ∃ b c tl, u = .slice (some ⟨b, 0, none⟩) l.length c ∧ l.length ≤ c ∧ Mem w0 w' ((b, l.map encB ++ tl, e, (c, c + 1)) :: m)) := by
  intro a hr
  have hu0 : P.underlying s = some .string := ht _ _ hs
  have hu1 : P.underlying t = some (.slice e) := ht _ _ hty
  have hu2 : P.underlying e = some (.int .u8) := ht _ _ he
  let q : Question := .appendCap l.length 0 e
  let c := q.cut (w.tape w.drawn q)
  let tl : List Value := List.replicate (c - l.length) (.int .u8 0)
  have hc : l.length ≤ c := by
    show l.length ≤ l.length + _ % _
    omega
  let w1 : World := { w with drawn := w.drawn + 1 }
  let w2 : World := w1.alloc (.cells (l.map encB ++ tl).toArray e)
  have hm2 : Mem w0 w2 ((w.heap.size, l.map encB ++ tl, e, (0, 0)) :: m) := by
    have h1 : Mem w0 w1 m := ⟨⟨hm.bl.os, hm.bl.tape, hm.bl.output, hm.bl.size, hm.bl.block⟩, hm.own, hm.nd⟩
    exact h1.alloc _ _
  have hlen : (l.map encB ++ tl).length = c := by simp [tl]; omega
  have hb : w2.heap[w.heap.size]? = some (.cells (l.map encB ++ tl).toArray e (0, 0)) := (hm2.own _ (List.mem_cons_self)).2
  have hsh : w2.shape? w.heap.size = some (e, c) := by simp only [World.shape?, hb, List.size_toArray, hlen]
  have hcells : ((mk l).data.map fun b => Value.int .u8 b.toNat) ++ Array.replicate (c - (mk l).size) (.int .u8 0) = (l.map encB ++ tl).toArray := by
    apply Array.ext'
    simp [tl, encB]
    rfl
  have hconv : (Conv.stringToBytes e (mk l)).run P w = .ok (.slice (some ⟨w.heap.size, 0, none⟩) l.length c) (w2.freeze ⟨w.heap.size, c, none⟩ 1) := by
    have hq : (Question.appendCap (mk l).size 0 e).forced = false := rfl
    unfold Conv.stringToBytes
    simp only [Sem.run_bind]
    have h1 : (choose (Question.appendCap (mk l).size 0 e)).run P w = .ok c w1 := by
      simp only [choose, Sem.run, hq]
      rfl
    rw [h1]
    simp only [Result.andThen_ok]
    rw [hcells]
    have h2 : (newRow e (l.map encB ++ tl).toArray).run P w1 = .ok ⟨w.heap.size, 0, none⟩ w2 := rfl
    rw [h2]
    simp only [Result.andThen_ok]
    have h3 : (markStringish ⟨w.heap.size, 0, none⟩).run P w2 = .ok () (w2.freeze ⟨w.heap.size, c, none⟩ 1) := by
      simp [markStringish, shape, freeze, Sem.run, hsh]
    rw [h3]
    rfl
  have hrun : (execOp a.eval o).run P w = .ok (.value (.slice (some ⟨w.heap.size, 0, none⟩) l.length c)) (w2.freeze ⟨w.heap.size, c, none⟩ 1) := by
    unfold execOp
    simp [hop, hr.eval hx, convert, run_underlying hu0, run_underlying hu1, run_underlying hu2, hconv]
  unfold Oper.wp
  rw [hrun, Oper.upon_value]
  refine ⟨_, rfl, w.heap.size, c, tl, rfl, hc, ?_⟩
  have hw : ∀ k, (w2.freeze ⟨w.heap.size, c, none⟩ 1).heap[k]? = if w.heap.size = k then some (.cells (l.map encB ++ tl).toArray e (c, c + 1)) else w2.heap[k]? := by
    intro k
    unfold World.freeze
    rw [if_neg (by decide)]
    simp only
    rw [Array.getElem?_modify]
    split
    · rename_i e; subst e; rw [hb]; rfl
    · rfl
  have hsz : (w2.freeze ⟨w.heap.size, c, none⟩ 1).heap.size = w2.heap.size := by
    unfold World.freeze
    rw [if_neg (by decide)]
    simp
  have := hm2.freeze (i := 0) rfl (w' := w2.freeze ⟨w.heap.size, c, none⟩ 1) ?_ ?_ ?_ hsz (fun k hk => by rw [hw, if_neg (fun e => hk e.symm)]) (l.map encB ++ tl) (c, c + 1) (by rw [hw, if_pos rfl])
  · simpa using this
  all_goals (unfold World.freeze; rw [if_neg (by decide)])

/-- '[]byte' of a constant: the same row, marked behind its end. -/
theorem St.conv_bytes (ht : Tok P tt) (hm : Mem w0 w m) {o : Oper} {t e : Nat} {x : Operand} (hop : o.op = .convert t t x) (hs : tlook tt t = some (.slice e)) (he : tlook tt e = some (.int .u8)) {i b T len c : Nat} {cl : List Value} (hi : m[i]? = some (b, cl, T, (0, 0))) (hx : ev fr x = some (.slice (some ⟨b, 0, none⟩) len c)) (m' : List Blk) (hm' : m.set i (b, cl, T, (cl.length, cl.length + 1)) = m') :
    St P Q n ds fr w o (fun u w' => u = .slice (some ⟨b, 0, none⟩) len c ∧ Mem w0 w' m') := by
  intro a hr
  have hu1 : P.underlying t = some (.slice e) := ht _ _ hs
  have hu2 : P.underlying e = some (.int .u8) := ht _ _ he
  have hb := (hm.own _ (List.mem_of_getElem? hi)).2
  simp only at hb
  have hsh : w.shape? b = some (T, cl.length) := by simp [World.shape?, hb]
  have hrun : (execOp a.eval o).run P w = .ok (.value (.slice (some ⟨b, 0, none⟩) len c)) (w.freeze ⟨b, cl.length, none⟩ 1) := by
    unfold execOp
    simp [hop, hr.eval hx, convert, run_underlying hu1, run_underlying hu2, markStringish, shape, freeze, Sem.run, hsh]
  unfold Oper.wp
  rw [hrun, Oper.upon_value]
  refine ⟨_, rfl, rfl, ?_⟩
  rw [← hm']
  have hw : ∀ k, (w.freeze ⟨b, cl.length, none⟩ 1).heap[k]? = if b = k then some (.cells cl.toArray T (cl.length, cl.length + 1)) else w.heap[k]? := by
    intro k
    unfold World.freeze
    rw [if_neg (by decide)]
    simp only
    rw [Array.getElem?_modify]
    split
    · rename_i e; subst e; rw [hb]; rfl
    · rfl
  have hsz : (w.freeze ⟨b, cl.length, none⟩ 1).heap.size = w.heap.size := by
    unfold World.freeze
    rw [if_neg (by decide)]
    simp
  refine hm.freeze hi ?_ ?_ ?_ hsz (fun k hk => by rw [hw, if_neg (fun e => hk e.symm)]) cl _ (by rw [hw, if_pos rfl])
  all_goals (unfold World.freeze; rw [if_neg (by decide)])

/-- A slice's value put together out of its elements: a new row. -/
theorem St.buildSlice (ht : Tok P tt) (hm : Mem w0 w m) {o : Oper} {t e len : Nat} {parts : List (Nat × Operand)} (hop : o.op = .buildSlice t len parts.toArray) (hs : tlook tt t = some (.slice e)) {z : Value} {sz : Nat} (hinf : infoIs P e z sz) (hlen : Nat.ble (len * sz) 16777216 = true)
    (vs : List Value) (hvs : parts.map (fun p => ev fr p.2) = vs.map some) (cl : List Value)
    (hf : Instr.fill (fun i => some (i * sz, sz)) ((Array.range (len * sz)).map (z.cells[· % z.cells.size]!)) ((parts.map (·.1)).zip vs) = some cl.toArray) (hpos : ¬ len * sz = 0) :
    St P Q n ds fr w o (fun u w' => ∃ b, u = .slice (some ⟨b, 0, none⟩) len len ∧ Mem w0 w' ((b, cl, e, (0, 0)) :: m)) := by
  intro a hr
  have hu : P.underlying t = some (.slice e) := ht _ _ hs
  have hmp : (parts.toArray.map fun (x : Nat × Operand) => (x.1, a.eval x.2)).toList = (parts.map (·.1)).zip vs := by
    simp only [List.map_toArray]
    clear hf hop
    induction parts generalizing vs with
    | nil => simp
    | cons p r ih =>
      cases vs with
      | nil => cases hvs
      | cons v s =>
        simp only [List.map_cons, List.cons.injEq] at hvs
        simp only [List.map_cons, List.zip_cons_cons, List.cons.injEq]
        exact ⟨by rw [hr.eval hvs.1], ih s hvs.2⟩
  have hle : ¬ len * sz > 2 ^ 24 := by
    have := Nat.le_of_ble_eq_true hlen
    omega
  have hrun : (execOp a.eval o).run P w = .ok (.value (.slice (some ⟨w.heap.size, 0, none⟩) len len)) (w.alloc (.cells cl.toArray e)) := by
    have h0 : (Instr.buildSlice t len (parts.toArray.map fun (x : Nat × Operand) => (x.1, a.eval x.2))).run P w = .ok (.slice (some ⟨w.heap.size, 0, none⟩) len len) (w.alloc (.cells cl.toArray e)) := by
      unfold Instr.buildSlice
      simp only [Sem.run_bind, run_underlying hu, Result.andThen_ok, (hinf.run w).2, if_neg hle, if_neg hpos, (hinf.run w).1, Sem.run_pure, hmp, hf]
      rfl
    unfold execOp
    rw [hop]
    simp only [Sem.run_bind, h0, Result.andThen_ok, Sem.run_pure]
  unfold Oper.wp
  rw [hrun, Oper.upon_value]
  exact ⟨_, rfl, _, rfl, hm.alloc cl e⟩

/-- A struct's or an array's value put together out of its parts. -/
theorem WI.build {i d t : Nat} {parts : List (Nat × Operand)} {ty : Nat} {pos : String} {after : Array Edge} {gdv : Option (Nat × Bool)}
    (ho : ops[i]? = some ⟨some d, .build t parts.toArray, ty, pos, after, gdv⟩) (hg : gd ops fr ⟨some d, .build t parts.toArray, ty, pos, after, gdv⟩ = some true) (hlt : Nat.blt d n = true)
    (vs : List Value) (hvs : parts.map (fun p => ev fr p.2) = vs.map some) (cl : List Value) (hb : P.built t ((parts.map (·.1)).zip vs) = some cl.toArray)
    (h : WI P ops Q n ds (i + 1) ((d, .agg cl.toArray) :: fr) w) : WI P ops Q n ds i fr w := by
  refine WI.step (R := fun u w' => u = .agg cl.toArray ∧ w = w') ho hg rfl hlt ?_ (fun u w' ⟨hu, hw⟩ => by subst hu; subst hw; exact h)
  intro a hr
  have hm : (parts.toArray.map fun (x : Nat × Operand) => (x.1, a.eval x.2)).toList = (parts.map (·.1)).zip vs := by
    simp only [List.map_toArray]
    clear ho hg hb
    induction parts generalizing vs with
    | nil => simp
    | cons p r ih =>
      cases vs with
      | nil => cases hvs
      | cons v s =>
        simp only [List.map_cons, List.cons.injEq] at hvs
        simp only [List.map_cons, List.zip_cons_cons, List.cons.injEq]
        exact ⟨by rw [hr.eval hvs.1], ih s hvs.2⟩
  refine wp_build t parts.toArray rfl ?_ ?_
  · rw [hm, hb]; rfl
  · rw [hm, hb]
    exact ⟨_, rfl, rfl, rfl⟩
end
end Go.Proofs.Ytcdcihmlmcnbjaa.Eng
