/-
  The small calculus, fourth part: strings as lists of bytes, lists in memory that are read, hypotheses of the written functions.
-/
import Derived.Test.YtcdcihmlmcnbjaaEngC
import Derived.Laws.IdiomStrings
namespace Go.Proofs.Ytcdcihmlmcnbjaa.Eng
open Go Go.RowKit

abbrev mk (l : List UInt8) : ByteArray := ⟨⟨l⟩⟩
def byt (l : List UInt8) (i : Int) : Int := ((l.getD i.toNat 0).toNat : Int)
theorem byt_range (l : List UInt8) (i : Int) : 0 ≤ byt l i ∧ byt l i ≤ 255 := by
  have := (l.getD i.toNat 0).toNat_lt
  unfold byt
  omega

/-! ### What the written functions say -/
theorem cond_t {α : Type} {b : Bool} {A B : Option α} {r : α} (hb : b = true) (H : (bif b then A else B) = some r) : A = some r := by subst hb; exact H
theorem cond_f {α : Type} {b : Bool} {A B : Option α} {r : α} (hb : b = false) (H : (bif b then A else B) = some r) : B = some r := by subst hb; exact H
theorem guard_t {α : Type} {b : Bool} {A : Option α} {r : α} (H : (bif b then A else none) = some r) : b = true ∧ A = some r := by
  cases b with
  | true => exact ⟨rfl, H⟩
  | false => cases H
theorem bind_t {α β : Type} {m : Option α} {g : α → Option β} {r : β} (H : m.bind g = some r) : ∃ x, m = some x ∧ g x = some r := by
  cases m with
  | none => cases H
  | some x => exact ⟨x, rfl, H⟩
theorem none_t {α : Type} {r : α} {C : Prop} (H : (none : Option α) = some r) : C := by cases H

theorem two_t {a b : Bool} (h : (a && b) = true) : a = true ∧ b = true := by simpa using h

section
variable {P : Program} {Q : Exit → Act → World → Prop} {n : Nat} {ds : List Deferred} {fr : Fr} {w : World} {tt : List (Nat × TK)} {ops : List Oper}

/-- A plain value out of one operation, the world as it was. -/
theorem St.val {o : Oper} {v : Value} (h : ∀ a, Rep n ds fr a → (execOp a.eval o).run P w = .ok (.value v) w) : St P Q n ds fr w o (fun u w' => u = v ∧ w = w') := by
  intro a hr
  unfold Oper.wp
  rw [h a hr, Oper.upon_value]
  exact ⟨v, rfl, rfl, rfl⟩

theorem St.index_str (ht : Tok P tt) {o : Oper} {t : Nat} {x y : Operand} (hop : o.op = .index t x y) (hty : tlook tt t = some .str) {l : List UInt8} {k : IntKind} {i : Int} (hx : ev fr x = some (.string (mk l))) (hy : ev fr y = some (.int k i))
    (hg : (decide (0 ≤ i) && decide (i < (l.length : Int))) = true) : St P Q n ds fr w o (fun u w' => u = .int .u8 (byt l i) ∧ w = w') := by
  refine St.val fun a hr => ?_
  have hu : P.underlying t = some .string := ht _ _ hty
  simp only [Bool.and_eq_true, decide_eq_true_eq] at hg
  have hlt : i.toNat < l.length := by omega
  have hget : (mk l)[i.toNat]? = some (l.getD i.toNat 0) := by
    rw [getElem?_pos (mk l) i.toNat (by simpa [ByteArray.size] using hlt)]
    simp [List.getD_eq_getElem?_getD, hlt]
    rfl
  unfold execOp
  simp [hop, hr.eval hx, hr.eval hy, Instr.index, asIntOf, run_underlying hu, hg.1, hget, byt]

def bnd (fr : Fr) (d : Int) : Option Operand → Option Int
  | none => some d
  | some x => match ev fr x with
    | some (.int _ m) => some m
    | _ => none

def cut {α : Type} (l : List α) (a b : Int) : List α := (l.take b.toNat).drop a.toNat

theorem extract_mk (l : List UInt8) (a b : Nat) : (mk l).extract a b = mk ((l.take b).drop a) := by
  apply ByteArray.ext
  rw [ByteArray.data_extract]
  apply Array.ext'
  rw [Array.toList_extract, List.extract_eq_take_drop]
  simp [List.drop_take]

theorem run_bound {x : Value} {k : IntKind} {i : Int} {y : Nat} (code : BoundsCode) (hx : x = .int k i) (h0 : 0 ≤ i) (h1 : i ≤ y) : (Instr.sliceBound x y code).run P w = .ok i.toNat w := by
  subst hx
  simp [Instr.sliceBound, asIntOf, h0, h1]

theorem run_bounds_hl {isSlice : Bool} {len cap : Nat} {fr : Fr} {a : Act} (hr : Rep n ds fr a) {lo hi : Option Operand} {L H : Int} (hlo : bnd fr 0 lo = some L) (hhi : bnd fr len hi = some H)
    (hL : 0 ≤ L) (hLH : L ≤ H) (hH : H ≤ (len : Int)) (hc : len ≤ cap) : (Instr.sliceBounds isSlice len cap (lo.map a.eval) (hi.map a.eval) none).run P w = .ok (L.toNat, H.toNat, cap) w := by
  have hv : ∀ {d : Int} {q : Option Operand} {m : Int}, bnd fr d q = some m → (q = none ∧ m = d) ∨ ∃ x k, q = some x ∧ a.eval x = .int k m := by
    intro d q m h
    cases q with
    | none => cases h; exact .inl ⟨rfl, rfl⟩
    | some x =>
      unfold bnd at h
      simp only at h
      split at h
      · rename_i k m' hm; cases h; exact .inr ⟨x, k, rfl, hr.eval hm⟩
      · cases h
  have e1 : ∃ q, H.toNat = q ∧ q ≤ cap := ⟨_, rfl, by omega⟩
  obtain ⟨q, hq, hqc⟩ := e1
  rcases hv hhi with ⟨rfl, rfl⟩ | ⟨x, k, rfl, hx⟩ <;> rcases hv hlo with ⟨rfl, rfl⟩ | ⟨y, k', rfl, hy⟩
  · simp [Instr.sliceBounds]
  · simp [Instr.sliceBounds, hy, run_bound (P := P) (w := w) _ rfl hL hLH]
  · simp [Instr.sliceBounds, hx, run_bound (P := P) (w := w) (y := cap) _ rfl (show 0 ≤ H by omega) (by omega)]
  · have hq' : L ≤ (H.toNat : Int) := by omega
    simp [Instr.sliceBounds, hx, hy, run_bound (P := P) (w := w) (y := cap) _ rfl (show 0 ≤ H by omega) (by omega), run_bound (P := P) (w := w) (y := H.toNat) _ rfl hL hq']

theorem St.slice_str (ht : Tok P tt) {o : Oper} {t : Nat} {x : Operand} {lo hi : Option Operand} (hop : o.op = .slice t x lo hi none) (hty : tlook tt t = some .str) {l : List UInt8} {L H : Int} (hx : ev fr x = some (.string (mk l)))
    (hlo : bnd fr 0 lo = some L) (hhi : bnd fr (l.length : Int) hi = some H) (hg : (decide (0 ≤ L) && (decide (L ≤ H) && decide (H ≤ (l.length : Int)))) = true) :
    St P Q n ds fr w o (fun u w' => u = .string (mk (cut l L H)) ∧ w = w') := by
  refine St.val fun a hr => ?_
  have hu : P.underlying t = some .string := ht _ _ hty
  simp only [Bool.and_eq_true, decide_eq_true_eq] at hg
  have hb := run_bounds_hl (P := P) (w := w) (isSlice := false) (len := l.length) (cap := l.length) hr hlo hhi hg.1 hg.2.1 hg.2.2 (Nat.le_refl _)
  have hs : (mk l).size = l.length := rfl
  unfold execOp
  simp only [hop, hr.eval hx, Instr.sliceAt, Sem.run_bind, run_underlying hu, Result.andThen_ok, Instr.slice, Option.map_none, hs]
  simp only [Option.isSome_none, Bool.false_eq_true, if_false, Sem.run_bind]
  rw [hb]
  simp [extract_mk, cut]

/-! ### Calls that only make memory -/
abbrev Bl (w w' : World) : Prop := Below w.heap.size w w'
theorem Bl.refl (w : World) : Bl w w := Below.refl _ _
theorem thn {w w1 w2 : World} (h : Bl w w1) (k : Bl w1 w2) : Bl w w2 :=
  Below.trans h ⟨k.os, k.tape, k.output, k.size, fun i hi => k.block i (Nat.lt_of_lt_of_le hi h.size)⟩

theorem WI.callB {i : Nat} {f d : Nat} {as : List Operand} {ts : Array Nat} {ty : Nat} {pos : String} {after : Array Edge} {gdv : Option (Nat × Bool)} {args : List Value} {v : Value}
    (hc : Calls P f args.toArray w fun e w' => e = .returned v ∧ Bl w w')
    (ho : ops[i]? = some ⟨some d, .call { callee := .value (.func f), args := as.toArray, argTypes := ts }, ty, pos, after, gdv⟩) (hg : gd ops fr ⟨some d, .call { callee := .value (.func f), args := as.toArray, argTypes := ts }, ty, pos, after, gdv⟩ = some true)
    (hlt : Nat.blt d n = true) (hen : entersB P f = true) (hargs : as.map (ev fr) = args.map some)
    (h : ∀ w', Bl w w' → WI P ops Q n ds (i + 1) ((d, v) :: fr) w') : WI P ops Q n ds i fr w :=
  WI.call as ts ho hg hlt hen args hargs (R := fun u w' => u = v ∧ Bl w w') (hc.mono fun _ _ ⟨he, hb⟩ => ⟨v, he, rfl, hb⟩) (fun u w' ⟨hu, hb⟩ => by subst hu; exact h w' hb)

/-! ### Lists in memory that are only read -/
/-- The slice at A holds the list, an element so many cells. -/
def RdL {α : Type} (w : World) (size : Nat) (enc : α → List Value) (A : Option Addr) (l : List α) : Prop :=
  ∀ j x, l[j]? = some x → ∃ ad, A = some ad ∧ ∀ t v, (enc x)[t]? = some v → w.cell? (ad.add (j * size + t)) = some v

theorem RdL.below {α : Type} {w w1 : World} {size : Nat} {enc : α → List Value} {A : Option Addr} {l : List α} (h : RdL w size enc A l) (hb : Below w.heap.size w w1) : RdL w1 size enc A l := by
  intro j x hx
  obtain ⟨ad, e, hc⟩ := h j x hx
  refine ⟨ad, e, fun t v hv => ?_⟩
  have := hc t v hv
  exact (hb.cell (World.block_lt_of_cell? w _ this)).trans this

end
end Go.Proofs.Ytcdcihmlmcnbjaa.Eng
