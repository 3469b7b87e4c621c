/-
  What an operation gives hangs on its operands, and on the blocks that they point at, alone.
-/
import Derived.Test.YtaakccdfgejgpaaGreatDoorAbsN
namespace Go.Proofs.YtaakccdfgejgpaaGreatDoor.Abs
open Go
set_option linter.unusedVariables false

def opnds : Op → List Operand
  | .move x => [x]
  | .assign x => [x]
  | .pick c a b => [c, a, b]
  | .binOp _ _ x y _ => [x, y]
  | .unOp _ _ x => [x]
  | .extract t _ => [t]
  | .convert _ _ x => [x]
  | .makeInterface _ x => [x]
  | .makeFunc _ first caps => first.toList ++ caps.toList
  | .nilCheck x => [x]
  | .field _ x _ => [x]
  | .index _ x i => [x, i]
  | .fieldAddr _ x _ => [x]
  | .indexAddr _ x i => [x, i]
  | .slice _ x lo hi _ => x :: (lo.toList ++ hi.toList)
  | .box _ x => [x]
  | .build _ parts => parts.toList.map (·.2)
  | .buildSlice _ _ parts => parts.toList.map (·.2)
  | .makeSlice _ n c => [n, c]
  | .load _ a => [a]
  | .store _ a x => [a, x]
  | .call { callee := .builtin _, args := as, argTypes := _ } => as.toList
  | .call { callee := .value x, args := as, argTypes := _ } => x :: as.toList
  | _ => []

section
variable {C : Cfg} {fr fr' : Fr} {H H' : Heap}

/-- Two memories agree where a value points. -/
def AtTop (H H' : Heap) (v : AVal) : Prop := ∀ b ∈ v.top, hget H b = hget H' b

theorem evL_congr : ∀ {xs : List Operand}, (∀ x ∈ xs, ev fr x = ev fr' x) → evL fr xs = evL fr' xs
  | [], _ => rfl
  | x :: r, h => by
    unfold evL
    rw [h x (by simp), evL_congr (xs := r) (fun y hy => h y (by simp [hy]))]
theorem evP_congr : ∀ {xs : List (Nat × Operand)}, (∀ x ∈ xs.map (·.2), ev fr x = ev fr' x) → evP fr xs = evP fr' xs
  | [], _ => rfl
  | (i, x) :: r, h => by
    unfold evP
    rw [h x (by simp), evP_congr (xs := r) (fun y hy => h y (by simp only [List.map_cons, List.mem_cons]; exact .inr hy))]
theorem evL_mem : ∀ {xs : List Operand} {us : List AVal}, evL fr xs = some us → ∀ v ∈ us, ∃ x ∈ xs, ev fr x = some v
  | [], us, h, v, hv => by cases h; cases hv
  | x :: r, us, h, v, hv => by
    unfold evL at h
    split at h
    · rename_i u l h1 h2
      cases h
      rcases List.mem_cons.1 hv with rfl | hv
      · exact ⟨x, by simp, h1⟩
      · obtain ⟨y, hy, he⟩ := evL_mem h2 v hv
        exact ⟨y, by simp [hy], he⟩
    · cases h

theorem AtTop.row {b g : Nat} {v : Vw} (h : AtTop H H' (.slice b g v)) : hget H b = hget H' b := h b (by simp [AVal.top])
theorem AtTop.ptr {b g : Nat} {p : List Stp} (h : AtTop H H' (.ptr b g p)) : hget H b = hget H' b := h b (by simp [AVal.top])

theorem convA_congr {tt : Tab} {s d : Nat} {v : AVal} (h : AtTop H H' v) : convA tt H s d v = convA tt H' s d v := by
  cases v with
  | slice b g u =>
    have hb := h.row
    have hr : ∀ g, rowAt H b g = rowAt H' b g := fun g => by simp only [rowAt, hb]
    unfold convA
    cases tlk tt s with
    | none => rfl
    | some x =>
      cases tlk tt d with
      | none => rfl
      | some y =>
        obtain ⟨xk, _, _, _⟩ := x
        obtain ⟨yk, _, _, _⟩ := y
        cases xk <;> cases yk <;> (try rfl) <;> cases u <;> simp only [hr, hb]
  | _ =>
    unfold convA
    cases tlk tt s with
    | none => rfl
    | some x =>
      cases tlk tt d with
      | none => rfl
      | some y =>
        obtain ⟨xk, _, _, _⟩ := x
        obtain ⟨yk, _, _, _⟩ := y
        cases xk <;> cases yk <;> rfl
theorem placeTy_congr {tt : Tab} {b : Nat} {p : List Stp} (h : hget H b = hget H' b) : placeTy tt H b p = placeTy tt H' b p := by simp only [placeTy, h]
theorem faddrA_congr {tt : Tab} {t i : Nat} {v : AVal} (h : AtTop H H' v) : faddrA tt H t i v = faddrA tt H' t i v := by
  cases v with
  | ptr b g p => simp only [faddrA, placeTy_congr h.ptr]
  | _ => simp only [faddrA]
theorem iaddrA_congr {tt : Tab} {t : Nat} {v u : AVal} (h : AtTop H H' v) : iaddrA tt H t v u = iaddrA tt H' t v u := by
  cases v with
  | ptr b g p => have hp := placeTy_congr (tt := tt) (p := p) h.ptr; cases u <;> first | rfl | simp only [iaddrA, hp]
  | slice b g q => have hr := h.row; cases u <;> first | rfl | simp only [iaddrA, rowAt, hr]
  | _ => cases u <;> rfl
theorem sliceA_congr {tt : Tab} {t : Nat} {v : AVal} {lo hi : Option (Option AVal)} (h : AtTop H H' v) : sliceA tt H t v lo hi = sliceA tt H' t v lo hi := by
  cases v with
  | slice b g q =>
    have hb := h.row
    have hr : ∀ g, rowAt H b g = rowAt H' b g := fun g => by simp only [rowAt, hb]
    unfold sliceA
    cases bnd 0 lo <;> simp only [hr]
  | _ => unfold sliceA; cases bnd 0 lo <;> rfl
theorem loadOp_congr {tt : Tab} {t : Nat} {v : AVal} (h : AtTop H H' v) : loadOp tt H t v = loadOp tt H' t v := by
  cases v with
  | ptr b g p => have := h.ptr; simp only [loadOp, loadA, placeTy, this]
  | _ => simp only [loadOp]
theorem storeOp_congr {tt : Tab} {t : Nat} {v u : AVal} (h : AtTop H H' v) : storeOp tt H t v u = storeOp tt H' t v u := by
  cases v with
  | ptr b g p => have := h.ptr; simp only [storeOp, storeA, placeTy, this]
  | _ => simp only [storeOp]
theorem lenA_congr {tt : Tab} {t : Nat} {v : AVal} (h : AtTop H H' v) : lenA tt H t v = lenA tt H' t v := by
  cases v with
  | slice b g q =>
    have hb := h.row
    have hr : ∀ g, rowAt H b g = rowAt H' b g := fun g => by simp only [rowAt, hb]
    unfold lenA
    cases tlk tt t with
    | none => rfl
    | some x => obtain ⟨xk, _, _, _⟩ := x; cases xk <;> first | rfl | simp only [hr]
  | _ => unfold lenA; cases tlk tt t with
    | none => rfl
    | some x => obtain ⟨xk, _, _, _⟩ := x; cases xk <;> rfl
theorem appendA_congr {tt : Tab} {e : Nat} {v u : AVal} (h : AtTop H H' v) (k : AtTop H H' u) : appendA tt H e v u = appendA tt H' e v u := by
  have ht : ∀ z, tailOf H z u = tailOf H' z u := by
    intro z
    cases u with
    | slice b g q => have := k.row; simp only [tailOf, rowAt, this]
    | _ => simp only [tailOf]
  cases v with
  | slice b g q => have hb := h.row; simp only [appendA, ht, hb]
  | _ => simp only [appendA, ht]
theorem biA_congr {tt : Tab} {b : Builtin} {ts : List Nat} {us : List AVal} (h : ∀ v ∈ us, AtTop H H' v) : biA tt H b ts us = biA tt H' b ts us := by
  unfold biA
  split
  · rename_i x
    split
    · rw [lenA_congr (h x (by simp))]
    · rfl
  · rfl
  · rfl
  · rename_i x y
    split
    · split
      · rw [appendA_congr (h x (by simp)) (h y (by simp))]
      · rfl
    · rfl
  · rfl

theorem on1_congr {f g : AVal → AOut} {x : Option AVal} (h : ∀ v, x = some v → f v = g v) : on1 f x = on1 g x := by
  cases x with
  | none => rfl
  | some v => exact h v rfl
theorem on2_congr {f g : AVal → AVal → AOut} {x y : Option AVal} (h : ∀ v u, x = some v → y = some u → f v u = g v u) : on2 f x y = on2 g x y := by
  cases x with
  | none => rfl
  | some v => cases y with
    | none => rfl
    | some u => exact h v u rfl rfl

theorem aop_congr {op : Op} (he : ∀ x ∈ opnds op, ev fr x = ev fr' x) (hh : ∀ x ∈ opnds op, ∀ v, ev fr x = some v → AtTop H H' v) : aop C fr H op = aop C fr' H' op := by
  cases op with
  | move x => simp only [aop, he x (by simp [opnds])]
  | assign x => simp only [aop, he x (by simp [opnds])]
  | pick c x y => simp only [aop, he c (by simp [opnds]), he x (by simp [opnds]), he y (by simp [opnds])]
  | binOp op t x y t' => simp only [aop, he x (by simp [opnds]), he y (by simp [opnds])]
  | unOp op t x => simp only [aop, he x (by simp [opnds])]
  | extract t ix => simp only [aop, he t (by simp [opnds])]
  | convert s d x =>
    simp only [aop, ← he x (by simp [opnds])]
    exact on1_congr fun v hv => convA_congr (hh x (by simp [opnds]) v hv)
  | makeInterface t x => simp only [aop, he x (by simp [opnds])]
  | makeFunc fn first caps =>
    cases fn with
    | func f => simp only [aop, evL_congr (fun x hx => he x (by simp only [opnds, List.mem_append]; exact .inl hx)), evL_congr (fun x hx => he x (by simp only [opnds, List.mem_append]; exact .inr hx))]
    | _ => rfl
  | nilCheck x => simp only [aop, he x (by simp [opnds])]
  | field t x i => simp only [aop, he x (by simp [opnds])]
  | index t x i => simp only [aop, he x (by simp [opnds]), he i (by simp [opnds])]
  | fieldAddr t x i =>
    simp only [aop, ← he x (by simp [opnds])]
    exact on1_congr fun v hv => faddrA_congr (hh x (by simp [opnds]) v hv)
  | indexAddr t x i =>
    simp only [aop, ← he x (by simp [opnds]), ← he i (by simp [opnds])]
    exact on2_congr fun v u hv _ => iaddrA_congr (hh x (by simp [opnds]) v hv)
  | slice t x lo hi mx =>
    cases mx with
    | some _ => rfl
    | none =>
      have h1 : lo.map (ev fr) = lo.map (ev fr') := by
        cases lo with
        | none => rfl
        | some y => simp only [Option.map_some, he y (by simp [opnds])]
      have h2 : hi.map (ev fr) = hi.map (ev fr') := by
        cases hi with
        | none => rfl
        | some y => simp only [Option.map_some, he y (by simp [opnds])]
      simp only [aop, ← he x (by simp [opnds]), ← h1, ← h2]
      exact on1_congr fun v hv => sliceA_congr (hh x (by simp [opnds]) v hv)
  | alloc t => rfl
  | box t x => simp only [aop, he x (by simp [opnds])]
  | build t parts => simp only [aop, evP_congr (fun x hx => he x (by simp only [opnds]; exact hx))]
  | buildSlice t m parts => simp only [aop, evP_congr (fun x hx => he x (by simp only [opnds]; exact hx))]
  | makeSlice t m c => simp only [aop, he m (by simp [opnds]), he c (by simp [opnds])]
  | load t x =>
    simp only [aop, ← he x (by simp [opnds])]
    exact on1_congr fun v hv => loadOp_congr (hh x (by simp [opnds]) v hv)
  | store t x y =>
    simp only [aop, ← he x (by simp [opnds]), ← he y (by simp [opnds])]
    exact on2_congr fun v u hv _ => storeOp_congr (hh x (by simp [opnds]) v hv)
  | call c =>
    obtain ⟨callee, as, ts⟩ := c
    cases callee with
    | builtin b =>
      simp only [aop, ← evL_congr (fun x hx => he x (by simp only [opnds]; exact hx))]
      cases hl : evL fr as.toList with
      | none => rfl
      | some us => exact biA_congr fun v hv => let ⟨x, hx, hx'⟩ := evL_mem hl v hv; hh x (by simp only [opnds]; exact hx) v hx'
    | value f => rfl
    | invoke f m => rfl
  | _ => rfl

/-! ### What an operation looks at -/
/-- 0: at no block; 1: at the shape of its operands' blocks; 2: at what they hold. -/
def lookB : Op → Nat
  | .convert _ _ _ => 2
  | .fieldAddr _ _ _ => 1
  | .indexAddr _ _ _ => 1
  | .slice _ _ _ _ _ => 2
  | .load _ _ => 2
  | .store _ _ _ => 2
  | .call _ => 2
  | _ => 0
def isStore : Op → Bool
  | .store _ _ _ => true
  | _ => false
/-- A block's shape. -/
def Blk.shp : Blk → Option (Bool × Nat × Nat × Nat × Nat)
  | .dead => none
  | .var _ T _ => some (false, T, 0, 0, 0)
  | .row _ g _ e s => some (true, g, e, s.len, s.esz)
theorem Sq.set_shp {s s' : Sq} {i : Nat} {v : AVal} (h : s.set i v = some s') : s'.len = s.len ∧ s'.esz = s.esz := by
  unfold Sq.set at h
  split at h
  · cases h; exact ⟨by simp [Sq.len], rfl⟩
  · split at h
    · cases h; exact ⟨by simp [Sq.len], rfl⟩
    · cases h
  · cases h; exact ⟨by simp [Sq.len], rfl⟩
  · cases h; exact ⟨by simp [Sq.len], rfl⟩
  · split at h
    · cases h; exact ⟨by simp [Sq.len], rfl⟩
    · cases h
  · cases h
theorem Sq.cut_lenE {s s' : Sq} (h : s.len = s'.len) (a b : Int) : (s.cut a b).len = (s'.cut a b).len := by
  have key : ∀ s : Sq, (s.cut a b).len = min b.toNat s.len - a.toNat := by
    intro s
    cases s <;> simp [Sq.cut, Sq.len, Abs.cut]
  rw [key, key, h]
theorem vw_lenE {s s' : Sq} (h : s.len = s'.len) : ∀ v : Vw, (vw v s).len = (vw v s').len
  | .all => h
  | .cut v a b => by simp only [vw]; exact Sq.cut_lenE (vw_lenE h v) a b
theorem placeTy_shp {tt : Tab} {b : Nat} {p : List Stp} (h : (hget H b).shp = (hget H' b).shp) : placeTy tt H b p = placeTy tt H' b p := by
  unfold placeTy
  cases h1 : hget H b <;> cases h2 : hget H' b <;> rw [h1, h2] at h <;> simp only [Blk.shp, reduceCtorEq, Option.some.injEq, Prod.mk.injEq, Bool.false_eq_true, Bool.true_eq_false, false_and] at h
  · obtain ⟨_, rfl, _⟩ := h; rfl
  · obtain ⟨_, _, rfl, _⟩ := h
    cases p with
    | nil => rfl
    | cons x r => cases x <;> rfl
theorem store_shp {fr : Fr} {op : Op} {g : Bool} {b : Nat} {blk : Blk} {v : AVal} (h : aop C fr H op = .upd g b blk v) (hs : isStore op = true) : blk.shp = (hget H b).shp := by
  cases op <;> simp only [isStore, Bool.false_eq_true] at hs
  rename_i t x y
  simp only [aop] at h
  cases hx : ev fr x with
  | none => rw [hx] at h; cases h
  | some u =>
    cases hy : ev fr y with
    | none => rw [hx, hy] at h; cases h
    | some q =>
      rw [hx, hy] at h
      simp only [on2] at h
      unfold storeOp at h
      split at h <;> try cases h
      split at h <;> try cases h
      rename_i hst
      split at h <;> try cases h
      unfold storeA at hst
      split at hst
      · rename_i hb
        split at hst <;> try cases hst
        split at hst <;> try cases hst
        rw [hb]; rfl
      · rename_i hb
        split at hst <;> try cases hst
        split at hst <;> try cases hst
        split at hst <;> try cases hst
        rename_i hset
        obtain ⟨e1, e2⟩ := Sq.set_shp hset
        rw [hb]
        simp only [Blk.shp, e1, e2]
      · cases hst
theorem aop_none {fr : Fr} {op : Op} (h0 : lookB op = 0) : aop C fr H op = aop C fr H' op := by
  cases op <;> first | rfl | (simp [lookB] at h0; done) | skip
  case makeFunc fn first caps => cases fn <;> rfl
theorem aop_flat {fr : Fr} {op : Op} (h1 : lookB op = 1) (hS : ∀ x ∈ opnds op, ∀ v, ev fr x = some v → ∀ b ∈ v.top, (hget H b).shp = (hget H' b).shp) : aop C fr H op = aop C fr H' op := by
  cases op <;> try (simp [lookB] at h1; done)
  case fieldAddr t x i =>
    simp only [aop]
    refine on1_congr fun v hv => ?_
    have hs := hS x (by simp [opnds]) v hv
    cases v with
    | ptr b g p => simp only [faddrA, placeTy_shp (tt := C.tt) (p := p) (hs b (by simp [AVal.top]))]
    | _ => rfl
  case indexAddr t x i =>
    simp only [aop]
    refine on2_congr fun v u hv _ => ?_
    have hs := hS x (by simp [opnds]) v hv
    cases v with
    | ptr b g p => have := placeTy_shp (tt := C.tt) (p := p) (hs b (by simp [AVal.top])); cases u <;> first | rfl | simp only [iaddrA, this]
    | slice b g q =>
      have := hs b (by simp [AVal.top])
      cases u with
      | int k j =>
        simp only [iaddrA, rowAt]
        cases h1 : hget H b <;> cases h2 : hget H' b <;> rw [h1, h2] at this <;> simp only [Blk.shp, reduceCtorEq, Option.some.injEq, Prod.mk.injEq, Bool.false_eq_true, Bool.true_eq_false, false_and] at this
        all_goals first
          | rfl
          | skip
        obtain ⟨_, rfl, rfl, e1, e2⟩ := this
        rename_i ver1 g1 own1 e s1 ver2 own2 s2 _
        have e3 : sliceOf C.tt t s1 = sliceOf C.tt t s2 := by unfold sliceOf; rw [e2]
        dsimp only
        cases Nat.beq g g1 with
        | false => rfl
        | true => simp only [e3, vw_lenE e1 q]
      | _ => rfl
    | _ => cases u <;> rfl
/-- An operation gives the same wherever what it looks at is the same. -/
theorem aop_look {fr fr' : Fr} {op : Op} (he : ∀ x ∈ opnds op, ev fr x = ev fr' x) (hD : lookB op = 2 → ∀ x ∈ opnds op, ∀ v, ev fr x = some v → ∀ b ∈ v.top, hget H b = hget H' b)
    (hS : lookB op = 1 → ∀ x ∈ opnds op, ∀ v, ev fr x = some v → ∀ b ∈ v.top, (hget H b).shp = (hget H' b).shp) : aop C fr H op = aop C fr' H' op := by
  have h1 : aop C fr H op = aop C fr H' op := by
    have : lookB op = 0 ∨ lookB op = 1 ∨ lookB op = 2 := by cases op <;> simp [lookB]
    rcases this with h | h | h
    · exact aop_none h
    · exact aop_flat h (hS h)
    · exact aop_congr (fun _ _ => rfl) (hD h)
  rw [h1]
  exact aop_congr he (fun _ _ _ _ _ _ => rfl)
end
end Go.Proofs.YtaakccdfgejgpaaGreatDoor.Abs
