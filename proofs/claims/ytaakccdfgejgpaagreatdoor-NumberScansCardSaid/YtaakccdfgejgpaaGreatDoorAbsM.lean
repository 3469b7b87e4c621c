/-
  All operations together.
-/
import Derived.Test.YtaakccdfgejgpaaGreatDoorAbsL
namespace Go.Proofs.YtaakccdfgejgpaaGreatDoor.Abs
open Go
set_option linter.unusedVariables false

structure CfgOk (P : Program) (C : Cfg) : Prop where
  tab : TabOk P C.tt
  tE : ∃ k, P.underlying C.tE = some (.int k)
  tA : ∃ fs, P.underlying C.tA = some (.struct fs)

section
variable {P : Program} {C : Cfg} {σ σ' : List Pl} {n : Nat} {ds : List Deferred} {fr : Fr} {a : Act} {w w' w0 : World} {F G : Nat → Prop} {H : Heap}

/-- The operation gives a value, the world as it was. -/
def OpV (P : Program) (C : Cfg) (σ : List Pl) (a : Act) (w : World) (o : Oper) (v : AVal) : Prop := ∃ c, (execOp a.eval o).run P w = .ok (.value c) w ∧ VR C σ v c
/-- The operation has an effect. -/
def OpE (P : Program) (C : Cfg) (F G : Nat → Prop) (w0 : World) (σ : List Pl) (H : Heap) (a : Act) (w : World) (o : Oper) (v : AVal) (H' : Heap) : Prop :=
  ∃ nx c w' σ', (execOp a.eval o).run P w = .ok nx w' ∧ (nx = .value c ∨ (nx = .skip ∧ c = undef)) ∧ LeD H σ σ' ∧ VR C σ' v c ∧ HR C F G w0 σ' H' w'

/-- The operation makes something new. -/
def OpN (P : Program) (C : Cfg) (F G : Nat → Prop) (w0 : World) (σ : List Pl) (H : Heap) (a : Act) (w : World) (o : Oper) (p : Bool) (blk : Blk) : Prop :=
  ∃ c w' q, (execOp a.eval o).run P w = .ok (.value c) w' ∧ q.gen = 1 ∧ VR C (σ ++ [q]) (nv p H.length) c ∧ HR C F G w0 (σ ++ [q]) (H ++ [blk]) w'

def AOut.ok (P : Program) (C : Cfg) (F G : Nat → Prop) (w0 : World) (σ : List Pl) (H : Heap) (a : Act) (w : World) (o : Oper) : AOut → Prop
  | .bad => True
  | .val g v => g = true → OpV P C σ a w o v
  | .red g _ v => g = true → OpV P C σ a w o v
  | .upd g b blk v => g = true → OpE P C F G w0 σ H a w o v (hset H b blk)
  | .new g p blk => g = true → OpN P C F G w0 σ H a w o p blk

theorem OpV.of {o : Oper} {v : AVal} {s : Sem Value} (he : execOp a.eval o = do pure (.value (← s))) (h : Gv P C σ w s v) : OpV P C σ a w o v := by
  obtain ⟨c, h1, h2⟩ := h
  exact ⟨c, by rw [he]; simp [h1], h2⟩
theorem OpE.of {o : Oper} {v : AVal} {H' : Heap} {s : Sem Value} (he : execOp a.eval o = do pure (.value (← s))) (h : Ge P C F G w0 σ H w s v H') : OpE P C F G w0 σ H a w o v H' := by
  obtain ⟨c, w', σ', h1, h2, h3, h4⟩ := h
  exact ⟨.value c, c, w', σ', by rw [he]; simp [h1], .inl rfl, h2, h3, h4⟩

theorem OpN.of {o : Oper} {p : Bool} {blk : Blk} {s : Sem Value} (he : execOp a.eval o = do pure (.value (← s))) (h : Gn P C F G w0 σ H w s p blk) : OpN P C F G w0 σ H a w o p blk := by
  obtain ⟨c, w', q, h1, h2, h3, h4⟩ := h
  exact ⟨c, w', q, by rw [he]; simp [h1], h2, h3, h4⟩

theorem on1_ok {o : Oper} {f : AVal → AOut} {x : Operand} (hr : RepA C σ n ds fr a) (h : ∀ u, VR C σ u (a.eval x) → (f u).ok P C F G w0 σ H a w o) : (on1 f (ev fr x)).ok P C F G w0 σ H a w o := by
  cases hx : ev fr x with
  | none => trivial
  | some u => exact h u (hr.ev hx)
theorem on2_ok {o : Oper} {f : AVal → AVal → AOut} {x y : Operand} (hr : RepA C σ n ds fr a) (h : ∀ u v, VR C σ u (a.eval x) → VR C σ v (a.eval y) → (f u v).ok P C F G w0 σ H a w o) : (on2 f (ev fr x) (ev fr y)).ok P C F G w0 σ H a w o := by
  cases hx : ev fr x with
  | none => trivial
  | some u => cases hy : ev fr y with
    | none => trivial
    | some v => exact h u v (hr.ev hx) (hr.ev hy)
theorem evP_ok (hr : RepA C σ n ds fr a) : ∀ {ps : List (Nat × Operand)} {l : List (Nat × AVal)}, evP fr ps = some l → VPs C σ l (ps.map fun (p : Nat × Operand) => (p.1, a.eval p.2))
  | [], l, h => by cases h; trivial
  | (i, x) :: r, l, h => by
    simp only [evP] at h
    split at h
    · rename_i v q h1 h2
      cases h
      exact ⟨rfl, hr.ev h1, evP_ok hr h2⟩
    · cases h

theorem val_only {o : Oper} {out : AOut} (hv : ∀ g v, out = .val g v → g = true → OpV P C σ a w o v) (hr : ∀ g b v, out = .red g b v → g = true → OpV P C σ a w o v) (he : ∀ g b blk v, out = .upd g b blk v → g = true → OpE P C F G w0 σ H a w o v (hset H b blk))
    (hn : ∀ g p blk, out = .new g p blk → g = true → OpN P C F G w0 σ H a w o p blk) : out.ok P C F G w0 σ H a w o := by
  cases out with
  | bad => trivial
  | val g v => exact hv g v rfl
  | red g b v => exact hr g b v rfl
  | upd g b blk v => exact he g b blk v rfl
  | new g p blk => exact hn g p blk rfl

def AOut.isV : AOut → Bool
  | .bad => true
  | .val _ _ => true
  | _ => false
def AOut.isR : AOut → Bool
  | .bad => true
  | .val _ _ => true
  | .red _ _ _ => true
  | _ => false
theorem v_only {o : Oper} {out : AOut} (hs : out.isV = true) (hv : ∀ g v, out = .val g v → g = true → OpV P C σ a w o v) : out.ok P C F G w0 σ H a w o := by
  cases out with
  | val g v => exact hv g v rfl
  | bad => trivial
  | red _ _ _ => cases hs
  | upd _ _ _ _ => cases hs
  | new _ _ _ => cases hs
theorem n_only {o : Oper} {out : AOut} (hs : ∃ g p blk, out = .new g p blk ∨ out = .bad) (hv : ∀ g p blk, out = .new g p blk → g = true → OpN P C F G w0 σ H a w o p blk) : out.ok P C F G w0 σ H a w o := by
  obtain ⟨g, p, blk, h | h⟩ := hs
  · rw [h]; exact hv g p blk h
  · rw [h]; trivial

theorem bool_shape (op : BinOp) (g b : Bool) : (boolOp op g b).isV = true := by cases op <;> cases g <;> rfl
theorem bin_shape {tt : Tab} {op : BinOp} {t : Nat} {u v : AVal} {nl : Bool} : (binV tt op t u v nl).isV = true := by
  unfold binV
  split
  · split
    · rfl
    · rfl
    · split
      · unfold binInt; split <;> rfl
      · rfl
  · unfold binStr; split <;> rfl
  · exact bool_shape _ _ _
  · exact bool_shape _ _ _
  · split
    · exact bool_shape _ _ _
    · rfl
  · split
    · exact bool_shape _ _ _
    · rfl
  · exact bool_shape _ _ _
  · exact bool_shape _ _ _
  · rfl

theorem VLs_one {f : Operand → Value} {as : List Operand} {u : AVal} (h : VLs C σ [u] (as.map f)) : ∃ X, as = [X] ∧ VR C σ u (f X) := by
  match as, h with
  | [X], ⟨hx, _⟩ => exact ⟨X, rfl, hx⟩
theorem VLs_two {f : Operand → Value} {as : List Operand} {u v : AVal} (h : VLs C σ [u, v] (as.map f)) : ∃ X Y, as = [X, Y] ∧ VR C σ u (f X) ∧ VR C σ v (f Y) := by
  match as, h with
  | [X, Y], ⟨hx, hy, _⟩ => exact ⟨X, Y, rfl, hx, hy⟩

theorem val_no {tt : Tab} {H : Heap} {e : Nat} {x y : AVal} {g : Bool} {v : AVal} (hq : appendA tt H e x y = .val g v) : False := by
  unfold appendA at hq
  split at hq <;> try cases hq
  split at hq <;> try cases hq
  split at hq <;> try cases hq
  · split at hq <;> cases hq
  · split at hq <;> try cases hq
    split at hq <;> cases hq
theorem red_no {tt : Tab} {H : Heap} {e : Nat} {x y : AVal} {g : Bool} {b : Nat} {v : AVal} (hq : appendA tt H e x y = .red g b v) : False := by
  unfold appendA at hq
  split at hq <;> try cases hq
  split at hq <;> try cases hq
  split at hq <;> try cases hq
  · split at hq <;> cases hq
  · split at hq <;> try cases hq
    split at hq <;> cases hq

theorem bi_ok (hC : CfgOk P C) (hh : HR C F G w0 σ H w) {o : Oper} {b : Builtin} {as : List Operand} {ts : Array Nat} (hop : o.op = .call { callee := .builtin b, args := as.toArray, argTypes := ts }) {us : List AVal} (hus : VLs C σ us (as.map a.eval)) : (biA C.tt H b ts.toList us).ok P C F G w0 σ H a w o := by
  have he : ∀ (s : Sem Value) (sh : builtin b ts o.type (as.map fun | .const _ => true | _ => false).toArray (as.map a.eval).toArray = (do pure (.value (← s)))), execOp a.eval o = (do pure (.value (← s))) := by
    intro s sh
    unfold execOp
    simp only [hop, resolve, List.map_toArray]
    show (Sem.bind _ _) = _
    simp only [bind, Sem.bind, pure, invoke]
    exact sh
  obtain ⟨ts⟩ := ts
  unfold biA
  split
  · rename_i x
    split
    · rename_i t hts
      simp only at hts
      subst hts
      split
      · rename_i m hl
        intro _
        obtain ⟨X, rfl, hx⟩ := VLs_one hus
        exact OpV.of (he _ rfl) (len_ok hC.tab hh hl hx)
      · trivial
    · trivial
  · rename_i k x k' y
    split
    · rename_i hk
      intro _
      obtain ⟨X, Y, rfl, hx, hy⟩ := VLs_two hus
      · have := kindEq_spec hk
        subst this
        obtain ⟨e1, r1⟩ := VR.int hx
        obtain ⟨e2, r2⟩ := VR.int hy
        refine OpV.of (he _ rfl) ⟨_, ?_, ?_, rfl⟩
        · simp [Builtin.min_, e1, e2, Builtin.min2, List.foldlM]
        · split <;> assumption
    · trivial
  · rename_i k x k' y
    split
    · rename_i hk
      intro _
      obtain ⟨X, Y, rfl, hx, hy⟩ := VLs_two hus
      · have := kindEq_spec hk
        subst this
        obtain ⟨e1, r1⟩ := VR.int hx
        obtain ⟨e2, r2⟩ := VR.int hy
        refine OpV.of (he _ rfl) ⟨_, ?_, ?_, rfl⟩
        · simp [Builtin.max_, e1, e2, Builtin.max2, List.foldlM]
        · split <;> assumption
    · trivial
  · rename_i x y
    split
    · rename_i t t' hts
      simp only at hts
      subst hts
      split
      · rename_i e ht hel
        have := Nat.eq_of_beq_eq_true ht
        subst this
        obtain ⟨X, Y, rfl, hx, hy⟩ := VLs_two hus
        · have hap := append_ok (ty := o.type) hC.tab hh hel rfl hx hy
          cases hq : appendA C.tt H e x y with
          | bad => trivial
          | val g v => exact (val_no hq).elim
          | red g b v => exact (red_no hq).elim
          | upd g b blk v => rw [hq] at hap; exact fun hg => OpE.of (he _ rfl) (hap hg)
          | new g p blk => rw [hq] at hap; exact fun hg => OpN.of (he _ rfl) (hap hg)
      · trivial
    · trivial
  · trivial

set_option maxHeartbeats 1000000 in
/-- Each operation is as the model has it. -/
theorem aop_ok (hC : CfgOk P C) (hr : RepA C σ n ds fr a) (hh : HR C F G w0 σ H w) (o : Oper) : (aop C fr H o.op).ok P C F G w0 σ H a w o := by
  have ht := hC.tab
  obtain ⟨dst, op, ty, pos, after, guard⟩ := o
  cases op with
  | move x => exact on1_ok hr fun u hu _ => ⟨_, rfl, hu⟩
  | assign x => exact on1_ok hr fun u hu _ => ⟨_, rfl, hu⟩
  | pick c x y =>
    simp only [aop]
    unfold pickA
    split
    · rename_i hc
      have h1 := VR.bool (hr.ev hc)
      split
      · rename_i v hv; intro _; exact ⟨_, by simp [execOp, h1, asBool], hr.ev hv⟩
      · trivial
    · rename_i hc
      have h1 := VR.bool (hr.ev hc)
      split
      · rename_i v hv; intro _; exact ⟨_, by simp [execOp, h1, asBool], hr.ev hv⟩
      · trivial
    · trivial
  | binOp op t x y t' => exact on2_ok hr fun u v hu hv => v_only bin_shape fun g r hq hg => OpV.of rfl (bin_ok ht hq hg (fun h => h) hu hv)
  | unOp op t x => exact on1_ok hr fun u hu => v_only (by unfold unA; split <;> rfl) fun g r hq _ => OpV.of rfl (un_ok hq hu).2
  | extract t ix => exact on1_ok hr fun u hu => v_only (by unfold extA; split <;> (try split) <;> rfl) fun g r hq _ => OpV.of rfl (ext_ok hq hu).2
  | convert s d x =>
    refine on1_ok hr fun u hu => ?_
    have hcv := conv_eff (P := P) ht hh (s := s) (d := d) rfl hu
    cases hq : convA C.tt H s d u with
    | bad => trivial
    | val g v => exact fun _ => OpV.of rfl (conv_val ht hq hu).2
    | red g b v => exact fun _ => OpV.of rfl (conv_red ht hh hq hu).2
    | upd g b blk v => rw [hq] at hcv; exact fun hg => OpE.of rfl (hcv hg)
    | new g p blk => rw [hq] at hcv; exact fun hg => OpN.of rfl (hcv hg)
  | makeInterface t x => exact on1_ok hr fun u hu => v_only (by unfold ifaceA; split <;> (try split) <;> rfl) fun g r hq _ => OpV.of rfl (iface_ok hC.tE hC.tA hq hu).2
  | makeFunc fn first caps =>
    cases fn with
    | func f =>
      obtain ⟨first⟩ := first
      obtain ⟨caps⟩ := caps
      simp only [aop]
      cases h1 : evL fr first with
      | none => trivial
      | some l1 =>
        cases h2 : evL fr caps with
        | none => trivial
        | some l2 =>
          intro _
          refine OpV.of rfl ⟨_, rfl, ?_⟩
          simp only [List.map_toArray]
          exact ⟨_, _, (hr.evL h1).ofList, (hr.evL h2).ofList, rfl⟩
    | _ => trivial
  | nilCheck x =>
    refine on1_ok hr fun u hu => ?_
    cases u <;> try trivial
    · rename_i b g p
      intro _
      obtain ⟨pl, ad, h1, h2, h3, h4⟩ := VR.ptr hu
      exact ⟨.pointer (some ad), by simp [execOp, h4], by rw [← h4]; exact hu⟩
    · rename_i f x1 x2
      intro _
      have hu' := hu
      simp only [RL] at hu
      obtain ⟨p, q, _, _, h3⟩ := hu
      simp only [List.cons.injEq, and_true] at h3
      exact ⟨.func (.func f) p.toArray q.toArray, by simp [execOp, h3], by rw [← h3]; exact hu'⟩
  | field t x i => exact on1_ok hr fun u hu => v_only (by unfold fieldA; split <;> (try split) <;> rfl) fun g r hq _ => OpV.of rfl (field_ok ht hq hu).2
  | index t x i => exact on2_ok hr fun u v hu hv => v_only (by unfold indexA; split <;> (try split) <;> rfl) fun g r hq hg => OpV.of rfl (index_ok ht hq hg hu hv)
  | fieldAddr t x i => exact on1_ok hr fun u hu => v_only (by unfold faddrA; split <;> (try split) <;> (try split) <;> rfl) fun g r hq _ => OpV.of rfl (faddr_ok ht hh hq hu).2
  | indexAddr t x i => exact on2_ok hr fun u v hu hv => v_only (by unfold iaddrA; split <;> (try split) <;> (try split) <;> (try split) <;> rfl) fun g r hq hg => OpV.of rfl (iaddr_ok ht hh hq hg hu hv)
  | slice t x lo hi mx =>
    cases mx with
    | some _ => trivial
    | none =>
      have hb : ∀ (q : Option Operand) u, q.map (ev fr) = some (some u) → ∃ c, q.map a.eval = some c ∧ VR C σ u c := by
        intro q u hq
        cases q with
        | none => cases hq
        | some y => simp only [Option.map_some, Option.some.injEq] at hq; exact ⟨_, rfl, hr.ev hq⟩
      have hb' : ∀ (q : Option Operand), q.map (ev fr) = none → q.map a.eval = none := by
        intro q hq
        cases q with
        | none => rfl
        | some y => cases hq
      exact on1_ok hr fun u hu => v_only (by unfold sliceA; split <;> (try split) <;> (try split) <;> rfl) fun g r hq hg => OpV.of rfl (slice_ok ht hh hq hg hu (hb lo) (hb' lo) (hb hi) (hb' hi))
  | alloc t => exact n_only (by simp only [aop, allocA]; split <;> (try split) <;> first | exact ⟨_, _, _, .inl rfl⟩ | exact ⟨true, true, .dead, .inr rfl⟩) fun g p blk hq _ => OpN.of rfl (alloc_ok ht hh hq).2
  | box t x => exact on1_ok hr fun u hu => n_only (by unfold boxA; split <;> first | exact ⟨_, _, _, .inl rfl⟩ | exact ⟨true, true, .dead, .inr rfl⟩) fun g p blk hq _ => OpN.of rfl (box_ok ht hh hq hu).2
  | build t parts =>
    obtain ⟨parts⟩ := parts
    simp only [aop]
    cases h1 : evP fr parts with
    | none => trivial
    | some l =>
      exact v_only (by simp only [onL]; unfold buildA; split <;> (try split) <;> rfl) fun g r hq _ => OpV.of (s := Instr.build t (parts.map fun (p : Nat × Operand) => (p.1, a.eval p.2)).toArray) (by simp [execOp]) (build_ok ht hq (evP_ok hr h1)).2
  | buildSlice t m parts =>
    obtain ⟨parts⟩ := parts
    simp only [aop]
    cases h1 : evP fr parts with
    | none => trivial
    | some l =>
      exact n_only (by simp only [onL, bsliceA]; split <;> (try split) <;> (try split) <;> first | exact ⟨_, _, _, .inl rfl⟩ | exact ⟨true, true, .dead, .inr rfl⟩) fun g p blk hq hg => OpN.of (s := Instr.buildSlice t m (parts.map fun (p : Nat × Operand) => (p.1, a.eval p.2)).toArray) (by simp [execOp]) (bslice_ok ht hh hq hg (evP_ok hr h1))
  | makeSlice t m c => exact on2_ok hr fun u v hu hv => n_only (by unfold mksliceA; split <;> (try split) <;> (try split) <;> first | exact ⟨_, _, _, .inl rfl⟩ | exact ⟨true, true, .dead, .inr rfl⟩) fun g p blk hq hg => OpN.of rfl (mkslice_ok ht hh hq hg hu hv)
  | load t x =>
    refine on1_ok hr fun u hu => ?_
    have hs : (loadOp C.tt H t u).isR = true := by unfold loadOp; split <;> (try split) <;> (try split) <;> rfl
    cases hq : loadOp C.tt H t u with
    | bad => trivial
    | val g v => exfalso; unfold loadOp at hq; split at hq <;> (try split at hq) <;> (try split at hq) <;> cases hq
    | red g b v => exact fun _ => OpV.of rfl (load_ok ht hh hq hu).2
    | upd _ _ _ _ => rw [hq] at hs; cases hs
    | new _ _ _ => rw [hq] at hs; cases hs
  | store t x y =>
    refine on2_ok hr fun u v hu hv => ?_
    cases hq : storeOp C.tt H t u v with
    | bad => trivial
    | val g v => exfalso; unfold storeOp at hq; split at hq <;> (try split at hq) <;> (try split at hq) <;> cases hq
    | red g b v => exfalso; unfold storeOp at hq; split at hq <;> (try split at hq) <;> (try split at hq) <;> cases hq
    | new _ _ _ => exfalso; unfold storeOp at hq; split at hq <;> (try split at hq) <;> (try split at hq) <;> cases hq
    | upd g b blk r =>
      intro _
      obtain ⟨_, rfl, w', σ', h1, h2, h3⟩ := store_ok ht hh hq hu hv
      exact ⟨.skip, undef, w', σ', by simp [execOp, h1], .inr ⟨rfl, rfl⟩, h2, rfl, h3⟩
  | call c =>
    obtain ⟨callee, ⟨as⟩, ts⟩ := c
    cases callee with
    | builtin b =>
      simp only [aop]
      cases h1 : evL fr as with
      | none => trivial
      | some us => exact bi_ok hC hh rfl (hr.evL h1)
    | value f => trivial
    | invoke f m => trivial
  | _ => trivial
end
end Go.Proofs.YtaakccdfgejgpaaGreatDoor.Abs
