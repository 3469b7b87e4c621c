/-
  Regions in the order they stand in: what the evaluator says holds.
-/
import Derived.Test.YtaakccdfgejgpaaGreatDoorAbsP
namespace Go.Proofs.YtaakccdfgejgpaaGreatDoor.Abs
open Go
set_option linter.unusedVariables false

theorem appl_len : ∀ (bs : List (Nat × Blk)) (H : Heap), (appl H bs).length = H.length
  | [], _ => rfl
  | (b, x) :: r, H => by rw [appl, appl_len r, hset_len]
theorem appl_agree : ∀ (bs : List (Nat × Blk)) {H Hc : Heap} {b : Nat}, (∀ x ∈ bs, x.1 < H.length ∧ x.1 < Hc.length) → (hget Hc b = hget H b ∨ b ∈ fsts bs) → hget (appl Hc bs) b = hget (appl H bs) b
  | [], H, Hc, b, _, h => by
    rcases h with h | h
    · exact h
    · cases h
  | (i, x) :: r, H, Hc, b, hl, h => by
    have h1 := hl (i, x) List.mem_cons_self
    simp only [appl]
    refine appl_agree r (fun y hy => by rw [hset_len, hset_len]; exact hl y (List.mem_cons_of_mem _ hy)) ?_
    rw [hget_set h1.1, hget_set h1.2]
    by_cases e : i = b
    · rw [if_pos e, if_pos e]; exact .inl rfl
    · rw [if_neg e, if_neg e]
      rcases h with h | h
      · exact .inl h
      · simp only [fsts, List.mem_cons] at h
        exact .inr (h.resolve_left (fun h => e h.symm))
theorem appl_other : ∀ (bs : List (Nat × Blk)) {H : Heap} {b : Nat}, ¬ b ∈ fsts bs → hget (appl H bs) b = hget H b
  | [], _, _, _ => rfl
  | (i, x) :: r, H, b, h => by
    simp only [fsts, List.mem_cons, not_or] at h
    rw [appl, appl_other r h.2]
    by_cases hl : i < H.length
    · rw [hget_set hl, if_neg (fun e => h.1 e.symm)]
    · have : ∀ (H : Heap) (i : Nat), ¬ i < H.length → hset H i x = H := by
        intro H
        induction H with
        | nil => intro i _; cases i <;> rfl
        | cons y s ih => intro i hi; cases i with
          | zero => simp at hi
          | succ i => simp only [hset]; rw [ih i (by simpa using hi)]
      rw [this H i hl]
theorem mem_fsts {bs : List (Nat × Blk)} {b : Nat} : b ∈ fsts bs ↔ ∃ x ∈ bs, x.1 = b := by
  induction bs with
  | nil => simp [fsts]
  | cons p r ih =>
    obtain ⟨i, x⟩ := p
    simp only [fsts, List.mem_cons, ih]
    constructor
    · rintro (rfl | ⟨y, hy, rfl⟩)
      · exact ⟨_, .inl rfl, rfl⟩
      · exact ⟨y, .inr hy, rfl⟩
    · rintro ⟨y, rfl | hy, rfl⟩
      · exact .inl rfl
      · exact .inr ⟨y, hy, rfl⟩
theorem appl_mem : ∀ (bs : List (Nat × Blk)) (H : Heap) (b : Nat), hget (appl H bs) b = hget H b ∨ ∃ x ∈ bs, x.1 = b ∧ hget (appl H bs) b = x.2
  | [], _, _ => .inl rfl
  | (i, x) :: r, H, b => by
    rw [appl]
    rcases appl_mem r (hset H i x) b with h | ⟨y, hy, h⟩
    · rw [h]
      by_cases hl : i < H.length
      · rw [hget_set hl]
        by_cases e : i = b
        · rw [if_pos e]; exact .inr ⟨(i, x), List.mem_cons_self, e, rfl⟩
        · rw [if_neg e]; exact .inl rfl
      · left
        have : ∀ (H : Heap) (i : Nat), ¬ i < H.length → hset H i x = H := by
          intro H
          induction H with
          | nil => intro i _; cases i <;> rfl
          | cons y s ih => intro i hi; cases i with
            | zero => simp at hi
            | succ i => simp only [hset]; rw [ih i (by simpa using hi)]
        rw [this H i hl]
    · exact .inr ⟨y, List.mem_cons_of_mem _ hy, h⟩
theorem mem_range {b : Nat} : ∀ {k n : Nat}, b ∈ range n k ↔ n ≤ b ∧ b < n + k
  | 0, n => by simp [range]
  | k + 1, n => by simp only [range, List.mem_cons, mem_range (k := k)]; omega
theorem mem_topsO {fr : Fr} {b : Nat} : ∀ {xs : List Operand} {x : Operand} {v : AVal}, x ∈ xs → ev fr x = some v → b ∈ v.top → b ∈ topsO fr xs
  | y :: r, x, v, hx, he, hb => by
    rcases List.mem_cons.1 hx with rfl | hx
    · simp only [topsO, he, List.mem_append]; exact .inl hb
    · have := mem_topsO hx he hb
      simp only [topsO]
      split
      · exact List.mem_append_right _ this
      · exact this
theorem upd_live {C : Cfg} {fr : Fr} {H : Heap} {op : Op} {g : Bool} {b : Nat} {blk : Blk} {v : AVal} (h : aop C fr H op = .upd g b blk v) : (hget H b).live = true := by
  have h1 : ∀ {f : AVal → AOut} {x : Option AVal}, on1 f x = .upd g b blk v → ∃ u, f u = .upd g b blk v := by
    intro f x h; cases x with
    | none => cases h
    | some u => exact ⟨u, h⟩
  have h2 : ∀ {f : AVal → AVal → AOut} {x y : Option AVal}, on2 f x y = .upd g b blk v → ∃ u w, f u w = .upd g b blk v := by
    intro f x y h; cases x with
    | none => cases h
    | some u => cases y with
      | none => cases h
      | some w => exact ⟨u, w, h⟩
  have hV : ∀ {out : AOut}, out.isV = true → out = .upd g b blk v → False := by rintro out h rfl; cases h
  cases op with
  | move x => obtain ⟨u, h⟩ := h1 h; cases h
  | assign x => obtain ⟨u, h⟩ := h1 h; cases h
  | pick c x y => simp only [aop] at h; unfold pickA at h; split at h <;> (try split at h) <;> cases h
  | binOp op t x y t' => obtain ⟨u, w, h⟩ := h2 h; exact (hV bin_shape h).elim
  | unOp op t x => obtain ⟨u, h⟩ := h1 h; unfold unA at h; split at h <;> cases h
  | extract t ix => obtain ⟨u, h⟩ := h1 h; unfold extA at h; split at h <;> (try split at h) <;> cases h
  | convert s d x =>
    obtain ⟨u, h⟩ := h1 h
    unfold convA at h
    split at h <;> try cases h
    split at h <;> try cases h
    · split at h <;> cases h
    · split at h <;> try cases h
      split at h <;> cases h
    · split at h <;> cases h
    · split at h <;> try cases h
      rename_i hb
      split at h <;> try cases h
      rw [hb]; rfl
  | makeInterface t x => obtain ⟨u, h⟩ := h1 h; unfold ifaceA at h; split at h <;> (try split at h) <;> cases h
  | makeFunc fn first caps =>
    cases fn with
    | func f =>
      simp only [aop] at h
      cases k1 : evL fr first.toList with
      | none => rw [k1] at h; cases h
      | some l1 => cases k2 : evL fr caps.toList with
        | none => rw [k1, k2] at h; cases h
        | some l2 => rw [k1, k2] at h; cases h
    | _ => cases h
  | nilCheck x => obtain ⟨u, h⟩ := h1 h; unfold nilckA at h; split at h <;> cases h
  | field t x i => obtain ⟨u, h⟩ := h1 h; unfold fieldA at h; split at h <;> (try split at h) <;> cases h
  | index t x i => obtain ⟨u, w, h⟩ := h2 h; unfold indexA at h; split at h <;> (try split at h) <;> cases h
  | fieldAddr t x i => obtain ⟨u, h⟩ := h1 h; unfold faddrA at h; split at h <;> (try split at h) <;> (try split at h) <;> cases h
  | indexAddr t x i => obtain ⟨u, w, h⟩ := h2 h; unfold iaddrA at h; split at h <;> (try split at h) <;> (try split at h) <;> (try split at h) <;> cases h
  | slice t x lo hi mx =>
    cases mx with
    | some _ => cases h
    | none => obtain ⟨u, h⟩ := h1 h; unfold sliceA at h; split at h <;> (try split at h) <;> (try split at h) <;> cases h
  | alloc t => simp only [aop] at h; unfold allocA at h; split at h <;> (try split at h) <;> cases h
  | box t x => obtain ⟨u, h⟩ := h1 h; unfold boxA at h; split at h <;> cases h
  | build t parts =>
    simp only [aop] at h
    cases k1 : evP fr parts.toList with
    | none => rw [k1] at h; cases h
    | some l => rw [k1] at h; simp only [onL] at h; unfold buildA at h; split at h <;> (try split at h) <;> cases h
  | buildSlice t m parts =>
    simp only [aop] at h
    cases k1 : evP fr parts.toList with
    | none => rw [k1] at h; cases h
    | some l => rw [k1] at h; simp only [onL] at h; unfold bsliceA at h; split at h <;> (try split at h) <;> (try split at h) <;> cases h
  | makeSlice t m c => obtain ⟨u, w, h⟩ := h2 h; unfold mksliceA at h; split at h <;> (try split at h) <;> (try split at h) <;> cases h
  | load t x => obtain ⟨u, h⟩ := h1 h; unfold loadOp at h; split at h <;> (try split at h) <;> (try split at h) <;> cases h
  | store t x y =>
    obtain ⟨u, w, h⟩ := h2 h
    unfold storeOp at h
    split at h <;> try cases h
    split at h <;> try cases h
    rename_i hst
    split at h <;> try cases h
    unfold storeA at hst
    split at hst
    · rename_i hb; rw [hb]; rfl
    · rename_i hb; rw [hb]; rfl
    · cases hst
  | call c =>
    obtain ⟨callee, as, ts⟩ := c
    cases callee with
    | builtin q =>
      simp only [aop] at h
      cases k1 : evL fr as.toList with
      | none => rw [k1] at h; cases h
      | some us =>
        rw [k1] at h
        simp only [onL] at h
        unfold biA at h
        split at h
        · split at h <;> (try split at h) <;> cases h
        · split at h <;> cases h
        · split at h <;> cases h
        · split at h <;> try cases h
          split at h <;> try cases h
          unfold appendA at h
          split at h <;> try cases h
          split at h <;> try cases h
          split at h <;> try cases h
          · split at h <;> cases h
          · split at h <;> try cases h
            rename_i hb
            split at h <;> try cases h
            rw [hb]; rfl
        · cases h
    | value f => cases h
    | invoke f m => cases h
  | _ => cases h

section
variable {P : Program} {E : Env} {σ σ' : List Pl} {n : Nat} {ds : List Deferred} {fr fr' : Fr} {a : Act} {w w0 : World} {F G : Nat → Prop} {H Hc : Heap} {Q : Exit → Act → World → Prop} {ops : List Oper}

theorem nv_at {C : Cfg} {τ : List Pl} {p : Bool} {q : Pl} {m : Nat} {c : Value} (h : VR C (σ ++ [q]) (nv p σ.length) c) (hq : τ[m]? = some q) : VR C τ (nv p m) c := by
  have hl : ∀ pl : Pl, (σ ++ [q])[σ.length]? = some pl → pl = q := by
    intro pl h
    rw [List.getElem?_append_right (Nat.le_refl _)] at h
    simpa using h.symm
  cases p with
  | true =>
    simp only [nv, RL] at h ⊢
    obtain ⟨pl, ad, h1, h2⟩ := h
    have := hl pl h1
    subst this
    exact ⟨pl, ad, hq, h2⟩
  | false =>
    simp only [nv, RL] at h ⊢
    obtain ⟨pl, A, len, cap, h1, h2⟩ := h
    have := hl pl h1
    subst this
    exact ⟨pl, A, len, cap, hq, h2⟩

theorem LeD.refl (H : Heap) (σ : List Pl) : LeD H σ σ := ⟨.refl σ, rfl, fun _ _ => rfl⟩

theorem enters_run {f : Nat} (h : entersB P f = true) (args : Array Value) (w : World) : (callFunc f args).run P w = .ok (.enter f args) w := by
  unfold entersB at h
  split at h
  · rename_i fn hf
    simp only [Bool.and_eq_true, bne_iff_ne, ne_eq] at h
    obtain ⟨b, hb⟩ := Option.isSome_iff_exists.1 h.2
    simp [callFunc, program, Sem.run, hf, h.1, hb]
  · cases h

theorem LeD.toF {n k : Nat} (h : LeD H σ σ') : LeF H n k σ σ' := ⟨h.1, h.2.1, fun b hb _ => h.2.2 b hb⟩
/-- What an operation does, in any memory that agrees where it looks. -/
theorem Did.exec (hC : CfgOk P E.C) {o : Oper} {D T : List Nat} {v : AVal} {H' : Heap} (hd : Did P E n fr H o D T v H') (heq : ∀ x ∈ opnds o.op, ev fr x = ev fr' x) (hag : ∀ b, 2 * b ∈ D → hget Hc b = hget H b) (hagS : ∀ b, 2 * b + 1 ∈ D → (hget Hc b).shp = (hget H b).shp) (hr : RepA E.C σ n ds fr' a) (hh : HR E.C F G w0 σ Hc w) :
    ∃ bs ns, H' = appl H bs ++ ns ∧ (∀ b, 2 * b ∈ T ↔ b ∈ fsts bs ++ range H.length ns.length) ∧ (∀ x ∈ bs, x.1 < H.length ∧ x.1 < Hc.length) ∧ (Free σ Hc H.length ns.length →
      o.wp P a w (fun a' w' => ∃ c σ', a' = a.put o.dst c ∧ LeF Hc H.length ns.length σ σ' ∧ HR E.C F G w0 σ' (hsets (appl Hc bs) H.length ns) w' ∧ VR E.C σ' v c) Q) := by
  have hlen := hh.len
  have same : D = lookT fr o.op → aop E.C fr H o.op = aop E.C fr' Hc o.op := by
    rintro rfl
    refine aop_look heq (fun h2 x hx u hu b hb => ?_) (fun h1 x hx u hu b hb => ?_)
    · exact (hag b (by unfold lookT; rw [h2]; exact mem_cTag.2 (mem_topsO hx hu hb))).symm
    · exact (hagS b (by unfold lookT; rw [h1]; exact mem_sTag.2 (mem_topsO hx hu hb))).symm
  have hop := aop_ok hC hr hh o
  cases hd with
  | val h =>
    rw [← same rfl, h] at hop
    obtain ⟨c, h1, h2⟩ := hop rfl
    refine ⟨[], [], by simp [appl], fun b => by simp [fsts, range], by simp, fun _ => ?_⟩
    unfold Oper.wp
    rw [h1, Oper.upon_value]
    exact ⟨c, σ, rfl, (LeD.refl Hc σ).toF, hh, h2⟩
  | red h =>
    rw [← same rfl, h] at hop
    obtain ⟨c, h1, h2⟩ := hop rfl
    refine ⟨[], [], by simp [appl], fun b => by simp [fsts, range], by simp, fun _ => ?_⟩
    unfold Oper.wp
    rw [h1, Oper.upon_value]
    exact ⟨c, σ, rfl, (LeD.refl Hc σ).toF, hh, h2⟩
  | upd h =>
    rename_i b blk
    have l1 := hget_len (upd_live h)
    have h' := h
    rw [same rfl] at h'
    have l2 := hget_len (upd_live h')
    rw [h'] at hop
    obtain ⟨nx, c, w', σ', h1, h2, h3, h4, h5⟩ := hop rfl
    refine ⟨[(b, blk)], [], by simp [appl], fun i => by rw [mem_touchU.1]; simp [fsts, range], by simp only [List.mem_singleton, forall_eq]; exact ⟨l1, l2⟩, fun _ => ?_⟩
    unfold Oper.wp
    rw [h1]
    rcases h2 with rfl | ⟨rfl, rfl⟩
    · rw [Oper.upon_value]
      exact ⟨c, σ', rfl, h3.toF, h5, h4⟩
    · rw [Oper.upon_skip]
      exact ⟨undef, σ', rfl, h3.toF, h5, h4⟩
  | new h hi =>
    rename_i p blk
    rw [← same rfl, h] at hop
    obtain ⟨c, w', q, h1, h2, h3, h4⟩ := hop rfl
    refine ⟨[], [blk], by simp [appl], fun i => by rw [mem_touchA.1]; simp [fsts, range], by simp, fun hf => ?_⟩
    unfold Oper.wp
    rw [h1, Oper.upon_value]
    have hf1 := hf.1
    simp only [List.length_singleton] at hf1
    have hmv := HR.moves (nw := H.length) (pls := [q]) (blks := [blk]) h4 hlen (by simpa using hf1) (fun j hj => (hf.2 j hj).1) (fun j hj => (hf.2 j hj).2) (by simpa using h2) hh.closed (by
      intro x hx i hi'
      simp only [List.mem_singleton] at hx
      subst hx
      have := hi i hi'; omega)
    refine ⟨c, setL σ H.length [q], rfl, ⟨hmv.2, setL_len _ _ _, fun b hb hout => ?_⟩, hmv.1, ?_⟩
    · rw [setL_get _ _ _ _ (by simp only [List.length_singleton]; omega), if_neg (by simpa using hout)]
    · rw [← hlen] at h3
      refine nv_at h3 ?_
      rw [setL_get _ _ _ _ (by simp only [List.length_singleton]; omega), if_pos (by simp)]
      simp
  | call ho hx hu h1 h2 hc =>
    rename_i x as ts f first caps us bs ns D0
    have hxo : x ∈ opnds o.op := by rw [ho]; simp [opnds]
    have hx' : ev fr' x = some (.fn f first caps) := by rw [← heq x hxo]; exact hx
    have hu' : evL fr' as.toList = some us := by
      rw [← evL_congr (fun y hy => heq y (by rw [ho]; simp only [opnds]; exact List.mem_cons_of_mem _ hy))]
      exact hu
    have hf := hr.ev hx'
    simp only [RL] at hf
    obtain ⟨X, Y, k1, k2, k3⟩ := hf
    simp only [List.cons.injEq, and_true] at k3
    have hargs : VLs E.C σ (first.toList ++ us ++ caps.toList) (X ++ as.toList.map a.eval ++ Y) := ((VLs.toList k1 h1).append (hr.evL hu')).append (VLs.toList k2 h2)
    have hag : ∀ b ∈ D0, hget Hc b = hget H b := fun b hb => hag b (mem_cTag.2 hb)
    have hD : ∀ b ∈ D0, b < Hc.length := fun b hb => hget_len (by rw [hag b hb]; exact hc.live b hb)
    refine ⟨bs, ns, rfl, fun b => mem_touchA.1, fun y hy => ⟨hget_len (hc.live _ (hc.upd y hy)), hD _ (hc.upd y hy)⟩, fun hf => ?_⟩
    rcases hc.calls F G w0 σ Hc w _ hag hf hh hargs with ⟨hen, hcall⟩ | ⟨_, c, hval, σ', q1, q2, q3⟩
    · have hrun : (execOp a.eval o).run P w = .ok (.enter f (X ++ as.toList.map a.eval ++ Y).toArray) w := by
        unfold execOp
        have e1 : as.map a.eval = (as.toList.map a.eval).toArray := by rw [← Array.toList_map]
        simp only [ho, resolve, e1]
        simp [Deferred.ofValue, invoke, k3, enters_run hen]
      unfold Oper.wp
      rw [hrun, Oper.upon_enter]
      refine hcall.mono ?_
      rintro e w' ⟨c, rfl, σ', q1, q2, q3⟩
      exact ⟨c, σ', rfl, q1, q2, q3⟩
    · have hrun : (execOp a.eval o).run P w = .ok (.value c) w := by
        unfold execOp
        have e1 : as.map a.eval = (as.toList.map a.eval).toArray := by rw [← Array.toList_map]
        simp only [ho, resolve, e1]
        simp [Deferred.ofValue, invoke, k3] at hval ⊢
        exact hval
      unfold Oper.wp
      rw [hrun, Oper.upon_value]
      exact ⟨c, σ', rfl, q1, q2, q3⟩

theorem appl_app : ∀ (bs : List (Nat × Blk)) {H q : Heap}, (∀ x ∈ bs, x.1 < H.length) → appl (H ++ q) bs = appl H bs ++ q
  | [], _, _, _ => rfl
  | (b, x) :: r, H, q, h => by
    have hb := h (b, x) List.mem_cons_self
    have : ∀ (H : Heap) (b : Nat), b < H.length → hset (H ++ q) b x = hset H b x ++ q := by
      intro H
      induction H with
      | nil => intro b hb; simp at hb
      | cons y s ih => intro b hb; cases b with
        | zero => rfl
        | succ b => simp only [List.cons_append, hset]; rw [ih b (by simpa using hb)]
    rw [appl, appl, this H b hb, appl_app r (fun y hy => by rw [hset_len]; exact h y (List.mem_cons_of_mem _ hy))]
/-- Room kept at the end is filled. -/
theorem hsets_fill {A : Heap} {ns : List Blk} {n : Nat} (hn : n = A.length) : hsets (A ++ List.replicate ns.length .dead) n ns = A ++ ns := by
  subst hn
  refine heap_ext (by rw [hsets_len]; simp) fun b => ?_
  rw [hsets_get _ _ _ _ (by simp), hget_app, hget_app]
  by_cases hb : b < A.length
  · rw [if_neg (by omega), if_pos hb, if_pos hb]
  · rw [if_neg hb, if_neg hb]
    by_cases h2 : b < A.length + ns.length
    · rw [if_pos (by omega)]
    · rw [if_neg (by omega), hget_rep, hget_ge (by omega)]

theorem gd_spec (hr : RepA E.C σ n ds fr a) {o : Oper} {b : Bool} (h : gdV ops fr o = some b) : Region.wanted o (yielded ops.toArray a.tmps) = b := by
  unfold gdV at h
  unfold Region.wanted
  split at h
  · rename_i hg; cases h; rw [hg]
  · rename_i j want hg
    rw [hg]
    simp only
    split at h
    · cases h
    · rename_i oj hj
      rw [opAt_eq] at hj
      split at h
      · cases h
      · rename_i d hd
        split at h
        · rename_i c hc
          cases h
          obtain ⟨x, hx, hv⟩ := hr.vals d _ hc
          have := VR.bool hv
          subst this
          simp only [yielded, List.getElem?_toArray, hj, Option.bind_some, hd, hx]
          cases c <;> cases want <;> rfl
        · rename_i hc
          cases h
          obtain ⟨x, hx, hv⟩ := hr.vals d _ hc
          simp only [RL, List.cons.injEq, and_true] at hv
          subst hv
          simp only [yielded, List.getElem?_toArray, hj, Option.bind_some, hd, hx]
          cases want <;> rfl
        · cases h

theorem putA_rep (hr : RepA E.C σ n ds fr a) {dst : Option Tmp} {v : AVal} {c : Value} (h : putA n dst v fr = some fr') (hv : VR E.C σ v c) : RepA E.C σ n ds fr' (a.put dst c) := by
  unfold putA at h
  split at h
  · cases h; exact hr
  · split at h
    · rename_i hd; cases h; exact hr.put hd hv
    · cases h

/-- A region in the order it stands in. -/
theorem reg_plain (hC : CfgOk P E.C) {id : Nat} {t : Trc} (ht : ∀ j o, ops[j]? = some o → t.at_ P E n ops j o) (hr : RepA E.C σ n ds (t.F 0) a) (hh : HR E.C F G w0 σ (t.H 0) w)
    (hend : ∀ σ' a' w', Le σ σ' → RepA E.C σ' n ds (t.F ops.length) a' → HR E.C F G w0 σ' (t.H ops.length) w' → Q .normal a' w') : (Code.region id ops.toArray false).wp P Q a w := by
  refine wp_region_lit ?_
  have key : ∀ (k i : Nat), i + k = ops.length → ∀ σ' a' w', Le σ σ' → RepA E.C σ' n ds (t.F i) a' → HR E.C F G w0 σ' (t.H i) w' → wpList P ops.toArray Q (ops.drop i) a' w' := by
    intro k
    induction k with
    | zero =>
      intro i hi σ' a' w' hl hr hh
      have : i = ops.length := by omega
      subst this
      rw [List.drop_length]
      exact hend σ' a' w' hl hr hh
    | succ k ih =>
      intro i hi σ' a' w' hl hr hh
      have hlt : i < ops.length := by omega
      rw [List.drop_eq_getElem_cons hlt]
      obtain ⟨h1, h2, h3, fr', h4, h5⟩ := ht i _ (List.getElem?_eq_getElem hlt)
      unfold wpList
      have hw := gd_spec hr h1
      cases hW : t.W i with
      | true =>
        rw [hW] at hw
        rw [if_pos hw]
        left
        have hres := fun k => hh.reserve k
        obtain ⟨bs, ns, e1, e2, e3, hwp⟩ := (h2 hW).exec hC (Hc := t.H i) (fun _ _ => rfl) (fun _ _ => rfl) (fun _ _ => rfl) hr hh (Q := Q)
        have hap : ∀ b, hget (t.H i ++ List.replicate ns.length .dead) b = hget (t.H i) b := fun b => by
          rw [hget_app]
          split
          · rfl
          · rw [hget_rep, hget_ge (by omega)]
        obtain ⟨bs', ns', e1', e2', e3', hwp'⟩ := (h2 hW).exec hC (Hc := t.H i ++ List.replicate ns.length .dead) (fun _ _ => rfl) (fun b _ => hap b) (fun b _ => congrArg Blk.shp (hap b)) (hr.mono (Le.push _ _)) (hres ns.length) (Q := Q)
        have hnn : ns'.length = ns.length := by
          have h1 : (t.H (i + 1)).length = (t.H i).length + ns.length := by rw [e1, List.length_append, appl_len]
          have h2 : (t.H (i + 1)).length = (t.H i).length + ns'.length := by rw [e1', List.length_append, appl_len]
          omega
        refine Oper.wp_mono ?_ (hwp' ⟨by rw [List.length_append, List.length_replicate]; omega, fun j hj => ⟨?_, dum, ?_, rfl⟩⟩)
        · rintro a'' w'' ⟨c, σ'', rfl, q1, q2, q3⟩
          have e4 : hsets (appl (t.H i ++ List.replicate ns.length .dead) bs') (t.H i).length ns' = t.H (i + 1) := by
            rw [appl_app bs' (fun x hx => (e3' x hx).1), ← hnn, hsets_fill (by rw [appl_len]), e1']
          rw [e4] at q2
          have hle := (Le.push σ' (List.replicate ns.length dum)).trans q1.1
          refine ih (i + 1) (by omega) σ'' _ w'' (hl.trans hle) ?_ q2
          exact (putA_rep (hr.mono hle) h4 q3).sub (fun i v hi => h5 i v hi)
        · rw [hget_app, if_neg (by omega), hget_rep]
        · rw [List.getElem?_append_right (by rw [hh.len]; omega), List.getElem?_replicate, if_pos (by rw [hh.len]; omega)]
      | false =>
        rw [hW] at hw
        rw [if_neg (by rw [hw]; simp)]
        obtain ⟨k1, k2, k3, k4⟩ := h3 hW
        refine ih (i + 1) (by omega) σ' _ w' hl ?_ (by rw [k4]; exact hh)
        refine (putA_rep hr h4 (c := undef) ?_).sub (fun i v hi => h5 i v hi)
        rw [k1]; rfl
  have := key ops.length 0 (by omega) σ a w (.refl σ) hr hh
  simpa using this
end
end Go.Proofs.YtaakccdfgejgpaaGreatDoor.Abs
