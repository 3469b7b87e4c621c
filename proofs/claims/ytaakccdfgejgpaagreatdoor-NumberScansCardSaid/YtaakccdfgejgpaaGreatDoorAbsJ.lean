/-
  Memory that is written: stores, new rows, rows that grow.
-/
import Derived.Test.YtaakccdfgejgpaaGreatDoorAbsI
import Derived.Laws.AppendOwn
namespace Go.Proofs.YtaakccdfgejgpaaGreatDoor.Abs
open Go
set_option linter.unusedVariables false

theorem putAt_step {cl r : List Value} {a : Nat} {v : Value} (h : a + (r.length + 1) ≤ cl.length) : putAt (putAt cl a [v]) (a + 1) r = putAt cl a (v :: r) := by
  have hlen : (cl.take a ++ [v]).length = a + 1 := by simp; omega
  have e1 : putAt cl a [v] = (cl.take a ++ [v]) ++ cl.drop (a + 1) := rfl
  have := putAt_app2 (y := cl.drop (a + 1)) (vs := r) (off := 0) hlen
  rw [e1]
  rw [Nat.add_zero] at this
  rw [this]
  simp [putAt, List.drop_drop, Nat.add_assoc, Nat.add_comm 1]

section
variable {P : Program} {C : Cfg} {σ σ' : List Pl} {n : Nat} {w w' w0 : World} {F G : Nat → Prop} {H : Heap}

theorem store1 {c off T : Nat} {fz : Nat × Nat} {cl : List Value} (hb : w.heap[c]? = some (.cells cl.toArray T fz)) (hfz : fzOk fz cl.length) (hj : off < cl.length) (v : Value) (hv : v.oneCell' = true) :
    (store ⟨c, off, none⟩ v).run P w = .ok () (w.setCell ⟨c, off, none⟩ v) ∧ (w.setCell ⟨c, off, none⟩ v).heap[c]? = some (.cells (cl.set off v).toArray T fz) ∧ But c w (w.setCell ⟨c, off, none⟩ v) := by
  refine ⟨?_, ?_, ⟨rfl, rfl, rfl, by simp [World.setCell], fun k _ hk => ?_⟩⟩
  · have hc : w.cell? ⟨c, off, none⟩ = some cl[off] := by simp [World.cell?, hb, hj]
    have hf : w.frozen? ⟨c, off, none⟩ = false := by
      obtain ⟨lo, hi⟩ := fz
      simp only [World.frozen?, hb]
      simp
      rcases hfz with hz | hz <;> simp only at hz <;> omega
    cases v <;> simp [store, Sem.run, hc, hf] <;> cases hv
  · simp only [World.setCell]
    rw [Array.getElem?_modify, if_pos rfl, hb]
    simp
  · simp only [World.setCell]
    rw [Array.getElem?_modify, if_neg (fun e => hk e.symm)]

theorem But.trans {c : Nat} {w1 w2 w3 : World} (h : But c w1 w2) (k : But c w2 w3) : But c w1 w3 :=
  ⟨k.os.trans h.os, k.tape.trans h.tape, k.output.trans h.output, Nat.le_trans h.size k.size, fun i hi hc => (k.other i (Nat.lt_of_lt_of_le hi h.size) hc).trans (h.other i hi hc)⟩
theorem But.refl (c : Nat) (w : World) : But c w w := ⟨rfl, rfl, rfl, Nat.le_refl _, fun _ _ _ => rfl⟩

theorem storeCells_ok {c off T : Nat} {fz : Nat × Nat} : ∀ (vs : List Value) (k : Nat) {w : World} {cl : List Value}, w.heap[c]? = some (.cells cl.toArray T fz) → fzOk fz cl.length → off + k + vs.length ≤ cl.length → (∀ v ∈ vs, v.oneCell' = true) →
    ∃ w', (storeCells ⟨c, off, none⟩ vs k).run P w = .ok () w' ∧ w'.heap[c]? = some (.cells (putAt cl (off + k) vs).toArray T fz) ∧ But c w w' ∧ w'.heap.size = w.heap.size
  | [], k, w, cl, hb, hfz, hl, _ => ⟨w, rfl, by simpa [putAt] using hb, But.refl c w, rfl⟩
  | v :: r, k, w, cl, hb, hfz, hl, hone => by
    simp only [List.length_cons] at hl
    have hlt : off + k < cl.length := by omega
    obtain ⟨h1, h2, h3⟩ := store1 (P := P) hb hfz (off := off + k) hlt v (hone v (by simp))
    obtain ⟨w', k1, k2, k3, k4⟩ := storeCells_ok (off := off) r (k + 1) h2 (by simpa using hfz) (by rw [List.length_set]; omega) (fun u hu => hone u (by simp [hu]))
    refine ⟨w', ?_, ?_, h3.trans k3, by rw [k4]; simp [World.setCell]⟩
    · simp only [storeCells, addr_add, Sem.run_bind, h1, Result.andThen_ok]
      exact k1
    · rw [k2]
      congr 3
      rw [set_put hlt, ← Nat.add_assoc, putAt_step (by omega)]

/-- A place is written. -/
theorem store_ok (ht : TabOk P C.tt) (h : HR C F G w0 σ H w) {t : Nat} {u v r : AVal} {g : Bool} {b0 : Nat} {blk : Blk} {x y : Value} (ho : storeOp C.tt H t u v = .upd g b0 blk r) (hx : VR C σ u x) (hy : VR C σ v y) :
    g = true ∧ r = .undef ∧ ∃ w' σ', (Instr.storeAt t x y).run P w = .ok () w' ∧ LeD H σ σ' ∧ HR C F G w0 σ' (hset H b0 blk) w' := by
  cases u <;> simp only [storeOp, reduceCtorEq] at ho
  rename_i b g' p
  split at ho
  · rename_i u' H1 hp hst
    split at ho
    · rename_i hs
      cases ho
      refine ⟨rfl, rfl, ?_⟩
      obtain ⟨pl, a, h1, h2, h3, rfl⟩ := VR.ptr hx
      obtain ⟨ta, tb, ha, hb, e1, e2⟩ := sameTy_spec hs
      unfold storeA at hst
      split at hst
      · rename_i ver T q hbl
        split at hst
        · rename_i t' hg1 hty
          have hg1 := Nat.eq_of_beq_eq_true hg1
          split at hst
          · rename_i q' hf hq
            cases hst
            obtain ⟨k1, k2, k3, k4, c, cs, fz, k5, k6, k7, k8⟩ := h.var hbl h1
            have hg : g' = pl.gen := by omega
            obtain ⟨m1, c', o, m2, rfl⟩ := h3 hg
            rw [k5] at m2; cases m2
            have htt : t' = u' := by
              rcases placeTy_ok h h1 hg hp with ⟨_, hh⟩ | ⟨hrow, _⟩
              · rw [k3, hty] at hh; exact Option.some.inj hh
              · rw [k1] at hrow; cases hrow
            subst htt
            have hf' := hf
            simp only [fit1, Bool.and_eq_true, Bool.not_eq_true'] at hf'
            obtain ⟨vs, hr, hc⟩ := VR.cells hf'.2 hf'.1 hy
            simp only [pokB, k1, k3] at m1
            obtain ⟨s1, s2, s3⟩ := setP_ok ht k4 k6 hq hty m1 hf hr
            obtain ⟨w', q1, q2, q3, q4⟩ := storeCells_ok (P := P) (c := c) (off := offP C.tt T p) vs 0 k7 k8 (by simpa using s3) (RL.one hr)
            have hvl : vs.length = ta.sz := by rw [RL.len ht hf'.2 hr, e1]; simp [sumSz, tlk_sz hb]
            have hlt := (List.getElem?_eq_some_iff.1 h1).1
            have hset : σ.set b0 pl = σ := by
              have := (List.getElem?_eq_some_iff.1 h1).2
              rw [← this, List.set_getElem_self]
            have hup := h.upd (b := b0) (c := c) h1 (by rw [hbl]; rfl) q3 (.inl ⟨0, k5⟩) pl (Nat.le_refl _) (fun _ => rfl) (.var (ver + 1) T q') (fun c' o' hh => ⟨.inl ⟨o', hh⟩, by
              rw [k5] at hh; cases hh
              rw [q4]; exact (Array.getElem?_eq_some_iff.1 k7).1⟩) ⟨k1, k2, k3, s1, c, _, fz, k5, by rw [hset]; simpa using s2, q2, by rw [putAt_len (by simpa using s3)]; exact k8⟩
            refine ⟨w', _, ?_, hup.2, hup.1⟩
            simp only [offB, k1, k3, Nat.zero_add]
            simp [Instr.storeAt, Instr.sureAddr, storeVar, size_run ht ha, hc, hvl, q1]
          · cases hst
        · cases hst
      · rename_i ver gg e s hbl
        split at hst
        · rename_i i rest hgg
          split at hst
          · rename_i t' q hty hq
            split at hst
            · rename_i s' hf hs'
              cases hst
              have hg' := Nat.eq_of_beq_eq_true hgg
              subst hg'
              obtain ⟨k0, k1⟩ := h.row hbl h1
              have hg : g' = pl.gen := k0.symm
              obtain ⟨m1, c, o, m2, rfl⟩ := h3 hg
              have htt : t' = u' := by
                rcases placeTy_ok h h1 hg hp with ⟨hrow, _⟩ | ⟨_, i', r', he, hh⟩
                · rw [k1.1] at hrow; cases hrow
                · simp only [List.cons.injEq, Stp.x.injEq] at he
                  obtain ⟨rfl, rfl⟩ := he
                  rw [k1.2.2.1, hty] at hh; exact Option.some.inj hh
              subst htt
              have hf' := hf
              simp only [fit1, Bool.and_eq_true, Bool.not_eq_true'] at hf'
              obtain ⟨vs, hr, hc⟩ := VR.cells hf'.2 hf'.1 hy
              simp only [pokB, k1.1] at m1
              have hi : i < s.len := by rw [← k1.2.1]; exact m1.1
              obtain ⟨us, g1, g2, g3⟩ := Sq.get_ok (C := C) (σ := σ) k1.2.2.2.2.2.1 hi
              have hfe := like_fits (i := i) k1.2.2.2.2.1
              have hil : (s.get i).isList = false := by cases s <;> rfl
              have mp := m1.2
              rw [k1.2.2.1] at mp
              obtain ⟨s1, s2, s3⟩ := setP_ok ht (by simp [fit1, hfe, hil]) g1 hq hty mp hf hr
              obtain ⟨z1, z2, z3, z4, z5⟩ := Sq.set_ok k1.2.2.2.2.2.1 hi hs' s2
              have h8 := k1.2.2.2.2.2.2.2.2
              rw [m2] at h8
              obtain ⟨cl, T, fz, y1, y2, y3⟩ := h8
              obtain ⟨rfl, y4, y5⟩ := y3 rfl
              have hvl : vs.length = ta.sz := by rw [RL.len ht hf'.2 hr, e1]; simp [sumSz, tlk_sz hb]
              rw [← g2] at s3 z5
              rw [putAt_in s3] at z5
              have hcl : (i * s.esz + offP C.tt e rest) + vs.length ≤ s.cells.length := by
                rw [List.length_take, List.length_drop, Sq.cells_len] at s3
                have : i * s.esz + s.esz ≤ s.len * s.esz := by rw [← Nat.succ_mul]; exact Nat.mul_le_mul_right _ hi
                rw [Sq.cells_len]; omega
              have hroom : s.cells.length ≤ cl.length := by
                rw [Sq.cells_len, y4, k1.esz]; exact Nat.mul_le_mul_right _ k1.2.2.2.2.2.2.1
              obtain ⟨w', q1, q2, q3, q4⟩ := storeCells_ok (P := P) (c := c) (off := i * s.esz + offP C.tt e rest) vs 0 y1 y5 (by omega) (RL.one hr)
              have hset : σ.set b0 pl = σ := by
                have := (List.getElem?_eq_some_iff.1 h1).2
                rw [← this, List.set_getElem_self]
              have hup := h.upd (b := b0) (c := c) h1 (by rw [hbl]; rfl) q3 (.inl ⟨0, m2⟩) pl (Nat.le_refl _) (fun _ => rfl) (.row (ver + 1) g' true e s') (fun c' o' hh => ⟨.inl ⟨o', hh⟩, by
                rw [m2] at hh; cases hh
                rw [q4]; exact (Array.getElem?_eq_some_iff.1 y1).1⟩) ⟨k0, k1.1, by rw [z2]; exact k1.2.1, k1.2.2.1, by rw [z3]; exact k1.2.2.2.1, sqOk_like k1.2.2.2.2.1 z4, z1, by rw [z2]; exact k1.2.2.2.2.2.2.1, by rw [z2]; exact k1.2.2.2.2.2.2.2.1, by
                rw [m2]
                refine ⟨_, T, fz, q2, ?_, fun _ => ⟨rfl, by rw [putAt_len (by omega)]; exact y4, by rw [putAt_len (by omega)]; exact y5⟩⟩
                intro j x hj
                rw [z5] at hj
                rw [Nat.zero_add, Nat.add_zero]
                -- below the row's own cells both are alike
                have hjl : j < s.cells.length := by
                  have := (List.getElem?_eq_some_iff.1 hj).1
                  rw [putAt_len hcl] at this
                  exact this
                simp only [putAt] at hj ⊢
                rw [List.append_assoc] at hj ⊢
                by_cases a1 : j < i * s.esz + offP C.tt e rest
                · rw [List.getElem?_append_left (by simp; omega), List.getElem?_take, if_pos a1] at hj ⊢
                  have := y2 j x hj
                  simpa using this
                · have l1 : (List.take (i * s.esz + offP C.tt e rest) s.cells).length = i * s.esz + offP C.tt e rest := by simp; omega
                  have l2 : (List.take (i * s.esz + offP C.tt e rest) cl).length = i * s.esz + offP C.tt e rest := by simp; omega
                  rw [List.getElem?_append_right (by omega), l1] at hj
                  rw [List.getElem?_append_right (by omega), l2]
                  by_cases a2 : j - (i * s.esz + offP C.tt e rest) < vs.length
                  · rw [List.getElem?_append_left a2] at hj ⊢
                    exact hj
                  · rw [List.getElem?_append_right (by omega), List.getElem?_drop] at hj ⊢
                    have := y2 _ x hj
                    simpa using this⟩
              refine ⟨w', _, ?_, hup.2, hup.1⟩
              simp only [offB, k1.1, k1.2.2.1, k1.esz, Nat.zero_add]
              simp [Instr.storeAt, Instr.sureAddr, storeVar, size_run ht ha, hc, hvl, q1]
            · cases hst
          · cases hst
        · cases hst
      · cases hst
    · cases ho
  · cases ho

/-! ### New rows -/
/-- A new row: its cells, perhaps with room behind them. -/
theorem new_row (h : HR C F G w0 σ H w) {w1 : World} {e : Nat} {s : Sq} {tl : List Value} {room T : Nat} {fz : Nat × Nat} (hbut : But w.heap.size w w1) (hb : w1.heap[w.heap.size]? = some (.cells (s.cells ++ tl).toArray T fz)) (hfz : fzOk fz (s.cells ++ tl).length)
    (hroom : (s.cells ++ tl).length = room * s.esz) (hlen : s.len ≤ room) (hok : sqOk C.tt e s = true) (hr : s.rng) (hmax : s.len < maxL) :
    HR C F G w0 (σ ++ [⟨true, 1, s.len, some (w.heap.size, 0), e, s.esz, room⟩]) (H ++ [.row 0 1 true e s]) w1 ∧ Le σ (σ ++ [⟨true, 1, s.len, some (w.heap.size, 0), e, s.esz, room⟩]) ∧
      VR C (σ ++ [⟨true, 1, s.len, some (w.heap.size, 0), e, s.esz, room⟩]) (.slice H.length 1 .all) (.slice (some ⟨w.heap.size, 0, none⟩) s.len room) := by
  have hp := h.push hbut ⟨true, 1, s.len, some (w.heap.size, 0), e, s.esz, room⟩ (.row 0 1 true e s)
    ⟨rfl, rfl, rfl, rfl, rfl, hok, hr, hlen, hmax, _, T, fz, hb, fun j v hj => by rw [Nat.zero_add, List.getElem?_append_left (List.getElem?_eq_some_iff.1 hj).1]; exact hj, fun _ => ⟨rfl, hroom, hfz⟩⟩ (fun c o hc => by
      simp only [Option.some.injEq, Prod.mk.injEq] at hc
      exact ⟨hc.1.symm, by rw [← hc.1]; exact (Array.getElem?_eq_some_iff.1 hb).1⟩)
  refine ⟨hp.1, hp.2, ?_⟩
  simp only [RL]
  refine ⟨⟨true, 1, s.len, some (w.heap.size, 0), e, s.esz, room⟩, _, _, _, by rw [← h.len]; simp, Nat.le_refl _, fun _ => ⟨trivial, rfl, hlen, by simp [voff], _, rfl, fun _ => by simp [voff], _, rfl⟩, rfl⟩

theorem elemOf_spec (ht : TabOk P C.tt) {t e : Nat} (h : elemOf C.tt t = some e) : P.underlying t = some (.slice e) := by
  unfold elemOf at h
  split at h
  · rename_i e' sz bt eq he
    cases h
    exact (ht _ _ he).2.1
  · cases h

/-- The zeros of a type, as cells. -/
theorem zeros_cells (zs : List Value) (hz : 0 < zs.length) : ∀ (n : Nat), (List.range (n * zs.length)).map (fun i => zs.toArray[i % zs.toArray.size]!) = (List.replicate n zs).flatten
  | 0 => by simp
  | n + 1 => by
    have ih := zeros_cells zs hz n
    rw [Nat.succ_mul, List.range_add, List.map_append, ih, List.replicate_succ', List.flatten_append]
    congr 1
    simp only [List.map_map, List.flatten_cons, List.flatten_nil, List.append_nil]
    apply List.ext_getElem
    · simp
    · intro j h1 h2
      simp only [List.length_map, List.length_range] at h1
      simp only [List.getElem_map, List.getElem_range, Function.comp, List.size_toArray]
      rw [Nat.add_comm (n * zs.length) j, Nat.add_mul_mod_self_right, Nat.mod_eq_of_lt h1]
      simp [h1]
theorem zq_zero (ht : TabOk P C.tt) {e : Nat} {z : Sq} (h : zq C.tt e = some z) : ∃ te u, tlk C.tt e = some te ∧ zeroA C.tt depth e = some u ∧ te.sz = z.esz ∧ (packV u).cells.toList.length = z.esz ∧ ∀ n, (z.rep n).cells = (List.replicate n (packV u).cells.toList).flatten := by
  have hfl : ∀ {α : Type} (x : α) (n : Nat), List.replicate n x = (List.replicate n [x]).flatten := fun x n => by
    induction n with
    | zero => rfl
    | succ n ih => simp [List.replicate_succ, ← ih]
  unfold zq at h
  split at h <;> first | (cases h; done) | skip
  · rename_i he; cases h; exact ⟨_, .int .u8 0, he, by simp [zeroA, depth, he], (ht _ _ he).2.2, rfl, fun n => by simp only [Sq.rep, Sq.cells, List.map_replicate]; exact hfl _ n⟩
  · rename_i k _ _ _ _ he; cases h; exact ⟨_, .int k 0, he, by simp [zeroA, depth, he], (ht _ _ he).2.2, rfl, fun n => by simp only [Sq.rep, Sq.cells, List.map_replicate]; exact hfl _ n⟩
  · rename_i he; cases h; exact ⟨_, .str [], he, by simp [zeroA, depth, he], (ht _ _ he).2.2, rfl, fun n => by simp only [Sq.rep, Sq.cells, List.map_replicate]; exact hfl _ n⟩
  · rename_i he; cases h; exact ⟨_, .bool false, he, by simp [zeroA, depth, he], (ht _ _ he).2.2, rfl, fun n => by simp only [Sq.rep, Sq.cells, List.map_replicate]; exact hfl _ n⟩
  · rename_i he
    split at h
    · rename_i h1 h2 h3 h4 h5
      cases h
      refine ⟨_, .agg (.pair (.int .i64 0) (.pair (.int .i64 0) (.pair (.int .i64 0) (.pair (.bool false) (.pair (.int .i64 0) .nil))))), he, by simp [zeroA, zeros, depth, he, h1, h2, h3, h4, h5], ?_, rfl, fun n => ?_⟩
      · have hk := (ht _ _ he).2
        have k1 := (ht _ _ h1).2.2
        have k2 := (ht _ _ h2).2.2
        have k3 := (ht _ _ h3).2.2
        have k4 := (ht _ _ h4).2.2
        have k5 := (ht _ _ h5).2.2
        simp only at k1 k2 k3 k4 k5
        simp only [KOk] at hk
        rw [hk.2.2.1]
        simp [sumSz, tlk_sz h1, tlk_sz h2, tlk_sz h3, tlk_sz h4, tlk_sz h5, k1, k2, k3, k4, k5, Sq.esz]
      · simp only [Sq.rep, Sq.cells]
        induction n with
        | zero => rfl
        | succ n ih => rw [List.replicate_succ, List.replicate_succ, List.flatMap_cons, ih]; rfl
    · cases h

theorem foldl_put : ∀ (vs : List Value) (off k : Nat) (cs : Array Value), off + k + vs.length ≤ cs.size → ((vs.zipIdx k).foldl (fun cs (c : Value × Nat) => cs.setIfInBounds (off + c.2) c.1) cs).toList = putAt cs.toList (off + k) vs
  | [], off, k, cs, _ => by simp [putAt]
  | v :: r, off, k, cs, h => by
    simp only [List.length_cons] at h
    simp only [List.zipIdx_cons, List.foldl_cons]
    rw [foldl_put r off (k + 1) _ (by simp; omega)]
    rw [Array.toList_setIfInBounds, set_put (by simp; omega), ← Nat.add_assoc, putAt_step (by simp; omega)]
theorem fill_cons {place : Nat → Option (Nat × Nat)} {i off size : Nat} {v : Value} {vs : List Value} {cs : List Value} {rest : List (Nat × Value)} (hp : place i = some (off, size)) (hv : v.cells = vs.toArray) (hs : vs.length = size) (hl : off + vs.length ≤ cs.length) :
    Instr.fill place cs.toArray ((i, v) :: rest) = Instr.fill place (putAt cs off vs).toArray rest := by
  simp only [Instr.fill, hp, hv, List.size_toArray]
  rw [if_neg (by simp; omega)]
  congr 1
  apply Array.ext'
  have := foldl_put vs off 0 cs.toArray (by simpa using hl)
  simp only [Nat.add_zero] at this
  rw [← this]
  rw [← Array.foldl_toList]
  simp
end
end Go.Proofs.YtaakccdfgejgpaaGreatDoor.Abs
