/-
  Rows, pieces of rows, places in memory: what is read.
-/
import Derived.Test.YtaakccdfgejgpaaGreatDoorAbsG
namespace Go.Proofs.YtaakccdfgejgpaaGreatDoor.Abs
open Go
set_option linter.unusedVariables false

theorem addr_add (b off j : Nat) : (⟨b, off, none⟩ : Addr).add j = ⟨b, off + j, none⟩ := by
  unfold Addr.add; split <;> simp_all

theorem flat_drop : ∀ (l : List Tk) (k : Nat), (l.flatMap encTk).drop (k * 5) = (l.drop k).flatMap encTk
  | [], k => by simp
  | t :: r, 0 => by simp
  | t :: r, k + 1 => by
    rw [List.flatMap_cons, show (k + 1) * 5 = (encTk t).length + k * 5 by simp [encTk]; omega, List.drop_length_add_append, flat_drop r k]
    rfl
theorem flat_take : ∀ (l : List Tk) (k : Nat), (l.flatMap encTk).take (k * 5) = (l.take k).flatMap encTk
  | [], k => by simp
  | t :: r, 0 => by simp
  | t :: r, k + 1 => by
    rw [List.flatMap_cons, show (k + 1) * 5 = (encTk t).length + k * 5 by simp [encTk]; omega, List.take_length_add_append, flat_take r k]
    rfl

theorem cut_len {α : Type} (l : List α) (a b : Int) (h0 : 0 ≤ a) (h1 : a ≤ b) (h2 : b ≤ (l.length : Int)) : (cut l a b).length = b.toNat - a.toNat := by
  simp only [cut, List.length_drop, List.length_take]
  omega
theorem Sq.cut_len (s : Sq) (a b : Int) (h0 : 0 ≤ a) (h1 : a ≤ b) (h2 : b ≤ (s.len : Int)) : (s.cut a b).len = b.toNat - a.toNat := by
  cases s <;> exact Abs.cut_len _ a b h0 h1 h2
theorem Sq.cut_esz (s : Sq) (a b : Int) : (s.cut a b).esz = s.esz := by cases s <;> rfl
theorem Sq.cut_like (s : Sq) (a b : Int) : s.like (s.cut a b) = true := by cases s <;> simp [Sq.cut, Sq.like, kindEq_refl]
theorem Sq.cut_rng {s : Sq} (a b : Int) (h : s.rng) : (s.cut a b).rng := by
  cases s with
  | int k l => exact fun x hx => h x (List.mem_of_mem_take (List.mem_of_mem_drop hx))
  | str l => exact fun x hx => h x (List.mem_of_mem_take (List.mem_of_mem_drop hx))
  | tok l => exact fun x hx => h x (List.mem_of_mem_take (List.mem_of_mem_drop hx))
  | _ => trivial
theorem Sq.cut_cells (s : Sq) (a b : Int) : (s.cut a b).cells = (s.cells.take (b.toNat * s.esz)).drop (a.toNat * s.esz) := by
  cases s with
  | tok l => simp only [Sq.cut, Sq.cells, Abs.cut, Sq.esz]; rw [flat_take, flat_drop]
  | _ => simp [Sq.cut, Sq.cells, Abs.cut, Sq.esz]

theorem vw_len : ∀ (v : Vw) (s : Sq), vok s.len v → (vw v s).len = vlen s.len v
  | .all, s, _ => rfl
  | .cut v lo hi, s, h => by
    have ih := vw_len v s h.1
    simp only [vw, vlen]
    exact Sq.cut_len _ _ _ h.2.1 h.2.2.1 (by rw [ih]; exact h.2.2.2)
theorem vw_esz : ∀ (v : Vw) (s : Sq), (vw v s).esz = s.esz
  | .all, _ => rfl
  | .cut v lo hi, s => by simp only [vw, Sq.cut_esz, vw_esz v s]
theorem vw_like : ∀ (v : Vw) (s : Sq), s.like (vw v s) = true
  | .all, s => by cases s <;> simp [vw, Sq.like, kindEq_refl]
  | .cut v lo hi, s => like_trans (vw_like v s) (Sq.cut_like _ _ _)
theorem vw_rng : ∀ (v : Vw) {s : Sq}, s.rng → (vw v s).rng
  | .all, _, h => h
  | .cut v lo hi, s, h => Sq.cut_rng _ _ (vw_rng v h)
theorem vw_cells : ∀ (v : Vw) (s : Sq), vok s.len v → (vw v s).cells = (s.cells.drop (voff v * s.esz)).take (vlen s.len v * s.esz)
  | .all, s, _ => by
    simp only [vw, voff, vlen, Nat.zero_mul, List.drop_zero]
    rw [← Sq.cells_len, List.take_length]
  | .cut v lo hi, s, h => by
    have ih := vw_cells v s h.1
    show ((vw v s).cut lo hi).cells = (s.cells.drop ((voff v + lo.toNat) * s.esz)).take ((hi.toNat - lo.toNat) * s.esz)
    rw [Sq.cut_cells, vw_esz, ih]
    obtain ⟨_, h1, h2, h3⟩ := h
    rw [List.take_take, List.drop_take, List.drop_drop]
    have e1 : min (hi.toNat * s.esz) (vlen s.len v * s.esz) = hi.toNat * s.esz := Nat.min_eq_left (Nat.mul_le_mul_right _ (by omega))
    rw [e1, ← Nat.sub_mul, ← Nat.add_mul]
theorem vok_le : ∀ {v : Vw} {n : Nat}, vok n v → voff v + vlen n v ≤ n
  | .all, n, _ => by simp [voff, vlen]
  | .cut v lo hi, n, h => by
    have := vok_le h.1
    obtain ⟨_, h1, h2, h3⟩ := h
    simp only [voff, vlen]
    omega

section
variable {P : Program} {C : Cfg} {σ σ' : List Pl} {n : Nat} {w w0 : World} {F G : Nat → Prop} {H : Heap}

theorem HR.row (h : HR C F G w0 σ H w) {b ver g e : Nat} {own : Bool} {s : Sq} {pl : Pl} (hb : hget H b = .row ver g own e s) (hp : σ[b]? = some pl) : pl.gen = g ∧ RowAt C w pl own e s := by
  have := h.blk b pl hp
  rw [hb] at this
  exact this
theorem HR.var (h : HR C F G w0 σ H w) {b ver T : Nat} {v : AVal} {pl : Pl} (hb : hget H b = .var ver T v) (hp : σ[b]? = some pl) : VarAt C σ w pl T v := by
  have := h.blk b pl hp
  rw [hb] at this
  exact this

/-- What a slice's value is. -/
theorem HR.slice (h : HR C F G w0 σ H w) {b g e : Nat} {own : Bool} {s : Sq} {v : Vw} {c : Value} (hv : VR C σ (.slice b g v) c) (hr : rowAt H b g = some (e, own, s)) :
    ∃ pl A len cap ver, c = .slice A len cap ∧ σ[b]? = some pl ∧ pl.gen = g ∧ hget H b = .row ver g own e s ∧ RowAt C w pl own e s ∧ SlOk pl v A len cap ∧ len = (vw v s).len := by
  obtain ⟨pl, A, len, cap, h1, h3, h4, rfl⟩ := VR.slice hv
  unfold rowAt at hr
  split at hr
  · rename_i ver g' own' e' s' hb
    split at hr
    · rename_i hg
      cases hr
      have := Nat.eq_of_beq_eq_true hg
      subst this
      obtain ⟨k1, k2⟩ := h.row hb h1
      have hs := h4 k1.symm
      refine ⟨pl, A, len, cap, ver, rfl, h1, k1, hb, k2, hs, ?_⟩
      rw [hs.2.1, k2.2.1, vw_len _ _ (by rw [← k2.2.1]; exact hs.1)]
    · cases hr
  · cases hr

theorem RowAt.esz {pl : Pl} {own : Bool} {e : Nat} {s : Sq} (h : RowAt C w pl own e s) : pl.esz = s.esz := h.2.2.2.1
/-- Its elements lie where it says. -/
theorem sl_reads {pl : Pl} {own : Bool} {e : Nat} {s : Sq} {v : Vw} {A : Option Addr} {len cap : Nat} (hr : RowAt C w pl own e s) (hs : SlOk pl v A len cap) : ∀ j x, (vw v s).cells[j]? = some x → ∃ ad, A = some ad ∧ w.cell? (ad.add j) = some x := by
  intro j x hx
  have hn := hr.2.1
  have hok : vok s.len v := by rw [← hn]; exact hs.1
  have hl := vw_len v s hok
  have hpos : 0 < len := by
    have h1 := (List.getElem?_eq_some_iff.1 hx).1
    rw [Sq.cells_len, hl, ← hn, ← hs.2.1] at h1
    rcases Nat.eq_zero_or_pos len with h0 | h0
    · rw [h0] at h1; simp at h1
    · exact h0
  rw [vw_cells v s hok, List.getElem?_take] at hx
  split at hx
  · rw [List.getElem?_drop] at hx
    have h8 := hr.2.2.2.2.2.2.2.2
    have h9 := hs.2.2.2.2
    split at h8
    · rename_i hat
      have k1 := hs.2.2.2.1
      have k2 := hs.2.2.1
      rw [h8] at k1
      omega
    · rename_i c o hat
      rw [hat] at h9
      obtain ⟨a, ha, hae, _⟩ := h9
      obtain ⟨cl, T, fz, k1, k2, _⟩ := h8
      have := hae (.inr hpos)
      subst this
      refine ⟨_, ha, ?_⟩
      rw [addr_add]
      have := k2 _ _ hx
      rw [hr.esz]
      have e : o + voff v * s.esz + j = o + (voff v * s.esz + j) := by omega
      rw [e]
      simp [World.cell?, k1, this]
  · cases hx

theorem sliceOf_spec (ht : TabOk P C.tt) {t : Nat} {s : Sq} (h : sliceOf C.tt t s = true) : ∃ e, P.underlying t = some (.slice e) ∧ (∃ te, tlk C.tt e = some te ∧ te.sz = s.esz) := by
  unfold sliceOf at h
  split at h
  · rename_i e sz bt eq he
    have hu := (ht _ _ he).2.1
    have := Nat.eq_of_beq_eq_true h
    refine ⟨e, hu, ?_⟩
    cases hq : tlk C.tt e with
    | some te => exact ⟨te, rfl, by rw [← tlk_sz hq]; exact this⟩
    | none => simp [szT, hq] at this; cases s <;> simp [Sq.esz] at this
  · cases h

theorem placeTy_ok (h : HR C F G w0 σ H w) {b g u : Nat} {p : List Stp} {pl : Pl} (hb : σ[b]? = some pl) (hg : g = pl.gen) (hp : placeTy C.tt H b p = some u) :
    (pl.row = false ∧ tyP C.tt pl.T p = some u) ∨ (pl.row = true ∧ ∃ i r, p = .x i :: r ∧ tyP C.tt pl.T r = some u) := by
  unfold placeTy at hp
  split at hp
  · rename_i ver T v hbl
    have := h.var hbl hb
    exact .inl ⟨this.1, by rw [this.2.2.1]; exact hp⟩
  · rename_i ver g' own e s i r hbl
    have := h.row hbl hb
    exact .inr ⟨this.2.1, i, r, rfl, by rw [this.2.2.2.1]; exact hp⟩
  · cases hp

theorem tyP_app {tt : Tab} : ∀ {p q : List Stp} {t u : Nat}, tyP tt t p = some u → tyP tt t (p ++ q) = tyP tt u q
  | [], q, t, u, h => by simp only [tyP, Option.some.injEq] at h; subst h; rfl
  | .f i :: r, q, t, u, h => by
    simp only [tyP, List.cons_append] at h ⊢
    cases hf : fieldAt tt t i with
    | none => rw [hf] at h; cases h
    | some x => rw [hf] at h; exact tyP_app h
  | .x i :: r, q, t, u, h => by
    simp only [tyP, List.cons_append] at h ⊢
    cases hf : tlk tt t with
    | none => rw [hf] at h; cases h
    | some te =>
      obtain ⟨k, sz, bt, eq⟩ := te
      rw [hf] at h
      cases k <;> first | (cases h; done) | exact tyP_app h
theorem offP_app {tt : Tab} : ∀ {p q : List Stp} {t u : Nat}, tyP tt t p = some u → offP tt t (p ++ q) = offP tt t p + offP tt u q
  | [], q, t, u, h => by simp only [tyP, Option.some.injEq] at h; subst h; simp [offP]
  | .f i :: r, q, t, u, h => by
    simp only [tyP, List.cons_append, offP] at h ⊢
    cases hf : fieldAt tt t i with
    | none => rw [hf] at h; cases h
    | some x => rw [hf] at h; simp only [offP_app h]; omega
  | .x i :: r, q, t, u, h => by
    simp only [tyP, List.cons_append, offP] at h ⊢
    cases hf : tlk tt t with
    | none => rw [hf] at h; cases h
    | some te =>
      obtain ⟨k, sz, bt, eq⟩ := te
      rw [hf] at h
      cases k <;> first | (cases h; done) | (simp only [offP_app h]; omega)
theorem pokP_app {tt : Tab} : ∀ {p q : List Stp} {t u : Nat}, tyP tt t p = some u → pokP tt t p → pokP tt u q → pokP tt t (p ++ q)
  | [], q, t, u, h, _, k => by simp only [tyP, Option.some.injEq] at h; subst h; exact k
  | .f i :: r, q, t, u, h, hp, k => by
    simp only [tyP, List.cons_append, pokP] at h hp ⊢
    cases hf : fieldAt tt t i with
    | none => rw [hf] at h; cases h
    | some x => rw [hf] at h hp; exact pokP_app h hp k
  | .x i :: r, q, t, u, h, hp, k => by
    simp only [tyP, List.cons_append, pokP] at h hp ⊢
    cases hf : tlk tt t with
    | none => rw [hf] at h; cases h
    | some te =>
      obtain ⟨kk, sz, bt, eq⟩ := te
      rw [hf] at h hp
      cases kk <;> first | (cases h; done) | exact ⟨hp.1, pokP_app h hp.2 k⟩

/-- A pointer's further step. -/
theorem ptr_step (h : HR C F G w0 σ H w) {b g u : Nat} {p q : List Stp} {x : Value} (hx : VR C σ (.ptr b g p) x) (hp : placeTy C.tt H b p = some u) (hq : pokP C.tt u q) :
    ∃ a, x = .pointer (some a) ∧ VR C σ (.ptr b g (p ++ q)) (.pointer (some (a.add (offP C.tt u q)))) := by
  obtain ⟨pl, a, h1, h2, h3, rfl⟩ := VR.ptr hx
  refine ⟨a, rfl, ?_⟩
  simp only [RL]
  refine ⟨pl, _, h1, h2, fun hg => ?_, rfl⟩
  obtain ⟨k1, c, o, k2, rfl⟩ := h3 hg
  rcases placeTy_ok h h1 hg hp with ⟨r1, r2⟩ | ⟨r1, i, r, rfl, r2⟩
  · refine ⟨?_, c, o, k2, ?_⟩
    · simp only [pokB, r1] at k1 ⊢
      exact pokP_app r2 k1 hq
    · rw [addr_add]
      simp only [offB, r1, offP_app r2]
      congr 1; omega
  · refine ⟨?_, c, o, k2, ?_⟩
    · simp only [pokB, r1, List.cons_append] at k1 ⊢
      exact ⟨k1.1, pokP_app r2 k1.2 hq⟩
    · rw [addr_add]
      simp only [offB, r1, List.cons_append, offP_app r2]
      congr 1; omega

theorem fieldAt_spec (ht : TabOk P C.tt) {t i a o : Nat} (h : fieldAt C.tt t i = some (a, o)) : ∃ fields f, P.underlying t = some (.struct fields) ∧ fields[i]? = some f ∧ f.type = a ∧ f.offset = o := by
  unfold fieldAt at h
  split at h
  · rename_i fs sz bt eq he
    obtain ⟨⟨fields, hu, hfl⟩, _⟩ := (ht _ _ he).2
    rw [← hfl, List.getElem?_map] at h
    obtain ⟨f, h1, h2⟩ := Option.map_eq_some_iff.1 h
    simp only [Prod.mk.injEq] at h2
    exact ⟨fields, f, hu, by simpa using h1, h2.1, h2.2⟩
  · cases h

theorem faddr_ok (ht : TabOk P C.tt) (h : HR C F G w0 σ H w) {t i : Nat} {u r : AVal} {g : Bool} {x : Value} (ho : faddrA C.tt H t i u = .val g r) (hx : VR C σ u x) : g = true ∧ Gv P C σ w (Instr.fieldAt t x i) r := by
  cases u <;> simp only [faddrA, reduceCtorEq] at ho
  rename_i b g' p
  split at ho
  · rename_i u' hp
    split at ho
    · rename_i hs
      cases ho
      refine ⟨rfl, ?_⟩
      unfold sameFld at hs
      split at hs
      · rename_i a1 o1 a2 o2 f1 f2
        simp only [Bool.and_eq_true] at hs
        have e1 := Nat.eq_of_beq_eq_true hs.1
        have e2 := Nat.eq_of_beq_eq_true hs.2.2
        subst e1
        subst e2
        obtain ⟨fields, f, hu, hf, rfl, rfl⟩ := fieldAt_spec ht f1
        obtain ⟨a, rfl, hv⟩ := ptr_step h hx hp (q := [.f i]) (by simp [pokP, f2])
        have hz : ∃ te, tlk C.tt f.type = some te := by
          cases hq : tlk C.tt f.type with
          | some te => exact ⟨te, rfl⟩
          | none => simp [szT, hq, Nat.blt] at hs
        obtain ⟨te, hte⟩ := hz
        have hsz : ¬ te.sz = 0 := by
          have := hs.2.1
          rw [Nat.blt_eq, tlk_sz hte] at this
          omega
        refine ⟨_, ?_, hv⟩
        simp [Instr.fieldAt, run_underlying hu, hf, Instr.sureAddr, fieldPlace, size_run ht hte, hsz, offP, f2]
      · cases hs
    · cases ho
  · cases ho

theorem iaddr_ok (ht : TabOk P C.tt) (h : HR C F G w0 σ H w) {t : Nat} {u v r : AVal} {g : Bool} {x y : Value} (ho : iaddrA C.tt H t u v = .val g r) (hg : g = true) (hx : VR C σ u x) (hy : VR C σ v y) : Gv P C σ w (Instr.indexAt t x y) r := by
  cases u <;> cases v <;> simp only [iaddrA, reduceCtorEq] at ho
  · rename_i b g' p k j
    split at ho
    · rename_i u' hp
      split at ho
      · rename_i n1 z1 n2 z2 a1 a2
        split at ho
        · rename_i hs
          simp only [AOut.val.injEq] at ho
          obtain ⟨h1, rfl⟩ := ho
          subst hg
          obtain ⟨g1, g2⟩ := inB_spec h1
          simp only [Bool.and_eq_true] at hs
          have e1 := Nat.eq_of_beq_eq_true hs.1
          have e2 := Nat.eq_of_beq_eq_true hs.2.1
          subst e1
          subst e2
          unfold arrOf at a1 a2
          split at a1
          · rename_i m1 e1 sz1 bt1 eq1 he1
            cases a1
            split at a2
            · rename_i m2 e2 sz2 bt2 eq2 he2
              simp only [Option.some.injEq, Prod.mk.injEq] at a2
              obtain ⟨rfl, hz⟩ := a2
              obtain ⟨rfl, _⟩ := VR.int hy
              have hu := (ht _ _ he1).2.1
              obtain ⟨a, rfl, hv⟩ := ptr_step h hx hp (q := [.x j.toNat]) (by simp [pokP, he2]; omega)
              have hpos : 0 < szT C.tt e1 := by have := hs.2.2; rwa [Nat.blt_eq] at this
              have hz' : ∃ te, tlk C.tt e1 = some te := by
                cases hq : tlk C.tt e1 with
                | some te => exact ⟨te, rfl⟩
                | none => simp [szT, hq] at hpos
              obtain ⟨te, hte⟩ := hz'
              refine ⟨_, ?_, hv⟩
              simp only [Instr.indexAt, asIntOf, Sem.run_bind, Sem.run_pure, Result.andThen_ok, run_underlying hu, Instr.sureAddr]
              rw [if_pos ⟨g1, g2⟩]
              simp [size_run ht hte, offP, he2, hz, tlk_sz hte]
            · cases a2
          · cases a1
        · cases ho
      · cases ho
    · cases ho
  · rename_i b g' v k j
    split at ho
    · rename_i e own s hr
      split at ho
      · rename_i hs
        simp only [AOut.val.injEq] at ho
        obtain ⟨h1, rfl⟩ := ho
        subst hg
        obtain ⟨g1, g2⟩ := inB_spec h1
        obtain ⟨e', hu, te, hte, hsz⟩ := sliceOf_spec ht hs
        obtain ⟨pl, A, len, cap, ver, rfl, q1, q2, q3, q4, q5, q6⟩ := h.slice hx hr
        obtain ⟨rfl, _⟩ := VR.int hy
        have hn := q4.2.1
        have hpos : 0 < len := by omega
        have hok : vok s.len v := by rw [← hn]; exact q5.1
        have h8 := q4.2.2.2.2.2.2.2.2
        have h9 := q5.2.2.2.2
        split at h8
        · have := q5.2.2.2.1
          have := q5.2.2.1
          omega
        · rename_i c o hat
          rw [hat] at h9
          obtain ⟨a, rfl, hae, hblk⟩ := h9
          have := hae (.inr hpos)
          subst this
          refine ⟨.pointer (some ((⟨c, o + voff v * pl.esz, none⟩ : Addr).add (j.toNat * te.sz))), ?_, ?_⟩
          · simp only [Instr.indexAt, asIntOf, Sem.run_bind, Sem.run_pure, Result.andThen_ok, run_underlying hu]
            rw [if_pos ⟨g1, by omega⟩]
            simp [size_run ht hte]
          · simp only [RL]
            refine ⟨pl, _, q1, by omega, fun _ => ⟨?_, c, o, hat, ?_⟩, rfl⟩
            · simp only [pokB, q4.1, pokP, and_true]
              rw [pos_off, hn]
              have := vok_le hok
              rw [vw_len v s hok] at g2
              omega
            · rw [addr_add]
              simp only [offB, q4.1, offP, pos_off, q4.esz, hsz]
              rw [Nat.add_mul]
              congr 1; omega
      · cases ho
    · cases ho

def BndOk (d L : Int) : Option Value → Prop
  | none => L = d
  | some v => ∃ k, v = .int k L
theorem bnd_ok {d L : Int} {o : Option (Option AVal)} {oV : Option Value} (h : bnd d o = some L) (hv : ∀ u, o = some (some u) → ∃ c, oV = some c ∧ VR C σ u c) (hn : o = none → oV = none) : BndOk d L oV := by
  unfold bnd at h
  split at h
  · cases h; rw [hn rfl]; exact rfl
  · rename_i k m
    cases h
    obtain ⟨c, rfl, hc⟩ := hv _ rfl
    exact ⟨k, (VR.int hc).1⟩
  · cases h

theorem run_bound {x : Value} {k : IntKind} {i : Int} {y : Nat} (code : BoundsCode) (hx : x = .int k i) (h0 : 0 ≤ i) (h1 : i ≤ y) : (Instr.sliceBound x y code).run P w = .ok i.toNat w := by
  subst hx
  simp [Instr.sliceBound, asIntOf, h0, h1]
theorem run_bounds {isSlice : Bool} {len cap : Nat} {lo hi : Option Value} {L U : Int} (hlo : BndOk 0 L lo) (hhi : BndOk len U hi)
    (hL : 0 ≤ L) (hLH : L ≤ U) (hH : U ≤ (len : Int)) (hc : len ≤ cap) : (Instr.sliceBounds isSlice len cap lo hi none).run P w = .ok (L.toNat, U.toNat, cap) w := by
  cases lo with
  | none =>
    cases hlo
    cases hi with
    | none => cases hhi; simp [Instr.sliceBounds]
    | some v => obtain ⟨k, rfl⟩ := hhi; simp [Instr.sliceBounds, run_bound (P := P) (w := w) (y := cap) _ rfl (show 0 ≤ U by omega) (by omega)]
  | some u =>
    obtain ⟨k, rfl⟩ := hlo
    cases hi with
    | none => cases hhi; simp [Instr.sliceBounds, run_bound (P := P) (w := w) _ rfl hL hLH]
    | some v =>
      obtain ⟨k', rfl⟩ := hhi
      have hq' : L ≤ (U.toNat : Int) := by omega
      simp [Instr.sliceBounds, run_bound (P := P) (w := w) (y := cap) _ rfl (show 0 ≤ U by omega) (by omega), run_bound (P := P) (w := w) (y := U.toNat) _ rfl hL hq']

theorem extract_mk (l : List UInt8) (a b : Nat) : (mk l).extract a b = mk ((l.take b).drop a) := by
  apply ByteArray.ext
  rw [ByteArray.data_extract]
  apply Array.ext'
  rw [Array.toList_extract, List.extract_eq_take_drop]
  simp [List.drop_take]

theorem slice_ok (ht : TabOk P C.tt) (h : HR C F G w0 σ H w) {t : Nat} {u r : AVal} {lo hi : Option (Option AVal)} {loV hiV : Option Value} {g : Bool} {x : Value} (ho : sliceA C.tt H t u lo hi = .val g r) (hg : g = true) (hx : VR C σ u x)
    (hlo : ∀ u, lo = some (some u) → ∃ c, loV = some c ∧ VR C σ u c) (hlo' : lo = none → loV = none) (hhi : ∀ u, hi = some (some u) → ∃ c, hiV = some c ∧ VR C σ u c) (hhi' : hi = none → hiV = none) :
    Gv P C σ w (Instr.sliceAt t x loV hiV none) r := by
  unfold sliceA at ho
  split at ho
  · rename_i l L hL
    split at ho
    · rename_i U hs hU
      simp only [AOut.val.injEq] at ho
      obtain ⟨h1, rfl⟩ := ho
      subst hg
      obtain ⟨g1, g2, g3⟩ := cutB_spec h1
      unfold isStrT at hs
      split at hs
      · rename_i he
        have hu := (ht _ _ he).2.1
        cases VR.str hx
        have hb := run_bounds (P := P) (w := w) (isSlice := false) (cap := l.length) (bnd_ok hL hlo hlo') (bnd_ok hU hhi hhi') g1 g2 g3 (Nat.le_refl _)
        have hsz : (mk l).size = l.length := rfl
        refine ⟨.string (mk (cut l L U)), ?_, by have := VR.sb hx; unfold SB at *; rw [cut_len l L U g1 g2 g3]; omega, rfl⟩
        simp only [Instr.sliceAt, Sem.run_bind, run_underlying hu, Result.andThen_ok, Instr.slice, hsz]
        simp only [Option.isSome_none, Bool.false_eq_true, if_false, Sem.run_bind]
        rw [hb]
        simp [extract_mk, cut]
      · cases hs
    · cases ho
  · rename_i b g' v L hL
    split at ho
    · rename_i e own s hr
      split at ho
      · rename_i U hs hU
        simp only [AOut.val.injEq] at ho
        obtain ⟨h1, rfl⟩ := ho
        subst hg
        obtain ⟨g1, g2, g3⟩ := cutB_spec h1
        obtain ⟨e', hu, te, hte, hsz⟩ := sliceOf_spec ht hs
        obtain ⟨pl, A, len, cap, ver, rfl, q1, q2, q3, q4, q5, q6⟩ := h.slice hx hr
        have hn := q4.2.1
        have hok : vok s.len v := by rw [← hn]; exact q5.1
        have hlen : len = vlen pl.n v := q5.2.1
        rw [← q6] at g3 hU
        have hb := run_bounds (P := P) (w := w) (isSlice := true) (cap := cap) (bnd_ok hL hlo hlo') (bnd_ok hU hhi hhi') g1 g2 g3 q5.2.2.1
        refine ⟨.slice (if cap = L.toNat then A else A.map (·.add (L.toNat * te.sz))) (U.toNat - L.toNat) (cap - L.toNat), ?_, ?_⟩
        · simp only [Instr.sliceAt, Sem.run_bind, run_underlying hu, Result.andThen_ok, Instr.slice]
          rw [hb]
          simp [size_run ht hte]
        · simp only [RL]
          have hcap := q5.2.2.1
          have hroom := q5.2.2.2.1
          refine ⟨pl, _, _, _, q1, by omega, fun _ => ⟨⟨q5.1, g1, g2, by rw [← hlen]; exact g3⟩, rfl, by show U.toNat - L.toNat ≤ cap - L.toNat; omega, by show voff v + L.toNat + (cap - L.toNat) ≤ pl.room; omega, ?_⟩, rfl⟩
          have h9 := q5.2.2.2.2
          split at h9
          · rename_i hat
            rw [h9]
            simp
          · rename_i c o hat
            obtain ⟨a, rfl, hae, hblk⟩ := h9
            by_cases hc : cap = L.toNat
            · rw [if_pos hc]
              refine ⟨a, rfl, fun hq => ?_, hblk⟩
              have hq : voff v + L.toNat = 0 ∨ 0 < U.toNat - L.toNat := hq
              have : L.toNat = 0 := by omega
              have hv0 : voff v = 0 ∨ 0 < len := by omega
              rw [hae hv0]
              show _ = (⟨c, o + (voff v + L.toNat) * pl.esz, none⟩ : Addr)
              rw [this, Nat.add_zero]
            · rw [if_neg hc]
              refine ⟨a.add (L.toNat * te.sz), rfl, fun hq => ?_, by obtain ⟨q, rfl⟩ := hblk; exact ⟨_, addr_add _ _ _⟩⟩
              have hq : voff v + L.toNat = 0 ∨ 0 < U.toNat - L.toNat := hq
              have hv0 : voff v = 0 ∨ 0 < len := by omega
              rw [hae hv0, addr_add]
              show _ = (⟨c, o + (voff v + L.toNat) * pl.esz, none⟩ : Addr)
              rw [q4.esz, hsz, Nat.add_mul]
              congr 1; omega
      · cases ho
    · cases ho
  · rename_i L hL
    split at ho
    · rename_i U hs hU
      simp only [AOut.val.injEq] at ho
      obtain ⟨h1, rfl⟩ := ho
      subst hg
      obtain ⟨g1, g2, g3⟩ := cutB_spec h1
      unfold isSliceT at hs
      split at hs
      · rename_i e sz bt eq he
        have hu := (ht _ _ he).2.1
        cases VR.nils hx
        have hb := run_bounds (P := P) (w := w) (isSlice := true) (len := 0) (cap := 0) (bnd_ok hL hlo hlo') (bnd_ok hU hhi hhi') g1 g2 g3 (Nat.le_refl _)
        have e1 : L.toNat = 0 := by omega
        have e2 : U.toNat = 0 := by omega
        obtain ⟨te, hte⟩ := Option.isSome_iff_exists.1 hs
        have hz := size_run (P := P) ht hte w
        refine ⟨.slice none 0 0, ?_, rfl⟩
        simp only [Instr.sliceAt, Sem.run_bind, run_underlying hu, Result.andThen_ok, Instr.slice]
        rw [hb]
        simp [hz, e1, e2]
      · cases hs
    · cases ho
  · cases ho

/-! ### Conversions, lengths, loads -/
theorem isU8_spec (ht : TabOk P C.tt) {e : Nat} (h : isU8 C.tt e = true) : P.underlying e = some (.int .u8) ∧ ∃ te, tlk C.tt e = some te ∧ te.sz = 1 ∧ te.k = .int .u8 := by
  unfold isU8 at h
  split at h
  · rename_i sz bt eq he
    exact ⟨(ht _ _ he).2.1, _, he, (ht _ _ he).2.2, rfl⟩
  · cases h
theorem u8Of_spec {s : Sq} {l : List UInt8} (h : u8Of s = some l) : s = .u8 l := by
  cases s <;> simp [u8Of] at h
  rw [h]
theorem und_any (ht : TabOk P C.tt) {t : Nat} {te : TE} (h : tlk C.tt t = some te) : ∃ d, P.underlying t = some d := by
  have := (ht t te h).2
  obtain ⟨k, sz, bt, eq⟩ := te
  cases k <;> simp only [KOk] at this
  case err => obtain ⟨⟨ms, hu⟩, _⟩ := this; exact ⟨_, hu⟩
  case struct => obtain ⟨⟨fs, hu, _⟩, _⟩ := this; exact ⟨_, hu⟩
  case fn => obtain ⟨⟨_, _, _, hu⟩, _⟩ := this; exact ⟨_, hu⟩
  all_goals exact ⟨_, this.1⟩

theorem conv_val (ht : TabOk P C.tt) {s d : Nat} {u r : AVal} {g : Bool} {x : Value} (ho : convA C.tt H s d u = .val g r) (hx : VR C σ u x) : g = true ∧ Gv P C σ w (convert s d x) r := by
  unfold convA at ho
  split at ho
  · rename_i a b ha hb
    obtain ⟨da, hda⟩ := und_any ht ha
    have kb := (ht _ _ hb).2
    have ka := (ht _ _ ha).2
    obtain ⟨ak, asz, abt, aeq⟩ := a
    obtain ⟨bk, bsz, bbt, beq⟩ := b
    simp only at ho
    split at ho
    · rename_i k k' m
      cases ho
      simp only [KOk] at kb
      obtain ⟨rfl, _⟩ := VR.int hx
      exact ⟨rfl, _, by simp [convert, run_underlying hda, run_underlying kb.1, Conv.intToInt], rng_wrap _ _, rfl⟩
    · cases ho
      simp only [KOk] at ka kb
      cases VR.str hx
      exact ⟨rfl, _, by simp [convert, run_underlying ka.1, run_underlying kb.1], VR.sb hx, rfl⟩
    · rename_i e
      split at ho
      · rename_i he
        cases ho
        simp only [KOk] at ka kb
        cases VR.nils hx
        exact ⟨rfl, _, run_convert_bytes_nil w s e ka.1 (isU8_spec ht he).1 0 0 d kb.1, by simp [SB], rfl⟩
      · cases ho
    · split at ho
      · split at ho <;> cases ho
      · cases ho
    · split at ho <;> cases ho
    · split at ho
      · split at ho <;> cases ho
      · cases ho
    · cases ho
  · cases ho

theorem conv_red (ht : TabOk P C.tt) (h : HR C F G w0 σ H w) {s d b : Nat} {u r : AVal} {g : Bool} {x : Value} (ho : convA C.tt H s d u = .red g b r) (hx : VR C σ u x) : g = true ∧ Gv P C σ w (convert s d x) r := by
  unfold convA at ho
  split at ho
  · rename_i a b ha hb
    have kb := (ht _ _ hb).2
    have ka := (ht _ _ ha).2
    obtain ⟨ak, asz, abt, aeq⟩ := a
    obtain ⟨bk, bsz, bbt, beq⟩ := b
    simp only at ho
    split at ho
    · cases ho
    · cases ho
    · split at ho <;> cases ho
    · rename_i e b' g' v
      split at ho
      · rename_i e' own q he hr
        split at ho
        · rename_i l hl
          cases ho
          simp only [KOk] at ka kb
          obtain ⟨pl, A, len, cap, ver, rfl, q1, q2, q3, q4, q5, q6⟩ := h.slice hx hr
          have hv := u8Of_spec hl
          have hlen : len = l.length := by rw [q6, hv]; rfl
          have hmax := q4.2.2.2.2.2.2.2.1
          have hvl := vok_le q5.1
          have hle : l.length < maxL := by have := q4.2.1; have := q5.2.1; omega
          refine ⟨rfl, .string (mk l), ?_, hle, rfl⟩
          subst hlen
          have hrd := sl_reads q4 q5
          rw [hv] at hrd
          cases A with
          | none =>
            cases l with
            | nil => exact run_convert_bytes_nil w s e ka.1 (isU8_spec ht he).1 0 cap d kb.1
            | cons y r =>
              obtain ⟨ad, hh, _⟩ := hrd 0 _ rfl
              cases hh
          | some ad =>
            refine run_convert_bytes_back w s d e ad cap l ka.1 (isU8_spec ht he).1 kb.1 (fun j hj => ?_)
            obtain ⟨ad', hh, hc⟩ := hrd j (.int .u8 ((l[j]).toNat : Int)) (by simp [Sq.cells, hj])
            cases hh
            exact hc
        · cases ho
      · cases ho
    · split at ho <;> cases ho
    · split at ho
      · split at ho <;> cases ho
      · cases ho
    · cases ho
  · cases ho

theorem len_ok (ht : TabOk P C.tt) (h : HR C F G w0 σ H w) {t ty : Nat} {u : AVal} {m : Int} {x : Value} (ho : lenA C.tt H t u = some m) (hx : VR C σ u x) : Gv P C σ w (Builtin.len_ #[t] ty #[x]) (.int .i64 m) := by
  have rg : ∀ k : Nat, k < maxL → Rng .i64 (k : Int) := fun k hk => by simp only [Rng, loK, hiK]; unfold maxL at hk; omega
  unfold lenA at ho
  split at ho
  · cases ho
  · rename_i te hte
    have hk := (ht _ _ hte).2
    obtain ⟨k, sz, bt, eq⟩ := te
    simp only at ho
    split at ho
    · rename_i l
      cases ho
      simp only [KOk] at hk
      cases VR.str hx
      refine ⟨.int .i64 (l.length : Int), ?_, ?_, rfl⟩
      · simp [Builtin.len_, run_underlying hk.1, goInt]
        rfl
      · exact rg _ (VR.sb hx)
    · cases ho
      simp only [KOk] at hk
      cases VR.nils hx
      refine ⟨.int .i64 0, ?_, by simp [Rng, loK, hiK], rfl⟩
      simp [Builtin.len_, run_underlying hk.1, goInt]
    · rename_i e b g v
      split at ho
      · rename_i e' own s hr
        cases ho
        simp only [KOk] at hk
        obtain ⟨pl, A, len, cap, ver, rfl, q1, q2, q3, q4, q5, q6⟩ := h.slice hx hr
        refine ⟨.int .i64 ((vw v s).len : Int), ?_, ?_, rfl⟩
        · simp [Builtin.len_, run_underlying hk.1, goInt, q6]
        · have hmax := q4.2.2.2.2.2.2.2.1
          have hvl := vok_le q5.1
          exact rg _ (by have := q4.2.1; have := q5.2.1; omega)
      · cases ho
    · rename_i m e m' s
      cases ho
      simp only [KOk] at hk
      refine ⟨.int .i64 (m : Int), ?_, ?_, rfl⟩
      · simp [Builtin.len_, run_underlying hk.1, goInt]
      · exact rg _ hk.2.2.2
    · cases ho

theorem sameTy_spec {tt : Tab} {t u : Nat} (h : sameTy tt t u = true) : ∃ a b, tlk tt t = some a ∧ tlk tt u = some b ∧ a.sz = b.sz ∧ plainK a.k = plainK b.k := by
  unfold sameTy at h
  split at h
  · rename_i a b ha hb
    simp only [Bool.and_eq_true, beq_iff_eq] at h
    exact ⟨a, b, ha, hb, Nat.eq_of_beq_eq_true h.1, h.2⟩
  · cases h

/-- A place's value, out of its cells. -/
theorem loadVar_ok (ht : TabOk P C.tt) {t u c off : Nat} {v : AVal} {vs : List Value} (hs : sameTy C.tt t u = true) (hf : fit1 C.tt v u = true) (hr : RL C σ v false vs) (hc : ∀ j x, vs[j]? = some x → w.cell? ⟨c, off + j, none⟩ = some x) :
    Gv P C σ w (loadVar t ⟨c, off, none⟩) v := by
  obtain ⟨a, b, ha, hb, e1, e2⟩ := sameTy_spec hs
  simp only [fit1, Bool.and_eq_true, Bool.not_eq_true'] at hf
  have hl : vs.length = a.sz := by rw [RL.len ht hf.2 hr, e1]; simp [sumSz, tlk_sz hb]
  rcases pack_ok ht hf.2 hf.1 hb hr with ⟨hp, hv⟩ | ⟨hp, x, rfl, hv⟩
  · refine ⟨_, ?_, hv⟩
    have hload := run_loadCells_list (P := P) w ⟨c, off, none⟩ vs (fun j x hj => by rw [addr_add]; exact hc j x hj)
    rw [hl] at hload
    simp only [loadVar, Sem.run_bind, agg_run ht ha, e2, hp, Result.andThen_ok, Bool.not_false, if_true, size_run ht ha, hload, Sem.run_pure]
  · refine ⟨x, ?_, hv⟩
    have := hc 0 x rfl
    rw [Nat.add_zero] at this
    simp [loadVar, agg_run ht ha, e2, hp, load, Sem.run, this]

theorem load_ok (ht : TabOk P C.tt) (h : HR C F G w0 σ H w) {t b : Nat} {u r : AVal} {g : Bool} {x : Value} (ho : loadOp C.tt H t u = .red g b r) (hx : VR C σ u x) : g = true ∧ Gv P C σ w (Instr.loadAt t x) r := by
  cases u <;> simp only [loadOp, reduceCtorEq] at ho
  rename_i b' g' p
  split at ho
  · rename_i v u' hl hp
    split at ho
    · rename_i hs
      cases ho
      refine ⟨rfl, ?_⟩
      obtain ⟨pl, a, h1, h2, h3, rfl⟩ := VR.ptr hx
      have key : Gv P C σ w (loadVar t a) r := by
        unfold loadA at hl
        split at hl
        · rename_i ver T q hb
          split at hl
          · rename_i hg1
            have hg1 := Nat.eq_of_beq_eq_true hg1
            obtain ⟨k1, k2, k3, k4, c, cs, fz, k5, k6, k7, k8⟩ := h.var hb h1
            have hg : g' = pl.gen := by omega
            obtain ⟨m1, c', o, m2, rfl⟩ := h3 hg
            rw [k5] at m2; cases m2
            have hpt := placeTy_ok h h1 hg hp
            rcases hpt with ⟨_, hty⟩ | ⟨hrow, _⟩
            · rw [k3] at hty
              simp only [pokB, k1, k3] at m1
              obtain ⟨f1, f2, f3⟩ := getP_ok ht k4 k6 hl hty m1
              refine loadVar_ok ht hs f1 f2 (fun j x hj => ?_)
              rw [List.getElem?_take] at hj
              split at hj
              · rw [List.getElem?_drop] at hj
                simp only [offB, k1, k3, Nat.zero_add]
                simp [World.cell?, k7, hj]
              · cases hj
            · rw [k1] at hrow; cases hrow
          · cases hl
        · rename_i ver gg own e s hb
          split at hl
          · rename_i i rest hg
            have hg' := Nat.eq_of_beq_eq_true hg
            subst hg'
            obtain ⟨k0, k1⟩ := h.row hb h1
            have hgg : g' = pl.gen := k0.symm
            obtain ⟨m1, c', o, m2, rfl⟩ := h3 hgg
            rcases placeTy_ok h h1 hgg hp with ⟨hrow, _⟩ | ⟨_, i', r', he, hty⟩
            · rw [k1.1] at hrow; cases hrow
            · simp only [List.cons.injEq, Stp.x.injEq] at he
              obtain ⟨rfl, rfl⟩ := he
              simp only [pokB, k1.1] at m1
              have hi : i < s.len := by rw [← k1.2.1]; exact m1.1
              obtain ⟨us, g1, g2, g3⟩ := Sq.get_ok (C := C) (σ := σ) k1.2.2.2.2.2.1 hi
              have hfe := like_fits (i := i) k1.2.2.2.2.1
              have hil : (s.get i).isList = false := by cases s <;> rfl
              rw [k1.2.2.1] at hty m1
              obtain ⟨f1, f2, f3⟩ := getP_ok ht (by simp [fit1, hfe, hil]) g1 hl hty m1.2
              refine loadVar_ok ht hs f1 f2 (fun j x hj => ?_)
              have h8 := k1.2.2.2.2.2.2.2.2
              rw [m2] at h8
              obtain ⟨cl, T, fz, z1, z2, _⟩ := h8
              rw [List.getElem?_take] at hj
              split at hj
              · rw [List.getElem?_drop, ← g2, List.getElem?_take] at hj
                split at hj
                · rw [List.getElem?_drop] at hj
                  simp only [offB, k1.1, k1.2.2.1, k1.esz]
                  have := z2 _ _ hj
                  have e : o + (i * s.esz + offP C.tt e rest) + j = o + (i * s.esz + (offP C.tt e rest + j)) := by omega
                  rw [e]
                  simp [World.cell?, z1, this]
                · cases hj
              · cases hj
          · cases hl
        · cases hl
      obtain ⟨c, q1, q2⟩ := key
      exact ⟨c, by simp [Instr.loadAt, Instr.sureAddr, q1], q2⟩
    · cases ho
  · cases ho
end
end Go.Proofs.YtaakccdfgejgpaaGreatDoor.Abs
