/-
  Rows that grow; strings into bytes.
-/
import Derived.Test.YtaakccdfgejgpaaGreatDoorAbsK
namespace Go.Proofs.YtaakccdfgejgpaaGreatDoor.Abs
open Go
set_option linter.unusedVariables false

section
variable {P : Program} {C : Cfg} {σ σ' : List Pl} {n : Nat} {w w' w0 : World} {F G : Nat → Prop} {H : Heap}

theorem Sq.app_ok {s m s' : Sq} (h : s.app m = some s') : s.like m = true ∧ s'.cells = s.cells ++ m.cells ∧ s'.len = s.len + m.len ∧ s'.esz = s.esz ∧ m.esz = s.esz ∧ s.like s' = true ∧ (s.rng → m.rng → s'.rng) := by
  cases s with
  | u8 l => cases m <;> simp [Sq.app] at h; subst h; exact ⟨rfl, by simp [Sq.cells], by simp [Sq.len], rfl, rfl, rfl, fun _ _ => trivial⟩
  | int k l =>
    cases m <;> simp only [Sq.app, reduceCtorEq] at h
    split at h
    · rename_i hk
      cases h
      have := kindEq_spec hk
      subst this
      exact ⟨hk, by simp [Sq.cells], by simp [Sq.len], rfl, rfl, hk, fun a b x hx => (List.mem_append.1 hx).elim (a x) (b x)⟩
    · cases h
  | str l => cases m <;> simp [Sq.app] at h; subst h; exact ⟨rfl, by simp [Sq.cells], by simp [Sq.len], rfl, rfl, rfl, fun a b x hx => (List.mem_append.1 hx).elim (a x) (b x)⟩
  | bool l => cases m <;> simp [Sq.app] at h; subst h; exact ⟨rfl, by simp [Sq.cells], by simp [Sq.len], rfl, rfl, rfl, fun _ _ => trivial⟩
  | tok l => cases m <;> simp [Sq.app] at h; subst h; exact ⟨rfl, by simp [Sq.cells], by simp [Sq.len], rfl, rfl, rfl, fun a b x hx => (List.mem_append.1 hx).elim (a x) (b x)⟩

theorem Sq.esz_pos (s : Sq) : 0 < s.esz := by cases s <;> simp [Sq.esz]
theorem Sq.nil_len {s : Sq} (h : s.cells = []) : s.len = 0 := by
  have h1 := Sq.cells_len s
  rw [h, List.length_nil] at h1
  rcases Nat.mul_eq_zero.1 h1.symm with h0 | h0
  · exact h0
  · have := s.esz_pos; omega
theorem like_esz {s m : Sq} (h : s.like m = true) : s.esz = m.esz := by cases s <;> cases m <;> simp [Sq.like] at h <;> rfl
theorem zq_ok {tt : Tab} {e : Nat} {z m : Sq} (h : zq tt e = some z) (hl : z.like m = true) : sqOk tt e m = true := by simp [sqOk, h, hl]
theorem zq_nil {tt : Tab} {e : Nat} {z : Sq} (h : zq tt e = some z) : z.cells = [] ∧ z.len = 0 ∧ z.rng ∧ z.like z = true := by
  unfold zq at h
  split at h <;> first | (cases h; done) | skip
  · cases h; exact ⟨rfl, rfl, trivial, rfl⟩
  · cases h; exact ⟨rfl, rfl, (fun _ h => by cases h), kindEq_refl _⟩
  · cases h; exact ⟨rfl, rfl, (fun _ h => by cases h), rfl⟩
  · cases h; exact ⟨rfl, rfl, trivial, rfl⟩
  · split at h
    · cases h; exact ⟨rfl, rfl, (fun _ h => by cases h), rfl⟩
    · cases h

theorem pre_off : ∀ {v : Vw}, pre v = true → voff v = 0
  | .all, _ => rfl
  | .cut v lo hi, h => by
    simp only [pre] at h
    split at h
    · simp [voff, pre_off h]
    · cases h

/-- What is put behind: its elements lie somewhere. -/
theorem tail_ok (h : HR C F G w0 σ H w) {e : Nat} {z m : Sq} {y : AVal} {yv : Value} (hz : zq C.tt e = some z) (ht : tailOf H z y = some m) (hy : VR C σ y yv) :
    ∃ B c2, yv = .slice B m.len c2 ∧ m.rng ∧ m.len < maxL ∧ ∀ j x, m.cells[j]? = some x → ∃ ad, B = some ad ∧ w.cell? (ad.add j) = some x := by
  cases y <;> simp only [tailOf, reduceCtorEq] at ht
  · cases ht
    cases VR.nils hy
    obtain ⟨z1, z2, z3, _⟩ := zq_nil hz
    exact ⟨none, 0, by rw [z2], z3, by rw [z2]; simp [maxL], fun j x hj => by rw [z1] at hj; cases hj⟩
  · rename_i b g v
    split at ht
    · rename_i e' own s hr
      cases ht
      obtain ⟨pl, A, len, cap, ver, rfl, q1, q2, q3, q4, q5, q6⟩ := h.slice hy hr
      have hvl := vok_le q5.1
      have hmax := q4.2.2.2.2.2.2.2.1
      have := q4.2.1
      have := q5.2.1
      exact ⟨A, cap, by rw [q6], vw_rng v q4.2.2.2.2.2.1, by rw [← q6]; omega, sl_reads q4 q5⟩
    · cases ht

theorem grow_cells (e : Nat) {s' : Sq} {c sz : Nat} {tl : Array Value} (hsz : s'.esz = sz) (htl : tl.size = (c - s'.len) * sz) (hc : s'.len ≤ c) : (s'.cells ++ tl.toList).length = c * s'.esz := by
  rw [List.length_append, Sq.cells_len, Array.length_toList, htl, hsz, ← Nat.add_mul]
  congr 1; omega

theorem append_ok (ht : TabOk P C.tt) (h : HR C F G w0 σ H w) {t ty e : Nat} {u v : AVal} {out : AOut} {x y : Value} (he : elemOf C.tt t = some e) (ho : appendA C.tt H e u v = out) (hx : VR C σ u x) (hy : VR C σ v y) :
    out.ge P C F G w0 σ H w (Builtin.append_ #[t, t] ty #[x, y]) := by
  have hu := elemOf_spec ht he
  unfold appendA at ho
  split at ho
  · (subst ho; trivial)
  · rename_i z hz
    obtain ⟨te, zv, y1, y2, y3, y4, y5⟩ := zq_zero ht hz
    obtain ⟨inf, zv', i1, i2, i3, i4, i5⟩ := info_run ht y1
    rw [y2] at i5; cases i5
    have hb := (ht _ _ y1).1.2
    have hesz0 : 0 < z.esz := by cases z <;> simp [Sq.esz]
    split at ho
    · (subst ho; trivial)
    · rename_i m hm
      obtain ⟨B, c2, rfl, m1, m2, m3⟩ := tail_ok h hz hm hy
      have hzc : (packV zv).cells.size = z.esz := by rw [← Array.length_toList]; exact y4
      have hfc : ∀ w1 : World, (∀ a q, w.cell? a = some q → w1.cell? a = some q) → m.esz = z.esz → (Builtin.firstCells inf.size m.len (.slice B m.len c2)).run P w1 = .ok m.cells.toArray w1 := by
        intro w1 hw1 hme
        cases B with
        | none =>
          have : m.cells = [] := by
            cases hc : m.cells with
            | nil => rfl
            | cons q _ => obtain ⟨_, hh, _⟩ := m3 0 q (by rw [hc]; rfl); cases hh
          rw [this]
          simp [Builtin.firstCells]
        | some ad => exact run_firstCells_some w1 inf.size m.len ad _ _ _ (by rw [Sq.cells_len, hme, i2, y3]) (fun j q hj => by
            obtain ⟨ad', hh, hc⟩ := m3 j q hj
            cases hh
            exact hw1 _ _ hc)
      split at ho
      · -- nothing there yet
        split at ho
        · rename_i hlike
          subst ho
          intro h1
          have hlen : m.len < 2147483648 := by rwa [room, Nat.blt_eq] at h1
          have hme := (like_esz hlike).symm
          have hok := zq_ok hz hlike
          cases VR.nils hx
          by_cases h0 : m.len = 0
          · have hc0 : m.cells = [] := List.eq_nil_of_length_eq_zero (by rw [Sq.cells_len, h0]; simp)
            have hf0 := hfc w (fun _ _ h => h) hme
            have hp := h.push (But.refl w.heap.size w) ⟨true, 1, 0, none, e, m.esz, 0⟩ (.row 0 1 true e m) ⟨rfl, rfl, by rw [h0], rfl, rfl, hok, m1, by rw [h0]; exact Nat.le_refl 0, m2, rfl⟩ (fun c o hc => by cases hc)
            refine ⟨.slice none 0 0, w, _, ?_, rfl, ?_, hp.1⟩
            · rw [h0] at hf0 ⊢
              simp [Builtin.append_, run_underlying hu, sizeOf, typeInfo, i1, Builtin.lenOf, hf0]
            · simp only [nv, RL]
              exact ⟨⟨true, 1, 0, none, e, m.esz, 0⟩, none, 0, 0, by rw [← h.len]; simp, Nat.le_refl _, fun _ => ⟨trivial, rfl, Nat.le_refl _, by simp [voff], rfl⟩, rfl⟩
          · have hB : ∃ ad, B = some ad := by
              cases hc : m.cells with
              | nil => exact absurd (Sq.nil_len hc) h0
              | cons q _ => obtain ⟨ad, hh, _⟩ := m3 0 q (by rw [hc]; rfl); exact ⟨ad, hh⟩
            obtain ⟨ad, rfl⟩ := hB
            have hmul : m.len * inf.bytes ≤ 281474976710656 := by
              rw [i3]
              have := Nat.mul_le_mul (Nat.le_of_lt hlen) hb
              omega
            have hrun := run_append_nil (P := P) w t ty e inf (packV zv) hu i1 i4 ad m.len c2 m.cells (by rw [Sq.cells_len, hme, i2, y3]) (fun j q hj => by
              obtain ⟨ad', hh, hc⟩ := m3 j q hj
              cases hh
              exact hc) (by omega) (by omega) hmul
            have hge := grownCap_ge w m.len 0 e
            have hzs := size_zeroCells (packV zv).cells (grownCap w m.len 0 e - m.len)
            rw [hzc] at hzs
            have ha := heap_alloc w.drew (.cells (m.cells.toArray ++ Builtin.zeroCells (packV zv).cells (grownCap w m.len 0 e - m.len)) e)
            have hcl := grow_cells e (s' := m) (c := grownCap w m.len 0 e) (sz := z.esz) hme hzs hge
            have hnr := new_row (C := C) (e := e) (s := m) (tl := (Builtin.zeroCells (packV zv).cells (grownCap w m.len 0 e - m.len)).toList) (room := grownCap w m.len 0 e) (T := e) (fz := (0, 0)) h (But.drew w _) (by
              refine ha.2.1.trans ?_
              congr 2
              apply Array.ext'
              simp) (.inl rfl) hcl hge hok m1 m2
            exact ⟨_, _, _, hrun, rfl, hnr.2.2, hnr.1⟩
        · (subst ho; trivial)
      · -- a row of the call's own
        rename_i b g' vv
        split at ho
        · rename_i ver gg e' s hbl
          split at ho
          · rename_i s' hcond hs'
            subst ho
            intro h1
            simp only [Bool.and_eq_true] at hcond
            obtain ⟨⟨hg1, he1⟩, hpre⟩ := hcond
            have hg2 := Nat.eq_of_beq_eq_true hg1
            have he2 := Nat.eq_of_beq_eq_true he1
            subst hg2
            subst he2
            have hlen : s'.len < 2147483648 := by rwa [room, Nat.blt_eq] at h1
            obtain ⟨a1, a2, a3, a4, a5, a6, a7⟩ := Sq.app_ok hs'
            have hrw : rowAt H b g' = some (e, true, s) := by simp [rowAt, hbl, Nat.beq_refl]
            obtain ⟨pl, A, len, cap, ver', rfl, q1, q2, q3, q4, q5, q6⟩ := h.slice hx hrw
            have hoff := pre_off hpre
            have hn := q4.2.1
            have hvok : vok s.len vv := by rw [← hn]; exact q5.1
            have hve := vw_esz vv s
            have hsz : s.esz = z.esz := by
              have h1 := sqOk_sz ht q4.2.2.2.2.1
              rw [tlk_sz y1, y3] at h1
              exact h1.symm
            have hme : m.esz = z.esz := by rw [a5, hve, hsz]
            have hok : sqOk C.tt e s' = true := sqOk_like (sqOk_like q4.2.2.2.2.1 (vw_like vv s)) a6
            have hrng : s'.rng := a7 (vw_rng vv q4.2.2.2.2.2.1) m1
            have hs'e : s'.esz = z.esz := by rw [a4, hve, hsz]
            have hs'l : s'.len = len + m.len := by rw [a3, ← q6]
            have hmax : s'.len < maxL := by unfold maxL; omega
            have hown : (hget H b).own = true := by rw [hbl]; rfl
            have hple : pl.esz = z.esz := by rw [q4.esz, hsz]
            have hcells := vw_cells vv s hvok
            rw [hoff, Nat.zero_mul, List.drop_zero] at hcells
            have h8 := q4.2.2.2.2.2.2.2.2
            have h9 := q5.2.2.2.2
            have hroomc := q5.2.2.2.1
            have hlc := q5.2.2.1
            -- the block's next state
            have fin : ∀ (c : Value) (w' : World) (q : Pl) (A' : Option Addr) (cap' : Nat), (Builtin.append_ #[t, t] ty #[.slice A len cap, .slice B m.len c2]).run P w = .ok (.slice A' s'.len cap') w' →
                q.gen = g' + 1 → q.n = s'.len → s'.len ≤ cap' → cap' ≤ q.room →
                (match q.at_ with | none => A' = none | some (c, o) => ∃ a, A' = some a ∧ a = ⟨c, o, none⟩) →
                HR C F G w0 (σ.set b q) (hset H b (.row (ver + 1) (g' + 1) true e s')) w' ∧ LeD H σ (σ.set b q) →
                Ge P C F G w0 σ H w (Builtin.append_ #[t, t] ty #[.slice A len cap, .slice B m.len c2]) (.slice b (g' + 1) .all) (hset H b (.row (ver + 1) (g' + 1) true e s')) := by
              intro _ w' q A' cap' hr hgen hqn hl1 hl2 hat hh
              refine ⟨_, w', _, hr, hh.2, ?_, hh.1⟩
              simp only [RL]
              refine ⟨q, A', _, cap', by rw [List.getElem?_set_self (List.getElem?_eq_some_iff.1 q1).1], by omega, fun _ => ⟨trivial, by simp [vlen, hqn], hl1, by simp [voff]; exact hl2, ?_⟩, rfl⟩
              split
              · rename_i hq; rw [hq] at hat; exact hat
              · rename_i c o hq; rw [hq] at hat; obtain ⟨a, ha, hb⟩ := hat; exact ⟨a, ha, fun _ => by simp [voff, hb], _, hb⟩
            split at h8
            · -- nil
              rename_i hat
              rw [hat] at h9
              subst h9
              have hcap0 : cap = 0 := by omega
              have hlen0 : len = 0 := by omega
              subst hcap0
              subst hlen0
              have hvc : (vw vv s).cells = [] := List.eq_nil_of_length_eq_zero (by rw [Sq.cells_len, ← q6]; simp)
              rw [hvc, List.nil_append] at a2
              by_cases h0 : m.len = 0
              · have hf0 := hfc w (fun _ _ h => h) hme
                have hup := h.upd (c := w.heap.size) q1 hown (But.refl _ w) (.inr (Nat.le_refl _)) ⟨true, g' + 1, s'.len, none, e, pl.esz, 0⟩ (by simp only; omega) (fun hh => by simp only at hh; omega) (.row (ver + 1) (g' + 1) true e s') (fun c' o' hh => by cases hh)
                  ⟨rfl, rfl, rfl, rfl, by simp only; rw [hple, hs'e], hok, hrng, by simp only; omega, hmax, rfl⟩
                refine fin (.slice none 0 0) w ⟨true, g' + 1, s'.len, none, e, pl.esz, 0⟩ none 0 ?_ rfl rfl (by omega) (Nat.le_refl 0) rfl hup
                rw [hs'l, h0] 
                rw [h0] at hf0
                simp [Builtin.append_, run_underlying hu, sizeOf, typeInfo, i1, Builtin.lenOf, hf0]
              · have hB : ∃ ad, B = some ad := by
                  cases hc : m.cells with
                  | nil => exact absurd (Sq.nil_len hc) h0
                  | cons q _ => obtain ⟨ad, hh, _⟩ := m3 0 q (by rw [hc]; rfl); exact ⟨ad, hh⟩
                obtain ⟨ad, rfl⟩ := hB
                have hmul : m.len * inf.bytes ≤ 281474976710656 := by
                  rw [i3]
                  have := Nat.mul_le_mul (show m.len ≤ 2147483648 by omega) hb
                  omega
                have hrun := run_append_nil (P := P) w t ty e inf (packV zv) hu i1 i4 ad m.len c2 m.cells (by rw [Sq.cells_len, hme, i2, y3]) (fun j q hj => by
                  obtain ⟨ad', hh, hc⟩ := m3 j q hj
                  cases hh
                  exact hc) (by omega) (by omega) hmul
                have hml : s'.len = m.len := by omega
                rw [← hml] at hrun
                have hge := grownCap_ge w s'.len 0 e
                have hzs := size_zeroCells (packV zv).cells (grownCap w s'.len 0 e - s'.len)
                rw [hzc] at hzs
                have ha := heap_alloc w.drew (.cells (m.cells.toArray ++ Builtin.zeroCells (packV zv).cells (grownCap w s'.len 0 e - s'.len)) e)
                have hcl := grow_cells e (s' := s') (c := grownCap w s'.len 0 e) (sz := z.esz) hs'e hzs hge
                have hup := h.upd (c := w.heap.size) q1 hown (But.drew w (.cells (m.cells.toArray ++ Builtin.zeroCells (packV zv).cells (grownCap w s'.len 0 e - s'.len)) e)) (.inr (Nat.le_refl _)) ⟨true, g' + 1, s'.len, some (w.heap.size, 0), e, pl.esz, grownCap w s'.len 0 e⟩ (by simp only; omega) (fun hh => by simp only at hh; omega) (.row (ver + 1) (g' + 1) true e s') (fun c' o' hh => by
                    simp only [Option.some.injEq, Prod.mk.injEq] at hh
                    exact ⟨.inr (by omega), by rw [← hh.1, ha.2.2]; exact Nat.lt_succ_self _⟩)
                  ⟨rfl, rfl, rfl, rfl, by simp only; rw [hple, hs'e], hok, hrng, hge, hmax, s'.cells ++ (Builtin.zeroCells (packV zv).cells (grownCap w s'.len 0 e - s'.len)).toList, e, (0, 0), by
                    refine ha.2.1.trans ?_
                    congr 2
                    apply Array.ext'
                    simp [a2], fun j q hj => by rw [Nat.zero_add, List.getElem?_append_left (List.getElem?_eq_some_iff.1 hj).1]; exact hj, fun _ => ⟨rfl, by rw [hcl, hs'e, hple], .inl rfl⟩⟩
                rw [← hml]
                rw [← hml] at fin
                exact fin (.slice none 0 0) _ ⟨true, g' + 1, s'.len, some (w.heap.size, 0), e, pl.esz, grownCap w s'.len 0 e⟩ _ _ hrun rfl rfl hge (Nat.le_refl _) ⟨_, rfl, rfl⟩ hup
            · rename_i c o hat
              obtain ⟨cl, T, fz, z1, z2, z3⟩ := h8
              obtain ⟨rfl, z4, z5⟩ := z3 rfl
              rw [hat] at h9
              obtain ⟨a, rfl, hae, hblk⟩ := h9
              have := hae (.inl hoff)
              rw [hoff, Nat.zero_mul, Nat.zero_add] at this
              subst this
              have hlv : len = vlen s.len vv := by rw [← hn]; exact q5.2.1
              have hvle := vok_le hvok
              have hcl2 : (vw vv s).cells = cl.take (len * z.esz) := by
                rw [hcells, ← hlv, hsz]
                apply List.ext_getElem?
                intro j
                rw [List.getElem?_take, List.getElem?_take]
                split
                · rename_i hj
                  have hjs : j < s.cells.length := by
                    rw [Sq.cells_len, hsz]
                    exact Nat.lt_of_lt_of_le hj (Nat.mul_le_mul_right _ (by omega))
                  have := z2 j _ (List.getElem?_eq_getElem hjs)
                  rw [Nat.zero_add] at this
                  rw [this, List.getElem?_eq_getElem hjs]
                · rfl
              by_cases hfit : len + m.len ≤ cap
              · -- there is room
                have hmc : m.cells.length = m.len * z.esz := by rw [Sq.cells_len, hme]
                have hle : len * z.esz + m.cells.length ≤ cl.length := by
                  rw [z4, hple, hmc, ← Nat.add_mul]
                  exact Nat.mul_le_mul_right _ (by omega)
                have hone : ∀ q ∈ m.cells, q.oneCell' = true := fun q hq => RL.one (C := C) (σ := σ) (v := .arr m.len m) ⟨rfl, m1, rfl⟩ q hq
                obtain ⟨w', k1, k2, k3, k4⟩ := storeCells_ok (P := P) (c := c) (off := len * z.esz) m.cells 0 z1 z5 (by omega) hone
                rw [Nat.add_zero] at k2
                have hup := h.upd (c := c) q1 hown k3 (.inl ⟨0, hat⟩) ⟨true, g' + 1, s'.len, some (c, 0), e, pl.esz, pl.room⟩ (by simp only; omega) (fun hh => by simp only at hh; omega) (.row (ver + 1) (g' + 1) true e s') (fun c' o' hh => by
                    simp only [Option.some.injEq, Prod.mk.injEq] at hh
                    exact ⟨.inl ⟨0, by rw [← hh.1]; exact hat⟩, by rw [← hh.1, k4]; exact (Array.getElem?_eq_some_iff.1 z1).1⟩)
                  ⟨rfl, rfl, rfl, rfl, by simp only; rw [hple, hs'e], hok, hrng, by simp only; omega, hmax, _, T, fz, k2, fun j q hj => by
                    rw [a2, hcl2] at hj
                    rw [Nat.zero_add]
                    simp only [putAt]
                    rw [List.append_assoc] 
                    have hl1 : (cl.take (len * z.esz)).length = len * z.esz := by simp; omega
                    by_cases hjj : j < len * z.esz
                    · rw [List.getElem?_append_left (by omega)] at hj ⊢
                      exact hj
                    · rw [List.getElem?_append_right (by omega), hl1] at hj ⊢
                      rw [List.getElem?_append_left (List.getElem?_eq_some_iff.1 hj).1]
                      exact hj, fun _ => ⟨rfl, by rw [putAt_len hle]; exact z4, by rw [putAt_len hle]; exact z5⟩⟩
                refine fin (.slice none 0 0) w' ⟨true, g' + 1, s'.len, some (c, 0), e, pl.esz, pl.room⟩ (some ⟨c, 0, none⟩) cap ?_ rfl rfl (by omega) (by simp only; omega) ⟨_, rfl, rfl⟩ hup
                have hf0 := hfc w (fun _ _ h => h) hme
                rw [hs'l]
                have hsi : inf.size = z.esz := by rw [i2, y3]
                rw [hsi] at hf0
                simp [Builtin.append_, run_underlying hu, sizeOf, typeInfo, i1, Builtin.lenOf, hfit, hsi, hf0, addr_add, k1]
              · have hmp : 0 < m.len := by omega
                have hB : ∃ ad, B = some ad := by
                  cases hc : m.cells with
                  | nil => have := Sq.nil_len hc; omega
                  | cons q _ => obtain ⟨ad, hh, _⟩ := m3 0 q (by rw [hc]; rfl); exact ⟨ad, hh⟩
                obtain ⟨ad, rfl⟩ := hB
                have hmul : (len + m.len) * inf.bytes ≤ 140737488355328 := by
                  rw [i3]
                  have := Nat.mul_le_mul (show len + m.len ≤ 2147483648 by omega) hb
                  omega
                have hvl : (vw vv s).cells.length = len * inf.size := by rw [Sq.cells_len, ← q6, hve, hsz, i2, y3]
                have hrun := run_append_grow (P := P) w t ty e inf (packV zv) hu i1 i4 ⟨c, 0, none⟩ len cap (vw vv s).cells hvl (fun j q hj => by
                    obtain ⟨ad', hh, hc⟩ := sl_reads q4 q5 j q hj
                    cases hh
                    exact hc) ad m.len c2 m.cells (by rw [Sq.cells_len, hme, i2, y3]) (fun j q hj => by
                    obtain ⟨ad', hh, hc⟩ := m3 j q hj
                    cases hh
                    exact hc) (by omega) (by omega) (growslice_fits (by omega) hmul)
                rw [← hs'l] at hrun
                have hge := grownCap_ge w s'.len cap e
                have hzs := size_zeroCells (packV zv).cells (grownCap w s'.len cap e - s'.len)
                rw [hzc] at hzs
                have ha := heap_alloc w.drew (.cells ((vw vv s).cells.toArray ++ m.cells.toArray ++ Builtin.zeroCells (packV zv).cells (grownCap w s'.len cap e - s'.len)) e)
                have hcl := grow_cells e (s' := s') (c := grownCap w s'.len cap e) (sz := z.esz) hs'e hzs hge
                have hup := h.upd (c := w.heap.size) q1 hown (But.drew w (.cells ((vw vv s).cells.toArray ++ m.cells.toArray ++ Builtin.zeroCells (packV zv).cells (grownCap w s'.len cap e - s'.len)) e)) (.inr (Nat.le_refl _)) ⟨true, g' + 1, s'.len, some (w.heap.size, 0), e, pl.esz, grownCap w s'.len cap e⟩ (by simp only; omega) (fun hh => by simp only at hh; omega) (.row (ver + 1) (g' + 1) true e s') (fun c' o' hh => by
                    simp only [Option.some.injEq, Prod.mk.injEq] at hh
                    exact ⟨.inr (by omega), by rw [← hh.1, ha.2.2]; exact Nat.lt_succ_self _⟩)
                  ⟨rfl, rfl, rfl, rfl, by simp only; rw [hple, hs'e], hok, hrng, hge, hmax, s'.cells ++ (Builtin.zeroCells (packV zv).cells (grownCap w s'.len cap e - s'.len)).toList, e, (0, 0), by
                    refine ha.2.1.trans ?_
                    congr 2
                    apply Array.ext'
                    simp [a2], fun j q hj => by rw [Nat.zero_add, List.getElem?_append_left (List.getElem?_eq_some_iff.1 hj).1]; exact hj, fun _ => ⟨rfl, by rw [hcl, hs'e, hple], .inl rfl⟩⟩
                exact fin (.slice none 0 0) _ ⟨true, g' + 1, s'.len, some (w.heap.size, 0), e, pl.esz, grownCap w s'.len cap e⟩ _ _ hrun rfl rfl hge (Nat.le_refl _) ⟨_, rfl, rfl⟩ hup
          · (subst ho; trivial)
        · (subst ho; trivial)
      · (subst ho; trivial)

theorem freeze_at {c k : Nat} {cl : Array Value} {T : Nat} {fz : Nat × Nat} (hb : w.heap[c]? = some (.cells cl T fz)) : (w.freeze ⟨c, k, none⟩ 1).heap[c]? = some (.cells cl T (if fz.1 == fz.2 then (k, k + 1) else (min fz.1 k, max fz.2 (k + 1)))) ∧ But c w (w.freeze ⟨c, k, none⟩ 1) ∧ (w.freeze ⟨c, k, none⟩ 1).heap.size = w.heap.size := by
  obtain ⟨lo, hi⟩ := fz
  have hsz : (w.freeze ⟨c, k, none⟩ 1).heap.size = w.heap.size := by
    unfold World.freeze
    rw [if_neg (by decide)]
    simp
  refine ⟨?_, ⟨?_, ?_, ?_, by rw [hsz]; exact Nat.le_refl _, fun i _ hi => ?_⟩, hsz⟩
  · unfold World.freeze
    rw [if_neg (by decide)]
    simp only
    rw [Array.getElem?_modify, if_pos rfl, hb]
    rfl
  · unfold World.freeze; rw [if_neg (by decide)]
  · unfold World.freeze; rw [if_neg (by decide)]
  · unfold World.freeze; rw [if_neg (by decide)]
  · unfold World.freeze
    rw [if_neg (by decide)]
    simp only
    rw [Array.getElem?_modify, if_neg (fun e => hi e.symm)]

theorem conv_eff (ht : TabOk P C.tt) (h : HR C F G w0 σ H w) {s d : Nat} {u : AVal} {out : AOut} {x : Value} (ho : convA C.tt H s d u = out) (hx : VR C σ u x) : out.ge P C F G w0 σ H w (convert s d x) := by
  unfold convA at ho
  split at ho
  · rename_i a b ha hb
    have kb := (ht _ _ hb).2
    have ka := (ht _ _ ha).2
    have ht0 := ha
    have ht1 := hb
    obtain ⟨ak, asz, abt, aeq⟩ := a
    obtain ⟨bk, bsz, bbt, beq⟩ := b
    simp only at ho
    split at ho
    · (subst ho; trivial)
    · (subst ho; trivial)
    · split at ho <;> (subst ho; trivial)
    · split at ho
      · split at ho <;> (subst ho; trivial)
      · (subst ho; trivial)
    · -- a string's bytes
      rename_i e l
      split at ho
      · rename_i he
        subst ho
        intro _
        simp only [KOk] at ka kb
        obtain ⟨hue, te, hte, hsz, hk⟩ := isU8_spec ht he
        have hsb := VR.sb hx
        cases VR.str hx
        let q : Question := .appendCap l.length 0 e
        let c := q.cut (w.tape w.drawn q)
        let tl : List Value := List.replicate (c - l.length) (.int .u8 0)
        have hc : l.length ≤ c := by
          show l.length ≤ l.length + _ % _
          omega
        let cs : List Value := (Sq.u8 l).cells ++ tl
        have hcl : cs.length = c := by simp [cs, tl, Sq.cells]; omega
        let w2 : World := w.drew.alloc (.cells cs.toArray e)
        have ha := heap_alloc w.drew (.cells cs.toArray e)
        have hb2 : w2.heap[w.heap.size]? = some (.cells cs.toArray e (0, 0)) := ha.2.1
        have hsh : w2.shape? w.heap.size = some (e, c) := by simp only [World.shape?, hb2, List.size_toArray, hcl]
        have hcells : ((mk l).data.map fun b => Value.int .u8 b.toNat) ++ Array.replicate (c - (mk l).size) (.int .u8 0) = cs.toArray := by
          apply Array.ext'
          simp [cs, tl, Sq.cells]
          rfl
        have hconv : (Conv.stringToBytes e (mk l)).run P w = .ok (.slice (some ⟨w.heap.size, 0, none⟩) l.length c) (w2.freeze ⟨w.heap.size, c, none⟩ 1) := by
          have hq : (Question.appendCap (mk l).size 0 e).forced = false := rfl
          unfold Conv.stringToBytes
          simp only [Sem.run_bind]
          have h1 : (choose (Question.appendCap (mk l).size 0 e)).run P w = .ok c w.drew := by
            simp only [choose, Sem.run, hq]
            rfl
          rw [h1]
          simp only [Result.andThen_ok]
          rw [hcells]
          have h2 : (newRow e cs.toArray).run P w.drew = .ok ⟨w.heap.size, 0, none⟩ w2 := rfl
          rw [h2]
          simp only [Result.andThen_ok]
          have h3 : (markStringish ⟨w.heap.size, 0, none⟩).run P w2 = .ok () (w2.freeze ⟨w.heap.size, c, none⟩ 1) := by
            simp [markStringish, shape, freeze, Sem.run, hsh]
          rw [h3]
          rfl
        obtain ⟨f1, f2, f3⟩ := freeze_at (w := w2) (c := w.heap.size) (k := c) hb2
        have hok : sqOk C.tt e (.u8 l) = true := by
          unfold isU8 at he
          split at he
          · rename_i hh; simp [sqOk, zq, hh, Sq.like]
          · cases he
        have hbut : But w.heap.size w (w2.freeze ⟨w.heap.size, c, none⟩ 1) := (But.drew w (.cells cs.toArray e)).trans f2
        have hnr := new_row (C := C) (e := e) (s := .u8 l) (tl := tl) (room := c) (T := e) (fz := (c, c + 1)) h hbut (by simpa using f1) (.inr (by show cs.length ≤ c; omega)) (by show cs.length = c * 1; omega) hc hok trivial hsb
        exact ⟨_, _, _, by simp [convert, run_underlying ka.1, run_underlying kb.1, run_underlying hue, hconv]; rfl, rfl, hnr.2.2, hnr.1⟩
      · (subst ho; trivial)
    · -- bytes into bytes
      rename_i e e' b g'
      split at ho
      · rename_i ver gg e2 q hsd he hbl
        split at ho
        · rename_i hgg
          subst ho
          intro h0
          have h1 := Nat.eq_of_beq_eq_true hsd
          have h2 := Nat.eq_of_beq_eq_true hgg
          subst h1
          subst h2
          simp only [KOk] at ka
          obtain ⟨hue, _⟩ := isU8_spec ht he
          have hrw : rowAt H b g' = some (e2, true, q) := by simp [rowAt, hbl, Nat.beq_refl]
          have hx' := hx
          obtain ⟨pl, A, len, cap, ver', rfl, q1, q2, q3, q4, q5, q6⟩ := h.slice hx hrw
          have h8 := q4.2.2.2.2.2.2.2.2
          have h9 := q5.2.2.2.2
          have hq0 : 0 < q.len := by rwa [Nat.blt_eq] at h0
          have hroom := q4.2.2.2.2.2.2.1
          split at h8
          · omega
          · rename_i c o hat
            obtain ⟨cl, T, fz, z1, z2, z3⟩ := h8
            obtain ⟨rfl, z4, z5⟩ := z3 rfl
            rw [hat] at h9
            obtain ⟨a, rfl, hae, hblk⟩ := h9
            have := hae (.inl rfl)
            simp only [voff, Nat.zero_mul, Nat.zero_add] at this
            subst this
            have hsh : w.shape? c = some (T, cl.length) := by simp [World.shape?, z1]
            obtain ⟨f1, f2, f3⟩ := freeze_at (w := w) (c := c) (k := cl.length) z1
            have hset : σ.set b pl = σ := by
              have := (List.getElem?_eq_some_iff.1 q1).2
              rw [← this, List.set_getElem_self]
            have hup := h.upd (c := c) q1 (by rw [hbl]; rfl) f2 (.inl ⟨0, hat⟩) pl (Nat.le_refl _) (fun _ => rfl) (.row (ver + 1) g' true e2 q) (fun c' o' hh => ⟨.inl ⟨o', hh⟩, by
              rw [hat] at hh; cases hh
              rw [f3]; exact (Array.getElem?_eq_some_iff.1 z1).1⟩) ⟨q2, q4.1, q4.2.1, q4.2.2.1, q4.2.2.2.1, q4.2.2.2.2.1, q4.2.2.2.2.2.1, hroom, q4.2.2.2.2.2.2.2.1, by
              rw [hat]
              refine ⟨cl, T, _, f1, z2, fun _ => ⟨rfl, z4, ?_⟩⟩
              by_cases hz : fz.1 = fz.2
              · simp only [hz, beq_self_eq_true, if_true]
                exact .inr (Nat.le_refl _)
              · have hz' := z5.resolve_left hz
                have : (fz.1 == fz.2) = false := by simpa using hz
                rw [this]
                simp only [Bool.false_eq_true, if_false]
                exact .inr (by simp only; omega)⟩
            refine ⟨_, _, _, ?_, hup.2, RL.mono hup.2.1 hx', hup.1⟩
            simp [convert, run_underlying ka.1, run_underlying hue, markStringish, shape, freeze, Sem.run, hsh]
        · (subst ho; trivial)
      · (subst ho; trivial)
    · (subst ho; trivial)
  · (subst ho; trivial)
end
end Go.Proofs.YtaakccdfgejgpaaGreatDoor.Abs
