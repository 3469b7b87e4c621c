/-
  From functions to contracts: what a function hands back; the theorem.
-/
import Derived.Test.YtaakccdfgejgpaaGreatDoorAbsX
namespace Go.Proofs.YtaakccdfgejgpaaGreatDoor.Abs
open Go
set_option linter.unusedVariables false

theorem voff_comp (u : Vw) : ∀ v : Vw, voff (comp u v) = voff u + voff v
  | .all => by simp [comp, voff]
  | .cut v lo hi => by simp only [comp, voff, voff_comp u v]; omega
theorem vlen_comp (n : Nat) (u : Vw) : ∀ v : Vw, vlen n (comp u v) = vlen (vlen n u) v
  | .all => rfl
  | .cut v lo hi => rfl
theorem vok_comp {n : Nat} {u : Vw} (hu : vok n u) : ∀ {v : Vw}, vok (vlen n u) v → vok n (comp u v)
  | .all, _ => hu
  | .cut v lo hi, h => ⟨vok_comp hu h.1, h.2.1, h.2.2.1, by rw [vlen_comp]; exact h.2.2.2⟩

theorem SlOk.comp {pl : Pl} {u v : Vw} {A A' : Option Addr} {len cap len' cap' e : Nat} (h : SlOk pl u A len cap) (k : SlOk (vpl A len cap e pl.esz) v A' len' cap') : SlOk pl (Abs.comp u v) A' len' cap' := by
  obtain ⟨h1, h2, h3, h4, h5⟩ := h
  obtain ⟨k1, k2, k3, k4, k5⟩ := k
  simp only [vpl] at k1 k2 k4
  have hle := vok_le k1
  refine ⟨vok_comp h1 (by rw [← h2]; exact k1), by rw [vlen_comp, ← h2]; exact k2, k3, by rw [voff_comp]; omega, ?_⟩
  cases hat : pl.at_ with
  | none =>
    rw [hat] at h5
    simp only at h5
    subst h5
    exact k5
  | some co =>
    obtain ⟨c, o⟩ := co
    rw [hat] at h5
    obtain ⟨a, rfl, hae, q, rfl⟩ := h5
    simp only [vpl, Option.map_some] at k5
    obtain ⟨a', rfl, hae', q', rfl⟩ := k5
    refine ⟨_, rfl, fun hc => ?_, q', rfl⟩
    rw [voff_comp] at hc ⊢
    have e1 := hae' (by omega)
    have e2 := hae (by omega)
    simp only [Addr.mk.injEq, true_and, and_true] at e1 e2
    rw [e1, e2, Nat.add_mul, Nat.add_assoc]

section
variable {P : Program} {C : Cfg} {X : List Ct} {σ σ0 σ' τ : List Pl} {w w' w0 : World} {F G : Nat → Prop} {H Hc H0 H' : Heap} {ss : List Src} {np n : Nat} {kp : Bool}

/-- How the function's placements and the caller's hang together. -/
structure Tr (kp : Bool) (np n : Nat) (ss : List Src) (σ' τ : List Pl) : Prop where
  row : kp = true → ∀ (j b g : Nat) (u : Vw), ss[j]? = some (.row b g u) → ∃ pl A len cap e, σ'[j]? = some (vpl A len cap e pl.esz) ∧ SlOk pl u A len cap ∧ ∃ q, τ[b]? = some q ∧ g ≤ q.gen ∧ (g = q.gen → q = pl)
  nil : kp = true → ∀ (j : Nat), ss[j]? = some .nil → ∃ p, σ'[j]? = some p ∧ p.gen = 1 ∧ p.at_ = none ∧ p.n = 0 ∧ p.room = 0
  var : ∀ (j b : Nat), ss[j]? = some (.var b) → ∃ p q, σ'[j]? = some p ∧ p.gen = 1 ∧ τ[b]? = some q ∧ 1 ≤ q.gen ∧ (1 = q.gen → q = p)

theorem RL.tr (ht : Tr kp np n ss σ' τ) : ∀ {v v' : AVal} {m : Bool} {cs : List Value}, trV kp np n ss v = some v' → (∀ j ∈ v.ids, np ≤ j → ∀ p, σ'[j]? = some p → τ[n + (j - np)]? = some p) → RL C σ' v m cs → RL C τ v' m cs := by
  intro v
  induction v with
  | ptr b g p =>
    intro v' m cs hv hn hr
    simp only [trV] at hv
    split at hv
    · rename_i hb
      split at hv
      · rename_i b' h1 h2
        cases hv
        have h2 := Nat.eq_of_beq_eq_true h2
        subst h2
        rw [srcAt_eq] at h1
        obtain ⟨q, q', k1, k2, k3, k4, k5⟩ := ht.var b b' h1
        simp only [RL] at hr ⊢
        obtain ⟨pl, a, r1, r2, r3, r4⟩ := hr
        rw [k1] at r1; cases r1
        exact ⟨q', a, k3, k4, fun e => by rw [k5 e]; exact r3 k2.symm, r4⟩
      · cases hv
    · rename_i hb
      cases hv
      have hb' : np ≤ b := by
        refine Nat.le_of_not_lt fun h => ?_
        rw [← Nat.blt_eq, hb] at h; cases h
      simp only [RL] at hr ⊢
      obtain ⟨pl, a, r1, r2⟩ := hr
      exact ⟨pl, a, hn b (by simp [AVal.ids]) hb' pl r1, r2⟩
  | slice b g u =>
    intro v' m cs hv hn hr
    simp only [trV] at hv
    split at hv
    · rename_i hb
      split at hv
      · rename_i b' g' u' h1 h2
        cases hv
        have h2 := Nat.eq_of_beq_eq_true h2
        subst h2
        rw [srcAt_eq] at h1
        obtain ⟨pl, A, len, cap, e, k1, k2, q, k3, k4, k5⟩ := ht.row rfl b b' g' u' h1
        simp only [RL] at hr ⊢
        obtain ⟨pl', A', len', cap', r1, r2, r3, r4⟩ := hr
        rw [k1] at r1; cases r1
        refine ⟨q, A', len', cap', k3, k4, fun e => ?_, r4⟩
        rw [k5 e]
        exact k2.comp (r3 rfl)
      · rename_i h1 h2
        cases hv
        have h2 := Nat.eq_of_beq_eq_true h2
        subst h2
        rw [srcAt_eq] at h1
        obtain ⟨p, k1, k2, k3, k4, k5⟩ := ht.nil rfl b h1
        simp only [RL] at hr ⊢
        obtain ⟨pl', A', len', cap', r1, r2, r3, rfl⟩ := hr
        rw [k1] at r1; cases r1
        obtain ⟨s1, s2, s3, s4, s5⟩ := r3 k2.symm
        rw [k3] at s5
        simp only at s5
        subst s5
        have : cap' = 0 := by omega
        subst this
        have : len' = 0 := by omega
        subst this
        rfl
      · cases hv
    · rename_i hb
      cases hv
      have hb' : np ≤ b := by
        refine Nat.le_of_not_lt fun h => ?_
        rw [← Nat.blt_eq, hb] at h; cases h
      simp only [RL] at hr ⊢
      obtain ⟨pl, A, len, cap, r1, r2⟩ := hr
      exact ⟨pl, A, len, cap, hn b (by simp [AVal.ids]) hb' pl r1, r2⟩
  | fn f a c iha ihc =>
    intro v' m cs hv hn hr
    simp only [trV] at hv
    split at hv
    · rename_i a' c' ha hc
      cases hv
      simp only [RL] at hr ⊢
      obtain ⟨x, y, h1, h2, h3⟩ := hr
      exact ⟨x, y, iha ha (fun j hj => hn j (by simp only [AVal.ids]; exact List.mem_append_left _ hj)) h1, ihc hc (fun j hj => hn j (by simp only [AVal.ids]; exact List.mem_append_right _ hj)) h2, h3⟩
    · cases hv
  | pair a r iha ihr =>
    intro v' m cs hv hn hr
    simp only [trV] at hv
    split at hv
    · rename_i a' r' ha hrr
      cases hv
      cases m <;> simp only [RL] at hr ⊢
      · obtain ⟨x, y, h1, h2, h3⟩ := hr
        exact ⟨x, y, iha ha (fun j hj => hn j (by simp only [AVal.ids]; exact List.mem_append_left _ hj)) h1, ihr hrr (fun j hj => hn j (by simp only [AVal.ids]; exact List.mem_append_right _ hj)) h2, h3⟩
      · obtain ⟨x, y, h1, h2, h3⟩ := hr
        exact ⟨x, y, iha ha (fun j hj => hn j (by simp only [AVal.ids]; exact List.mem_append_left _ hj)) h1, ihr hrr (fun j hj => hn j (by simp only [AVal.ids]; exact List.mem_append_right _ hj)) h2, h3⟩
    · cases hv
  | agg p ih =>
    intro v' m cs hv hn hr
    simp only [trV] at hv
    split at hv
    · rename_i p' hp
      cases hv
      cases m <;> simp only [RL] at hr ⊢
      · exact ih hp hn hr
      · obtain ⟨x, h1, h2⟩ := hr
        exact ⟨x, ih hp hn h1, h2⟩
    · cases hv
  | tup p ih =>
    intro v' m cs hv hn hr
    simp only [trV] at hv
    split at hv
    · rename_i p' hp
      cases hv
      cases m <;> simp only [RL] at hr ⊢
      obtain ⟨x, h1, h2⟩ := hr
      exact ⟨x, ih hp hn h1, h2⟩
    · cases hv
  | _ =>
    intro v' m cs hv hn hr
    cases hv
    cases m <;> first | (simp only [RL] at hr; done) | simpa only [RL] using hr

/-! ### The end of a function -/
theorem canonP_ok (ht : TabOk P C.tt) : ∀ {vps : List Nat} {H : Heap} {m : List (Nat × Nat)} {H' : Heap} {m' : List (Nat × Nat)}, canonP C.tt np vps H m = some (H', m') → ∀ {σ : List Pl}, HR C F G w0 σ H w → Mok σ m → ∃ τ, HR C F G w0 (σ ++ τ) H' w ∧ Mok (σ ++ τ) m'
  | [], H, m, H', m', h, σ, hh, hm => by cases h; exact ⟨[], by simpa using hh, by simpa using hm⟩
  | j :: r, H, m, H', m', h, σ, hh, hm => by
    unfold canonP at h
    split at h
    · rename_i v1 H1 m1 h1
      have hv : (H1 = H ∧ m1 = m) ∨ ∃ c, VR C σ (.ptr j 1 []) c := by
        cases hb : hget H j with
        | var ver T u =>
          right
          have hlt : j < σ.length := by rw [hh.len]; exact hget_len (by rw [hb]; rfl)
          obtain ⟨a1, a2, a3, a4, c, cs, fz, a5, _⟩ := hh.var hb (List.getElem?_eq_getElem hlt)
          refine ⟨.pointer (some ⟨c, 0 + offB C.tt σ[j] [], none⟩), ?_⟩
          simp only [RL]
          refine ⟨_, _, List.getElem?_eq_getElem hlt, by omega, fun _ => ⟨?_, c, 0, a5, rfl⟩, rfl⟩
          simp only [pokB, a1, pokP]
        | dead =>
          left
          simp only [canonV, hb] at h1
          split at h1
          · split at h1
            · cases h1; exact ⟨rfl, rfl⟩
            · cases h1
          · split at h1
            · cases h1; exact ⟨rfl, rfl⟩
            · cases h1
        | row _ _ _ _ _ =>
          left
          simp only [canonV, hb] at h1
          split at h1
          · split at h1
            · cases h1; exact ⟨rfl, rfl⟩
            · cases h1
          · split at h1
            · cases h1; exact ⟨rfl, rfl⟩
            · cases h1
      rcases hv with ⟨rfl, rfl⟩ | ⟨c, hc⟩
      · exact canonP_ok ht h hh hm
      · obtain ⟨τ1, q1, q2, _⟩ := canonV_ok ht 40 h1 hh hm hc
        obtain ⟨τ2, p1, p2⟩ := canonP_ok ht h q1 q2
        exact ⟨τ1 ++ τ2, by rw [← List.append_assoc]; exact p1, by rw [← List.append_assoc]; exact p2⟩
    · cases h
theorem canE_ok (ht : TabOk P C.tt) {ts vps : List Nat} {v v' : AVal} {c : Value} (h : canE C.tt np kp ts vps v H = some (v', H')) (hh : HR C F G w0 σ H w) (hv : VR C σ v c) : ∃ σ', Lp np σ σ' ∧ HR C F G w0 σ' H' w ∧ VR C σ' v' c ∧ np ≤ H'.length := by
  unfold canE at h
  split at h
  · cases h
  · rename_i hnp
    have hnp := Nat.le_of_ble_eq_true hnp
    split at h
    · cases h
    · rename_i v1 H1 m1 h1
      split at h
      · cases h
      · rename_i H2 m2 h2
        split at h
        · rename_i v2 H3 h3 h4
          cases h
          obtain ⟨τ1, q1, q2, q3, _⟩ := canonV_ok ht 40 h1 hh (fun b b' h => by cases h) hv
          obtain ⟨τ2, p1, p2⟩ := canonP_ok ht h2 q1 q2
          have hlen := hh.len
          have hl2 : H.length ≤ H2.length := by rw [← p1.len, List.length_append, List.length_append]; omega
          have hls : np ≤ (σ ++ τ1 ++ τ2).length := by rw [List.length_append, List.length_append]; omega
          have hcut := p1.cut hnp hl2 h4
          refine ⟨cutS np H.length (σ ++ τ1 ++ τ2), (Lp.of ((Le.push σ τ1).trans (Le.push _ τ2))).trans (Lp.cut hnp hls), hcut, RL.ren hnp hls h3 (RL.mono (Le.push _ τ2) q3), ?_⟩
          rw [← hcut.len]
          unfold cutS
          rw [List.length_append, List.length_take]
          omega
        · cases h
theorem rowsAt_spec {H : Heap} : ∀ {l : List Nat}, rowsAt H l = true → ∀ j ∈ l, ∃ ver own e s, hget H j = .row ver 1 own e s
  | [], _, j, hj => by cases hj
  | i :: r, h, j, hj => by
    simp only [rowsAt, Bool.and_eq_true] at h
    rcases List.mem_cons.1 hj with rfl | hj
    · cases hb : hget H j with
      | dead => rw [hb] at h; cases h.1
      | var _ _ _ => rw [hb] at h; cases h.1
      | row ver g own e s =>
        rw [hb] at h
        have := Nat.eq_of_beq_eq_true h.1
        subst this
        exact ⟨ver, own, e, s, rfl⟩
    · exact rowsAt_spec h.2 j hj
theorem viewsIn_spec {vws : List Nat} : ∀ {H : Heap} {i : Nat}, viewsIn vws i H = true → ∀ j, j < H.length → (hget H j).own = false → i + j ∈ vws
  | x :: r, i, h, j, hj, ho => by
    simp only [viewsIn, Bool.and_eq_true, Bool.or_eq_true] at h
    cases j with
    | zero =>
      rcases h.1 with h | h
      · simp only [hget] at ho; rw [h] at ho; cases ho
      · exact natIn_spec.1 h
    | succ j =>
      rw [show i + (j + 1) = i + 1 + j by omega]
      exact viewsIn_spec h.2 j (by simpa using hj) ho

theorem find_mem {vars : List (Nat × Nat × AVal)} {i T : Nat} {u : AVal} (h : backB.find vars i = some (T, u)) : (i, T, u) ∈ vars := by
  induction vars with
  | nil => cases h
  | cons x r ih =>
    obtain ⟨j, T', u'⟩ := x
    unfold backB.find at h
    split at h
    · rename_i hb
      cases h
      rw [← Nat.eq_of_beq_eq_true hb]
      exact List.mem_cons_self
    · exact List.mem_cons_of_mem _ (ih h)
/-- What stands in the blocks that are handed back. -/
theorem back_spec {tt : Tab} {vars : List (Nat × Nat × AVal)} {all : List Src} : ∀ {l : List Src} {i : Nat} {bs : List (Nat × Blk)}, backB.go tt kp np n all vars l i = some bs →
    (∀ x ∈ bs, ∃ j s, l[j]? = some s ∧ ((s = .own x.1 ∧ x.2 = .dead) ∨ (s = .var x.1 ∧ ∃ T u u', (i + j, T, u) ∈ vars ∧ trV kp np n all u = some u' ∧ fit1 tt u' T = true ∧ x.2 = .var 0 T u'))) ∧
    (∀ (j : Nat) (s : Src) (b : Nat), l[j]? = some s → b ∈ s.mine → b ∈ fsts bs) ∧ (∀ (j b : Nat), l[j]? = some (.var b) → ∃ T u, (i + j, T, u) ∈ vars)
  | [], i, bs, h => by
    cases h
    exact ⟨fun x hx => (by cases hx), fun j s b h => (by cases h), fun j b h => (by cases h)⟩
  | s :: r, i, bs, h => by
    unfold backB.go at h
    split at h
    · cases h
    · rename_i l hl
      obtain ⟨k1, k2, k3⟩ := back_spec hl
      have old : ∀ x ∈ l, ∃ j s', (s :: r)[j]? = some s' ∧ ((s' = .own x.1 ∧ x.2 = .dead) ∨ (s' = .var x.1 ∧ ∃ T u u', (i + j, T, u) ∈ vars ∧ trV kp np n all u = some u' ∧ fit1 tt u' T = true ∧ x.2 = .var 0 T u')) := by
        intro x hx
        obtain ⟨j, s', h1, h2⟩ := k1 x hx
        refine ⟨j + 1, s', by simpa using h1, ?_⟩
        rw [show i + (j + 1) = i + 1 + j by omega]
        exact h2
      have var' : (∀ b, s = .var b → ∃ T u, (i, T, u) ∈ vars) → ∀ j b, (s :: r)[j]? = some (.var b) → ∃ T u, (i + j, T, u) ∈ vars := by
        intro h0 j b hj
        cases j with
        | zero => simp only [List.getElem?_cons_zero, Option.some.injEq] at hj; exact h0 b hj
        | succ j =>
          rw [show i + (j + 1) = i + 1 + j by omega]
          exact k3 j b (by simpa using hj)
      split at h
      · cases h
        refine ⟨old, fun j s b hj hb => ?_, var' (fun b e => (by cases e))⟩
        cases j with
        | zero => simp only [List.getElem?_cons_zero, Option.some.injEq] at hj; subst hj; cases hb
        | succ j => exact k2 j s b (by simpa using hj) hb
      · cases h
        refine ⟨old, fun j s b hj hb => ?_, var' (fun b e => (by cases e))⟩
        cases j with
        | zero => simp only [List.getElem?_cons_zero, Option.some.injEq] at hj; subst hj; cases hb
        | succ j => exact k2 j s b (by simpa using hj) hb
      · cases h
        refine ⟨old, fun j s b hj hb => ?_, var' (fun b e => (by cases e))⟩
        cases j with
        | zero => simp only [List.getElem?_cons_zero, Option.some.injEq] at hj; subst hj; cases hb
        | succ j => exact k2 j s b (by simpa using hj) hb
      · rename_i b0
        cases h
        refine ⟨fun x hx => ?_, fun j s b hj hb => ?_, var' (fun b e => (by cases e))⟩
        · rcases List.mem_cons.1 hx with rfl | hx
          · exact ⟨0, _, rfl, .inl ⟨rfl, rfl⟩⟩
          · exact old x hx
        · simp only [fsts, List.mem_cons]
          cases j with
          | zero => simp only [List.getElem?_cons_zero, Option.some.injEq] at hj; subst hj; left; simpa [Src.mine] using hb
          | succ j => right; exact k2 j s b (by simpa using hj) hb
      · rename_i b0
        split at h
        · cases h
        · rename_i T u hf
          split at h
          · rename_i u' hu
            split at h
            · rename_i hfit
              cases h
              refine ⟨fun x hx => ?_, fun j s b hj hb => ?_, var' (fun b e => (by cases e; exact ⟨T, u, find_mem hf⟩))⟩
              · rcases List.mem_cons.1 hx with rfl | hx
                · exact ⟨0, _, rfl, .inr ⟨rfl, T, u, u', find_mem hf, hu, hfit, rfl⟩⟩
                · exact old x hx
              · simp only [fsts, List.mem_cons]
                cases j with
                | zero => simp only [List.getElem?_cons_zero, Option.some.injEq] at hj; subst hj; left; simpa [Src.mine] using hb
                | succ j => right; exact k2 j s b (by simpa using hj) hb
            · cases h
          · cases h
theorem appl_in : ∀ (bs : List (Nat × Blk)) {H : Heap} {b : Nat}, (∀ x ∈ bs, x.1 < H.length) → b ∈ fsts bs → ∃ x ∈ bs, x.1 = b ∧ hget (appl H bs) b = x.2
  | (i, x) :: r, H, b, hl, hb => by
    by_cases hr : b ∈ fsts r
    · obtain ⟨y, h1, h2, h3⟩ := appl_in r (H := hset H i x) (fun y hy => by rw [hset_len]; exact hl y (List.mem_cons_of_mem _ hy)) hr
      exact ⟨y, List.mem_cons_of_mem _ h1, h2, h3⟩
    · simp only [fsts, List.mem_cons] at hb
      have hb := hb.resolve_right hr
      subst hb
      refine ⟨(b, x), List.mem_cons_self, rfl, ?_⟩
      rw [appl, appl_other r hr, hget_set (hl (b, x) List.mem_cons_self), if_pos rfl]

set_option maxHeartbeats 1000000 in
/-- The caller's memory behind the call. -/
theorem VS.leave (hh : HR C F G w0 σ Hc w) (hs : VS C σ Hc w H0 ss σ0) (hok : ssOk ss = true) (h' : HR C (FS σ ss) (fun _ => True) w σ' H' w') (hlp : Lp np σ0 σ') (hnp : np = ss.length) (hnp' : np ≤ H'.length) {vars : List (Nat × Nat × AVal)} (hvars : ∀ j T u, (j, T, u) ∈ vars → hget H' j = .var 0 T u)
    (hfl : (H'.drop np).all flatB = true) {bs : List (Nat × Blk)} (hbs : backB C.tt kp np n ss vars = some bs) (hrow : kp = true → ∀ (j : Nat), ((∃ b g u, ss[j]? = some (Src.row b g u)) ∨ ss[j]? = some Src.nil) → ∃ ver own e s, hget H' j = .row ver 1 own e s) (hfree : Free σ Hc n (H'.drop np).length) :
    LeF Hc n (H'.drop np).length σ (setL σ n (σ'.drop np)) ∧ HR C F G w0 (setL σ n (σ'.drop np)) (hsets (appl Hc bs) n (H'.drop np)) w' ∧ Tr kp np n ss σ' (setL σ n (σ'.drop np)) ∧ ∀ j, np ≤ j → ∀ p, σ'[j]? = some p → (setL σ n (σ'.drop np))[n + (j - np)]? = some p := by
  subst hnp
  obtain ⟨b1, b2, b3⟩ := back_spec hbs
  simp only [Nat.zero_add] at b1 b3
  have hol : ∀ x : Blk, x.own = true → x.live = true := fun x hx => by cases x <;> simp [Blk.own, Blk.live] at hx ⊢
  have hsl : ss.length ≤ σ'.length := by rw [h'.len]; exact hnp'
  -- a block that is handed over is the caller's own
  have mineOwn : ∀ (j : Nat) (s : Src), ss[j]? = some s → ∀ b ∈ s.mine, (hget Hc b).own = true := by
    intro j s hj b hb
    obtain ⟨p, _, _, _, h3⟩ := hs.at_ j s hj
    cases s with
    | nil => cases hb
    | nilo => cases hb
    | row _ _ _ => cases hb
    | own b' => simp only [Src.mine, List.mem_singleton] at hb; subst hb; exact h3.1
    | var b' => simp only [Src.mine, List.mem_singleton] at hb; subst hb; exact h3.1
  have hFS : ∀ c, FS σ ss c → ∃ (j : Nat) (s : Src) (b : Nat) (p : Pl) (o : Nat), ss[j]? = some s ∧ b ∈ s.mine ∧ σ[b]? = some p ∧ p.at_ = some (c, o) ∧ (hget Hc b).own = true := by
    rintro c ⟨s, hsm, b, hb, p, o, hp, ha⟩
    obtain ⟨j, hj⟩ := List.getElem?_of_mem hsm
    exact ⟨j, s, b, p, o, hj, hb, hp, ha, mineOwn j s hj b hb⟩
  -- variables: one placement
  have hvar : ∀ (j b : Nat), ss[j]? = some (.var b) → ∃ p, σ0[j]? = some p ∧ σ'[j]? = some p ∧ σ[b]? = some p ∧ p.gen = 1 ∧ (∃ T u, (j, T, u) ∈ vars) := by
    intro j b hj
    obtain ⟨p, k1, _, k2, k3⟩ := hs.at_ j _ hj
    have hlt : j < ss.length := (List.getElem?_eq_some_iff.1 hj).1
    obtain ⟨p', m1, m2, m3⟩ := hlp j hlt p k1
    obtain ⟨T, u, hu⟩ := b3 j b hj
    have hv := hvars j T u hu
    have := (h'.var hv m1).2.1
    have e := m3 (by omega)
    subst e
    exact ⟨p', k1, m1, k3.2.1, this, T, u, hu⟩
  have hTr : ∀ τ, Le σ τ → Tr kp ss.length n ss σ' τ := by
    intro τ hl
    refine ⟨fun hk j b g u hj => ?_, fun hk j hj => ?_, fun j b hj => ?_⟩
    · obtain ⟨p, k1, _, k2, k3, k4, pl, A, len, cap, e, esz, k5, k6, k7, rfl, k8⟩ := hs.at_ j _ hj
      have hlt : j < ss.length := (List.getElem?_eq_some_iff.1 hj).1
      obtain ⟨p', m1, m2, m3⟩ := hlp j hlt _ k1
      obtain ⟨ver, own, e', s, hr⟩ := hrow hk j (.inl ⟨b, g, u, hj⟩)
      have hg := (h'.row hr m1).1
      have e1 := m3 (by rw [hg]; rfl)
      subst e1
      obtain ⟨q, n1, n2, n3⟩ := hl b pl k5
      refine ⟨pl, A, len, cap, e, by rw [m1, k8], k7, q, n1, by omega, fun e => n3 (by omega)⟩
    · obtain ⟨p, k1, _, k2, _, k3, k4, k5⟩ := hs.at_ j _ hj
      have hlt : j < ss.length := (List.getElem?_eq_some_iff.1 hj).1
      obtain ⟨p', m1, m2, m3⟩ := hlp j hlt _ k1
      obtain ⟨ver, own, e', s, hr⟩ := hrow hk j (.inr hj)
      have hg := (h'.row hr m1).1
      have e1 := m3 (by omega)
      subst e1
      exact ⟨p', m1, hg, k3, k4, k5⟩
    · obtain ⟨p, k0, k1, k2, k3, _⟩ := hvar j b hj
      obtain ⟨q, n1, n2, n3⟩ := hl b p k2
      exact ⟨p, q, k1, k3, n1, by omega, fun e => n3 (by omega)⟩
  have hrange : ∀ x ∈ bs, x.1 < Hc.length := by
    intro x hx
    obtain ⟨j, s, hj, h⟩ := b1 x hx
    have : x.1 ∈ s.mine := by rcases h with ⟨rfl, _⟩ | ⟨rfl, _⟩ <;> simp [Src.mine]
    exact hget_len (hol _ (mineOwn j s hj _ this))
  have hpl : (σ'.drop ss.length).length = (H'.drop ss.length).length := by rw [List.length_drop, List.length_drop, h'.len]
  have hl2 : σ.length = (appl Hc bs).length := by rw [appl_len, hh.len]
  -- what stands at an old block
  have oldB : ∀ b, b < σ.length → (¬ b ∈ fsts bs ∧ hget (appl Hc bs) b = hget Hc b) ∨ (∃ j : Nat, ss[j]? = some (Src.own b) ∧ hget (appl Hc bs) b = .dead) ∨
      (∃ (j T : Nat) (u u' : AVal), ss[j]? = some (Src.var b) ∧ hget H' j = .var 0 T u ∧ trV kp ss.length n ss u = some u' ∧ fit1 C.tt u' T = true ∧ hget (appl Hc bs) b = .var 0 T u') := by
    intro b _
    by_cases hb : b ∈ fsts bs
    · right
      obtain ⟨x, hx, rfl, hxe⟩ := appl_in bs hrange hb
      obtain ⟨j, s, hj, h⟩ := b1 x hx
      rcases h with ⟨rfl, h2⟩ | ⟨rfl, T, u, u', v1, v2, v3, v6⟩
      · exact .inl ⟨j, hj, by rw [hxe, h2]⟩
      · exact .inr ⟨j, T, u, u', hj, hvars j T u v1, v2, v3, by rw [hxe, v6]⟩
    · exact .inl ⟨hb, appl_other bs hb⟩
  have oldLive : ∀ b, b < σ.length → (hget (appl Hc bs) b).live = true → (hget Hc b).live = true ∧ ((hget (appl Hc bs) b).own = true → (hget Hc b).own = true) := by
    intro b hb hl
    rcases oldB b hb with ⟨_, h⟩ | ⟨j, _, h⟩ | ⟨j, T, u, u', hj, _, _, _, h⟩
    · rw [h] at hl; rw [h]; exact ⟨hl, fun h => h⟩
    · rw [h] at hl; cases hl
    · have := mineOwn j _ hj b (by simp [Src.mine])
      exact ⟨hol _ this, fun _ => this⟩
  -- a block's place and what may be changed
  have keepAt : ∀ b p c o, σ[b]? = some p → (hget Hc b).live = true → ¬ b ∈ fsts bs → p.at_ = some (c, o) → w'.heap[c]? = w.heap[c]? := by
    intro b p c o hp hl hb ha
    refine h'.bx.block c (hh.mine b p c o hp hl ha).1 (fun hf => ?_)
    obtain ⟨j, s, b', p', o', hj, hm, hp', ha', hown⟩ := hFS c hf
    have : b' ∈ fsts bs := b2 j s b' hj hm
    exact hh.apart b' p' b p c o' c o (fun e => hb (e ▸ this)) hown hl hp' hp ha' ha rfl
  have newAt : ∀ k p, (σ'.drop ss.length)[k]? = some p → σ'[ss.length + k]? = some p ∧ hget (H'.drop ss.length) k = hget H' (ss.length + k) := by
    intro k p hp
    rw [List.getElem?_drop] at hp
    exact ⟨hp, hget_drop⟩
  have hflat : ∀ k, (hget (H'.drop ss.length) k).live = true → flatB (hget (H'.drop ss.length) k) = true := by
    rw [List.all_eq_true] at hfl
    intro k hk
    have hlt := hget_len hk
    have : ∀ (l : List Blk) (k : Nat), k < l.length → hget l k ∈ l := by
      intro l
      induction l with
      | nil => intro k hk; simp at hk
      | cons y s ih => intro k hk; cases k with
        | zero => exact List.mem_cons_self
        | succ k => exact List.mem_cons_of_mem _ (ih k (by simpa using hk))
    exact hfl _ (this _ k hlt)
  have flatOwn : ∀ x : Blk, flatB x = true → x.own = true := by
    intro x hx
    cases x with
    | dead => cases hx
    | row _ _ own _ _ => simp only [flatB, Bool.and_eq_true] at hx; exact hx.1
    | var _ _ _ => rfl
  have hgen : ∀ p ∈ σ'.drop ss.length, p.gen = 1 := by
    intro p hp
    obtain ⟨k, hk⟩ := List.getElem?_of_mem hp
    have hlt := (List.getElem?_eq_some_iff.1 hk).1
    obtain ⟨k1, k2⟩ := newAt k p hk
    have hbr := h'.blk _ p k1
    rw [← k2] at hbr
    rw [List.all_eq_true] at hfl
    have hm' : ∀ (l : List Blk) (k : Nat), k < l.length → hget l k ∈ l := by
      intro l
      induction l with
      | nil => intro k hk; simp at hk
      | cons y s ih => intro k hk; cases k with
        | zero => exact List.mem_cons_self
        | succ k => exact List.mem_cons_of_mem _ (ih k (by simpa using hk))
    have hfb := hfl _ (hm' _ k (by rw [← hpl]; exact hlt))
    cases hd : hget (H'.drop ss.length) k with
    | dead => rw [hd] at hfb; cases hfb
    | row ver g own e s =>
      rw [hd] at hfb hbr
      simp only [flatB, Bool.and_eq_true] at hfb
      rw [hbr.1]
      exact (Nat.eq_of_beq_eq_true hfb.2)
    | var ver T v => rw [hd] at hbr; exact hbr.2.1
  have hsum : n + (σ'.drop ss.length).length ≤ σ.length := by rw [hpl, hh.len]; exact hfree.1
  have hsg : ∀ b, (setL σ n (σ'.drop ss.length))[b]? = if n ≤ b ∧ b < n + (σ'.drop ss.length).length then (σ'.drop ss.length)[b - n]? else σ[b]? := fun b => setL_get _ _ _ _ hsum
  have hhg : ∀ b, hget (hsets (appl Hc bs) n (H'.drop ss.length)) b = if n ≤ b ∧ b < n + (H'.drop ss.length).length then hget (H'.drop ss.length) (b - n) else hget (appl Hc bs) b := fun b => hsets_get _ _ _ _ (by rw [appl_len]; exact hfree.1)
  have hle : Le σ (setL σ n (σ'.drop ss.length)) := by
    intro b p hb
    rw [hsg]
    by_cases hr : n ≤ b ∧ b < n + (σ'.drop ss.length).length
    · rw [if_pos hr]
      obtain ⟨_, q, hq, hg⟩ := hfree.2 (b - n) (by omega)
      rw [show n + (b - n) = b by omega, hb] at hq
      cases hq
      have hlt : b - n < (σ'.drop ss.length).length := by omega
      refine ⟨(σ'.drop ss.length)[b - n], List.getElem?_eq_getElem hlt, by omega, fun e => ?_⟩
      have := hgen _ (List.getElem_mem hlt)
      omega
    · rw [if_neg hr]; exact ⟨p, hb, Nat.le_refl _, fun _ => rfl⟩
  have hnew : ∀ j, ss.length ≤ j → ∀ p, σ'[j]? = some p → (setL σ n (σ'.drop ss.length))[n + (j - ss.length)]? = some p := by
    intro j hj p hp
    have hlt := (List.getElem?_eq_some_iff.1 hp).1
    rw [hsg, if_pos (by rw [List.length_drop]; omega), List.getElem?_drop]
    rw [← hp]; congr 1; omega
  have split2 : ∀ b p, (setL σ n (σ'.drop ss.length))[b]? = some p → (b < σ.length ∧ σ[b]? = some p ∧ hget (hsets (appl Hc bs) n (H'.drop ss.length)) b = hget (appl Hc bs) b) ∨
      (∃ k, b = n + k ∧ (σ'.drop ss.length)[k]? = some p ∧ hget (hsets (appl Hc bs) n (H'.drop ss.length)) b = hget (H'.drop ss.length) k) := by
    intro b p hp
    rw [hsg] at hp
    rw [hhg]
    by_cases hr : n ≤ b ∧ b < n + (σ'.drop ss.length).length
    · rw [if_pos hr] at hp
      rw [if_pos (by omega)]
      exact .inr ⟨b - n, by omega, hp, rfl⟩
    · rw [if_neg hr] at hp
      rw [if_neg (by omega)]
      exact .inl ⟨(List.getElem?_eq_some_iff.1 hp).1, hp, rfl⟩
  -- where new blocks lie
  have newFar : ∀ k q c o, (σ'.drop ss.length)[k]? = some q → (hget (H'.drop ss.length) k).live = true → q.at_ = some (c, o) → w.heap.size ≤ c ∨ FS σ ss c := by
    intro k q c o hq hl ha
    obtain ⟨k1, k2⟩ := newAt k q hq
    have hown := flatOwn _ (hflat k hl)
    rw [k2] at hown hl
    exact (h'.mine _ q c o k1 hl ha).2.1 hown
  have oldNew : ∀ b p c o k q c' o', σ[b]? = some p → b < σ.length → (hget (appl Hc bs) b).live = true → p.at_ = some (c, o) → (σ'.drop ss.length)[k]? = some q → (hget (H'.drop ss.length) k).live = true → q.at_ = some (c', o') → c ≠ c' := by
    intro b p c o k q c' o' hp hb hl ha hq hl' ha' e
    subst e
    have hlv := (oldLive b hb hl).1
    rcases newFar k q c o' hq hl' ha' with h | h
    · have := (hh.mine b p c o hp hlv ha).1; omega
    · obtain ⟨j, s, b', p', o2, hj, hm, hp', hat, hown⟩ := hFS c h
      by_cases hbb : b' = b
      · subst hbb
        rw [hp] at hp'; cases hp'
        rcases oldB b' hb with ⟨h1, _⟩ | ⟨_, _, h1⟩ | ⟨j', T, u, u', hj', hv, _, _, _⟩
        · exact h1 (b2 j s b' hj hm)
        · rw [h1] at hl; cases hl
        · obtain ⟨p2, m0, m1, m2, m3, _⟩ := hvar j' b' hj'
          rw [hp] at m2; cases m2
          obtain ⟨k1, k2⟩ := newAt k q hq
          have hlt : j' < ss.length := (List.getElem?_eq_some_iff.1 hj').1
          exact h'.apart j' p (ss.length + k) q c o c o' (by omega) (by rw [hv]; rfl) (by rw [← k2]; exact hl') m1 k1 ha ha' rfl
      · exact hh.apart b' p' b p c o2 c o hbb hown hlv hp' hp hat ha rfl
  refine ⟨⟨hle, setL_len _ _ _, fun b hb hout => by rw [hsg, if_neg (by omega)]⟩, ⟨⟨h'.bx.os.trans hh.bx.os, h'.bx.tape.trans hh.bx.tape, h'.bx.output.trans hh.bx.output, Nat.le_trans hh.bx.size h'.bx.size, fun k hk hF => ?_⟩, by rw [setL_len, hsets_len, hl2], fun b p hp => ?_, fun b p c o hp hl ha => ?_, fun b p b' p' c o c' o' hne ho hl hp hp' ha ha' => ?_, hh.gl⟩, hTr _ hle, hnew⟩
  · refine (h'.bx.block k (Nat.lt_of_lt_of_le hk hh.bx.size) (fun hf => ?_)).trans (hh.bx.block k hk hF)
    obtain ⟨j, s, b, p, o, hj, hm, hp, ha, hown⟩ := hFS k hf
    rcases (hh.mine b p k o hp (hol _ hown) ha).2.1 hown with h | h
    · omega
    · exact hF h
  · rcases split2 b p hp with ⟨hb, hp, he⟩ | ⟨k, rfl, hp, he⟩
    · rw [he]
      rcases oldB b hb with ⟨h1, h2⟩ | ⟨_, _, h2⟩ | ⟨j, T, u, u', hj, hv, htr, hfit, h2⟩
      · rw [h2]
        have := hh.blk b p hp
        cases hd : hget Hc b with
        | dead => trivial
        | var _ _ _ => rw [← hd]; exact this.keep hle (fun c o ha => keepAt b p c o hp (by rw [hd]; rfl) h1 ha)
        | row _ _ _ _ _ => rw [← hd]; exact this.keep hle (fun c o ha => keepAt b p c o hp (by rw [hd]; rfl) h1 ha)
      · rw [h2]; trivial
      · rw [h2]
        obtain ⟨p2, m0, m1, m2, m3, _⟩ := hvar j b hj
        rw [hp] at m2; cases m2
        obtain ⟨a1, a2, a3, a4, c, cs, fz, a5, a6, a7, a8⟩ := h'.var hv m1
        exact ⟨a1, a2, a3, hfit, c, cs, fz, a5, RL.tr (hTr _ hle) htr (fun y _ hge => hnew y hge) a6, a7, a8⟩
    · rw [he]
      obtain ⟨k1, k2⟩ := newAt k p hp
      have hb := h'.blk _ p k1
      rw [← k2] at hb
      refine hb.monoOn (fun i hi => ?_)
      exfalso
      cases hd : hget (H'.drop ss.length) k with
      | dead => rw [hd] at hi; cases hi
      | row _ _ _ _ _ => rw [hd] at hi; cases hi
      | var ver T v =>
        have hf := hflat k (by rw [hd]; rfl)
        rw [hd] at hf hi
        simp only [flatB, List.isEmpty_iff] at hf
        simp only [Blk.ids, hf] at hi
        cases hi
  · rcases split2 b p hp with ⟨hb, hp, he⟩ | ⟨k, rfl, hp, he⟩
    · rw [he] at hl ⊢
      obtain ⟨h1, h2⟩ := oldLive b hb hl
      obtain ⟨m1, m2, m3⟩ := hh.mine b p c o hp h1 ha
      exact ⟨Nat.lt_of_lt_of_le m1 h'.bx.size, fun h => m2 (h2 h), m3⟩
    · rw [he] at hl ⊢
      obtain ⟨k1, k2⟩ := newAt k p hp
      have key : w0.heap.size ≤ c ∨ F c := by
        rcases newFar k p c o hp hl ha with h | h
        · exact .inl (Nat.le_trans hh.bx.size h)
        · obtain ⟨j, s, b', p', o2, hj, hm, hp', hat, hown⟩ := hFS c h
          exact (hh.mine b' p' c o2 hp' (hol _ hown) hat).2.1 hown
      rw [k2] at hl
      exact ⟨(h'.mine _ p c o k1 hl ha).1, fun _ => key, key.imp id .inl⟩
  · rcases split2 b p hp with ⟨hb, hp, he⟩ | ⟨k, rfl, hp, he⟩
    · rw [he] at ho
      rcases split2 b' p' hp' with ⟨hb', hp', he'⟩ | ⟨k', rfl, hp', he'⟩
      · rw [he'] at hl
        exact hh.apart b p b' p' c o c' o' hne ((oldLive b hb (hol _ ho)).2 ho) (oldLive b' hb' hl).1 hp hp' ha ha'
      · rw [he'] at hl
        exact oldNew b p c o k' p' c' o' hp hb (hol _ ho) ha hp' hl ha'
    · rw [he] at ho
      rcases split2 b' p' hp' with ⟨hb', hp', he'⟩ | ⟨k', rfl, hp', he'⟩
      · rw [he'] at hl
        exact fun e => oldNew b' p' c' o' k p c o hp' hb' hl ha' hp (hol _ ho) ha e.symm
      · rw [he'] at hl
        obtain ⟨k1, k2⟩ := newAt k p hp
        obtain ⟨m1, m2⟩ := newAt k' p' hp'
        exact h'.apart _ p _ p' c o c' o' (by omega) (by rw [← k2]; exact ho) (by rw [← m2]; exact hl) k1 m1 ha ha'
end
end Go.Proofs.YtaakccdfgejgpaaGreatDoor.Abs
