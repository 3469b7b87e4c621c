/-
  Chapter 09, plain: what a literal is worth.
-/
import Derived.Test.YtaakccdfgejgpaaGreatDoorNk
namespace Go.Proofs.YtaakccdfgejgpaaGreatDoor.Pure
open Go Abs
set_option linter.unusedVariables false
set_option linter.unusedSimpArgs false

/-! ### A power of ten -/
def decA : List UInt8 → Int → Int
  | [], a => a
  | c :: t, a => decA t (10 * a + ((c.toNat : Int) - 48))
def powI (x : List UInt8) : Int := if x.head? = some 45 then -decA (unsB x) 0 else decA (unsB x) 0
theorem decA_bd : ∀ (t : List UInt8) (a : Int) (n : Nat), allD t = true → 0 ≤ a → a < 10 ^ n → 0 ≤ decA t a ∧ decA t a < 10 ^ (n + t.length)
  | [], a, n, _, h0, h1 => ⟨h0, h1⟩
  | c :: t, a, n, h, h0, h1 => by
    unfold allD at h
    rw [List.all_cons, Bool.and_eq_true] at h
    have hc := (dig_iff _).1 h.1
    have := decA_bd t (10 * a + ((c.toNat : Int) - 48)) (n + 1) h.2 (by omega) (by rw [Int.pow_succ]; omega)
    rw [decA, List.length_cons, show n + (t.length + 1) = n + 1 + t.length by omega]
    exact this
theorem decA_5 (t : List UInt8) (h : allD t = true) (hl : t.length ≤ 5) : 0 ≤ decA t 0 ∧ decA t 0 < 100000 := by
  have := decA_bd t 0 (5 - t.length) h (by omega) (Int.pow_pos (by omega))
  rw [show 5 - t.length + t.length = 5 by omega] at this
  exact this
theorem pow10_le (i : Nat) (h : i ≤ 5) : (10 : Int) ^ i ≤ 100000 := by
  have : i = 0 ∨ i = 1 ∨ i = 2 ∨ i = 3 ∨ i = 4 ∨ i = 5 := by omega
  rcases this with rfl | rfl | rfl | rfl | rfl | rfl <;> decide
theorem uns_power (x : List UInt8) (h : allD (unsB x) = true) : trimB (trimB x 45) 43 = unsB x := by
  cases x with
  | nil => rfl
  | cons c t =>
    rw [unsB] at h ⊢
    by_cases hc : c = 45
    · subst hc
      rw [if_pos (.inl rfl)] at h ⊢
      show trimB t 43 = t
      unfold trimB
      refine if_neg fun e => ?_
      cases t with
      | nil => cases e
      | cons a t =>
        cases e
        exact absurd h (by simp [allD, dig])
    · by_cases hd : c = 43
      · subst hd; rfl
      · unfold trimB
        simp [hc, hd]
def powR (x : List UInt8) : Int × Er := if 5 < (unsB x).length then (0, .no 9) else (powI x, .nil)
theorem power_go (t : List UInt8) (neg : Bool) (hl : t.length ≤ 5) : ∀ (m i : Nat) (a : Int), i + m = t.length → allD (t.drop i) = true → 0 ≤ a → a < 10 ^ i →
    Ev (fun k => number_power.go k (.l1 t neg a (t.length : Int) (i : Int))) (if neg = true then -decA (t.drop i) a else decA (t.drop i) a, .nil)
  | 0, i, a, h, hd, h0, h1 => by
    refine Ev.succ (f := fun k => number_power.b1 k (number_power.go k) t neg a (t.length : Int) (i : Int)) ?_ (fun k => rfl)
    simp only [number_power.b1]
    have hp := pow10_le i (by omega)
    rw [List.drop_eq_nil_of_le (by omega)]
    refine Ev.ff (decide_eq_false (by omega)) (Ev.bif (fun hn => Ev.ret' ?_) (fun hn => Ev.ret' ?_))
    · rw [hn, if_pos rfl, v64 (by omega) (by omega)]
      simp [decA]
    · rw [hn, if_neg (by decide)]
      simp [decA]
  | m + 1, i, a, h, hd, h0, h1 => by
    refine Ev.succ (f := fun k => number_power.b1 k (number_power.go k) t neg a (t.length : Int) (i : Int)) ?_ (fun k => rfl)
    simp only [number_power.b1, Int.toNat_natCast]
    have ih := power_go t neg hl m (i + 1)
    rw [drop_at t i (by omega)] at hd ⊢
    generalize t.getD i 0 = c at hd ⊢
    unfold allD at hd
    rw [List.all_cons, Bool.and_eq_true] at hd
    have hc := (dig_iff _).1 hd.1
    have hp := pow10_le i (by omega)
    have ei : wr .i64 ((i : Int) + 1) = ((i + 1 : Nat) : Int) := by rw [v64 (by omega) (by omega)]; omega
    have e1 : wr .u8 ((c.toNat : Int) - 48) = (c.toNat : Int) - 48 := w8 (by omega) (by omega)
    have e2 : wr .i64 ((c.toNat : Int) - 48) = (c.toNat : Int) - 48 := v64 (by omega) (by omega)
    have e3 : wr .i64 (10 * a) = 10 * a := v64 (by omega) (by omega)
    have e4 : wr .i64 (10 * a + ((c.toNat : Int) - 48)) = 10 * a + ((c.toNat : Int) - 48) := v64 (by omega) (by omega)
    rw [ei, e1, e2, e3, e4]
    exact Ev.tt (decide_eq_true (by omega)) (Ev.gk (inB_iff.2 (by omega)) (ih _ (by omega) hd.2 (by omega) (by rw [Int.pow_succ]; omega)))
theorem power_ev (x : List UInt8) (h : allD (unsB x) = true) : Ev (fun k => number_power.m k x) (powR x) := by
  refine Ev.succ (f := fun k => number_power.b0 k (number_power.go k) x) ?_ (fun k => rfl)
  simp only [number_power.b0]
  unfold powR
  refine Ev.bind (hasp_ev _ _) (Ev.bind (trimp_ev _ _) (Ev.bind (trimp_ev _ _) ?_))
  rw [uns_power x h]
  refine Ev.bif (fun hl => ?_) (fun hl => ?_)
  · have hl := of_decide_eq_true hl
    rw [if_pos (by omega)]
    exact Ev.ret
  · have hl := of_decide_eq_false hl
    rw [if_neg (by omega)]
    have := power_go (unsB x) (decide (x.head? = some 45)) (by omega) (unsB x).length 0 0 (by omega) h (by omega) (by simp)
    refine this.to ?_
    unfold powI
    simp
/-! ### Scaling -/
def upR : Nat → Nat → Nat → Option (Nat × Nat)
  | 0, n, d => some (n, d)
  | m + 1, n, d => match lowR (n * 10) (d * 1) with
    | none => none
    | some (a, b) => upR m a b
def dnR : Nat → Nat → Nat → Option (Nat × Nat)
  | 0, n, d => some (n, d)
  | m + 1, n, d => match lowR (n * 1) (d * 10) with
    | none => none
    | some (a, b) => dnR m a b
def scaleF (n d : Nat) (e : Int) : Option (Nat × Nat) := if 1000 < e ∨ e < -1000 then none else if e < 0 then dnR (0 - e).toNat n d else upR e.toNat n d
theorem sup_go (E : Nat) (hE : E ≤ 1000) : ∀ (m i n d : Nat), i + m = E → n < M512 → d < M512 → okR n d = true →
    Ev (fun k => ratio_Scale.go k (.l4 false (toW n) false (toW d) false (List.replicate 8 0) false (List.replicate 8 0) 10 (E : Int) (i : Int))) (resR (upR m n d))
  | 0, i, n, d, h, hn, hd, ho => by
    refine Ev.succ (f := fun k => ratio_Scale.b4 k (ratio_Scale.go k) false (toW n) false (toW d) false (List.replicate 8 0) false (List.replicate 8 0) 10 (E : Int) (i : Int)) ?_ (fun k => rfl)
    simp only [ratio_Scale.b4]
    exact Ev.ff (decide_eq_false (by omega)) Ev.ret
  | m + 1, i, n, d, h, hn, hd, ho => by
    refine Ev.succ (f := fun k => ratio_Scale.b4 k (ratio_Scale.go k) false (toW n) false (toW d) false (List.replicate 8 0) false (List.replicate 8 0) 10 (E : Int) (i : Int)) ?_ (fun k => rfl)
    simp only [ratio_Scale.b4]
    have ei : wr .i64 ((i : Int) + 1) = ((i + 1 : Nat) : Int) := by rw [v64 (by omega) (by omega)]; omega
    have hm := rmul_ev n d 10 1 hn hd (by decide) (by decide) ho (by decide)
    have hlow := @lowR_ok (n * 10) (d * 1)
    rw [ei]
    rw [upR]
    refine Ev.tt (decide_eq_true (by omega)) (Ev.bind (rof_ev 10 (by decide)) (Ev.bind hm ?_))
    cases hq : lowR (n * 10) (d * 1) with
    | none => exact Ev.tt rfl Ev.ret
    | some t =>
      obtain ⟨a, b⟩ := t
      obtain ⟨g1, g2, g3⟩ := hlow hq (by have := (okR_ne ho).1; omega)
      exact Ev.ff rfl (sup_go E hE m (i + 1) a b (by omega) g1 g2 g3)
theorem sdn_go (E : Nat) (hE : E ≤ 1000) : ∀ (m i n d : Nat), i + m = E → n < M512 → d < M512 → okR n d = true →
    Ev (fun k => ratio_Scale.go k (.l3 false (toW n) false (toW d) false (List.replicate 8 0) false (List.replicate 8 0) 10 (E : Int) (i : Int))) (resR (dnR m n d))
  | 0, i, n, d, h, hn, hd, ho => by
    refine Ev.succ (f := fun k => ratio_Scale.b3 k (ratio_Scale.go k) false (toW n) false (toW d) false (List.replicate 8 0) false (List.replicate 8 0) 10 (E : Int) (i : Int)) ?_ (fun k => rfl)
    simp only [ratio_Scale.b3]
    exact Ev.ff (decide_eq_false (by omega)) Ev.ret
  | m + 1, i, n, d, h, hn, hd, ho => by
    refine Ev.succ (f := fun k => ratio_Scale.b3 k (ratio_Scale.go k) false (toW n) false (toW d) false (List.replicate 8 0) false (List.replicate 8 0) 10 (E : Int) (i : Int)) ?_ (fun k => rfl)
    simp only [ratio_Scale.b3]
    have ei : wr .i64 ((i : Int) + 1) = ((i + 1 : Nat) : Int) := by rw [v64 (by omega) (by omega)]; omega
    have hm := rquo_ev n d 10 1 hn hd (by decide) (by decide) ho (by decide) (by decide)
    have hlow := @lowR_ok (n * 1) (d * 10)
    rw [ei]
    rw [dnR]
    refine Ev.tt (decide_eq_true (by omega)) (Ev.bind (rof_ev 10 (by decide)) (Ev.bind hm ?_))
    cases hq : lowR (n * 1) (d * 10) with
    | none => exact Ev.tt rfl Ev.ret
    | some t =>
      obtain ⟨a, b⟩ := t
      obtain ⟨g1, g2, g3⟩ := hlow hq (by have := (okR_ne ho).1; omega)
      exact Ev.ff rfl (sdn_go E hE m (i + 1) a b (by omega) g1 g2 g3)
theorem scale_ev (n d : Nat) (e : Int) (hn : n < M512) (hd : d < M512) (ho : okR n d = true) (e0 : -1000000 ≤ e) (e1 : e ≤ 1000000) : Ev (fun k => ratio_Scale.m k false (toW n) false (toW d) 10 e) (resR (scaleF n d e)) := by
  have hc := check_ev n d hn hd
  rw [if_pos ho] at hc
  have l2 : ∀ q, q = decide (1000 < e ∨ e < -1000) → Ev (fun k => ratio_Scale.go k (.l2 false (toW n) false (toW d) false (List.replicate 8 0) false (List.replicate 8 0) 10 e q)) (resR (scaleF n d e)) := by
    intro q hq
    refine Ev.succ (f := fun k => ratio_Scale.b2 k (ratio_Scale.go k) false (toW n) false (toW d) false (List.replicate 8 0) false (List.replicate 8 0) 10 e q) ?_ (fun k => rfl)
    simp only [ratio_Scale.b2]
    unfold scaleF
    refine Ev.bif (fun h => ?_) (fun h => ?_)
    · rw [h] at hq
      rw [if_pos (of_decide_eq_true hq.symm)]
      exact Ev.ret
    · rw [h] at hq
      have hn' := of_decide_eq_false hq.symm
      rw [if_neg hn']
      refine Ev.bif (fun h => ?_) (fun h => ?_)
      · have h := of_decide_eq_true h
        rw [if_pos h]
        have e1 : wr .i64 (0 - e) = ((0 - e).toNat : Int) := by rw [v64 (by omega) (by omega)]; omega
        rw [e1]
        exact sdn_go _ (by omega) _ 0 n d (by omega) hn hd ho
      · have h := of_decide_eq_false h
        rw [if_neg h]
        have := sup_go e.toNat (by omega) e.toNat 0 n d (by omega) hn hd ho
        rwa [show ((e.toNat : Nat) : Int) = e by omega] at this
  refine Ev.succ (f := fun k => ratio_Scale.b0 k (ratio_Scale.go k) false (toW n) false (toW d) 10 e) ?_ (fun k => rfl)
  simp only [ratio_Scale.b0]
  refine Ev.bind hc (Ev.ff rfl (Ev.tt rfl ?_))
  refine Ev.succ (f := fun k => ratio_Scale.b1 k (ratio_Scale.go k) false (toW n) false (toW d) false (List.replicate 8 0) false (List.replicate 8 0) 10 e false) ?_ (fun k => rfl)
  simp only [ratio_Scale.b1]
  refine Ev.ff rfl (Ev.bif (fun h => l2 _ ?_) (fun h => l2 _ ?_))
  · have h := of_decide_eq_true h
    exact (decide_eq_true (.inl (by omega))).symm
  · have h := of_decide_eq_false h
    rw [decide_eq_decide]; omega
/-! ### A literal's worth -/
def resS : Option (Nat × Nat) × Int → Bool × List Int × Bool × List Int × Er
  | (some (n, d), e) => ratW n d (erOf e)
  | (none, e) => (false, List.replicate 8 0, false, List.replicate 8 0, erOf e)
/-- What parts of a literal come to. -/
def partV (i f x : List UInt8) : Option (Nat × Nat) × Int := match accN 10 (i ++ f) 0 with
  | none => (none, 9)
  | some v => if 5 < (unsB x).length then (none, 9) else match scaleF v 1 (powI x - (f.length : Int)) with
    | none => (none, 9)
    | some t => (some t, 0)
def floatF (s : List UInt8) : Option (Nat × Nat) × Int :=
  if (partsF (strip s)).2.2.2 = false ∨ spacedF s false = false then (none, 8) else partV (partsF (strip s)).1 (partsF (strip s)).2.1 (partsF (strip s)).2.2.1
theorem dig_hex (s : List UInt8) (h : allD s = true) : s.any (fun c => decide (10 ≤ hexN c)) = false := by
  rw [List.any_eq_false]
  intro c hc
  have := (dig_iff _).1 (List.all_eq_true.1 h c hc)
  have hh := hexN_eq c
  unfold hexv at hh
  rw [if_pos this] at hh
  simp only [decide_eq_true_eq]
  omega
theorem parts_ok (p : List UInt8) (h : (partsF p).2.2.2 = true) : (partsF p).1 ++ (partsF p).2.1 ≠ [] ∧ allD ((partsF p).1 ++ (partsF p).2.1) = true ∧ allD (unsB (partsF p).2.2.1) = true ∧ (partsF p).1.length + (partsF p).2.1.length ≤ p.length ∧ (partsF p).2.2.1.length ≤ p.length := by
  have hme := congrArg List.length (mant_ex p)
  have hta := congrArg List.length (List.takeWhile_append_dropWhile (p := nD) (l := mantB p))
  have htl := List.length_tail (l := (mantB p).dropWhile nD)
  have hxl : (exT p).length = (exB p).length - 1 := List.length_tail
  rw [List.length_append] at hme hta
  unfold partsF at h ⊢
  by_cases hc : exB p ≠ [] ∧ (unsB (exT p) = [] ∨ allD (unsB (exT p)) = false)
  · rw [if_pos hc] at h; cases h
  · rw [if_neg hc] at h ⊢
    simp only [Bool.and_eq_true, decide_eq_true_eq] at h
    refine ⟨h.2.2.1, ?_, ?_, by simp only; omega, by simp only; omega⟩
    · have := h.1
      have h2 := h.2.1
      unfold allD at this h2 ⊢
      rw [List.all_append, this, h2]
      rfl
    · by_cases he : exB p = []
      · simp [exT, he, unsB, allD]
      · have := fun h => hc ⟨he, .inr h⟩
        simpa using this
theorem ok_one (v : Nat) : okR v 1 = true := by simp [okR]
theorem partV_ev (z0 : Bool) (z : List Int) (z1 : Bool) (z' : List Int) (i f x : List UInt8) (hn : i ++ f ≠ []) (hd : allD (i ++ f) = true) (hx : allD (unsB x) = true) (hl : i.length + f.length ≤ 100000) :
    Ev (fun k => number_Float.go k (.l1 z0 z z1 z' i f x false)) (resS (partV i f x)) := by
  refine Ev.succ (f := fun k => number_Float.b1 k (number_Float.go k) z0 z z1 z' i f x false) ?_ (fun k => rfl)
  simp only [number_Float.b1]
  have hp := parse_ev (i ++ f) 10 (by decide) (by rw [List.length_append]; exact hl)
  have hlt := parseN_lt (i ++ f) 10
  have e : parseN (i ++ f) 10 = match accN 10 (i ++ f) 0 with | some v => (v, 0) | none => (0, 9) := by
    unfold parseN
    rw [if_neg hn, dig_hex _ hd, if_neg (by decide)]
    cases accN 10 (i ++ f) 0 <;> rfl
  rw [e] at hp hlt
  unfold partV
  refine Ev.ff rfl (Ev.gk (roomS_iff.2 (by omega)) (Ev.bind hp ?_))
  cases ha : accN 10 (i ++ f) 0 with
  | none => exact Ev.gk rfl (Ev.tt rfl Ev.ret)
  | some v =>
    rw [ha] at hlt
    have hv : v < M512 := hlt
    refine Ev.gk rfl (Ev.ff rfl (Ev.bind (power_ev x hx) ?_))
    unfold powR
    by_cases h5 : 5 < (unsB x).length
    · simp only [if_pos h5]
      exact Ev.tt rfl Ev.ret
    · simp only [if_neg h5]
      have hb := decA_5 (unsB x) hx (by omega)
      have hpw : -100000 < powI x ∧ powI x < 100000 := by unfold powI; split <;> omega
      have e1 : wr .i64 (powI x - (f.length : Int)) = powI x - (f.length : Int) := v64 (by omega) (by omega)
      have hmk := make_ev v 1 hv (by decide) (by decide)
      rw [Nat.gcd_one_right, Nat.div_one] at hmk
      have hsc := scale_ev v 1 (powI x - (f.length : Int)) hv (by decide) (ok_one v) (by omega) (by omega)
      rw [e1]
      refine Ev.ff rfl (Ev.bind (of_ev 1 (by decide)) (Ev.bind hmk (Ev.bind hsc (Ev.ret' ?_))))
      cases scaleF v 1 (powI x - (f.length : Int)) with
      | none => rfl
      | some t => rfl
theorem float_ev (s : List UInt8) (hs : s.length ≤ 100000) : Ev (fun k => number_Float.m k s) (resS (floatF s)) := by
  have hst := strip_le s
  have l1 : ∀ q, q = decide ((partsF (strip s)).2.2.2 = false ∨ spacedF s false = false) → Ev (fun k => number_Float.go k (.l1 false (List.replicate 8 (0 : Int)) false (List.replicate 8 (0 : Int)) (partsF (strip s)).1 (partsF (strip s)).2.1 (partsF (strip s)).2.2.1 q)) (resS (floatF s)) := by
    intro q hq
    unfold floatF
    cases q with
    | true =>
      rw [if_pos (of_decide_eq_true hq.symm)]
      refine Ev.succ (f := fun k => number_Float.b1 k (number_Float.go k) false (List.replicate 8 (0 : Int)) false (List.replicate 8 (0 : Int)) (partsF (strip s)).1 (partsF (strip s)).2.1 (partsF (strip s)).2.2.1 true) ?_ (fun k => rfl)
      exact Ev.tt rfl Ev.ret
    | false =>
      have hn := of_decide_eq_false hq.symm
      rw [if_neg hn]
      obtain ⟨a1, a2, a3, a4, a5⟩ := parts_ok (strip s) (by cases h : (partsF (strip s)).2.2.2 with | true => rfl | false => exact absurd (.inl h) hn)
      exact partV_ev _ _ _ _ _ _ _ a1 a2 a3 (by omega)
  refine Ev.succ (f := fun k => number_Float.b0 k (number_Float.go k) s) ?_ (fun k => rfl)
  simp only [number_Float.b0]
  refine Ev.bind (plain_ev s hs) (Ev.bind (parts_ev _ (by omega)) (Ev.bif (fun h => ?_) (fun h => ?_)))
  · have h : (partsF (strip s)).2.2.2 = false := by simpa using h
    exact l1 _ (decide_eq_true (.inl h)).symm
  · have h : (partsF (strip s)).2.2.2 = true := by simpa using h
    have hsp := spaced_ev s false hs
    refine Ev.bind hsp (l1 _ ?_)
    rw [h]
    simp
/-- A number of a kind: 2 is whole, 3 has a point. -/
def valueF (t : Int) (s : List UInt8) : Option (Nat × Nat) × Int := if t = 3 then floatF s else if t = 2 then (if (intF s).2 = 0 then (some ((intF s).1, 1), 0) else (none, (intF s).2)) else (none, 11)
theorem intF_lt (s : List UInt8) : (intF s).1 < M512 := by
  unfold intF
  split
  · show 0 < M512; decide
  · split
    · exact parseN_lt _ _
    · split <;> exact parseN_lt _ _
theorem intF_err (s : List UInt8) : 0 ≤ (intF s).2 ∧ (intF s).2 ≤ 25 := by
  unfold intF
  split
  · simp
  · split
    · exact parseN_err _ _
    · split <;> exact parseN_err _ _
theorem value_ev' (t : Int) (s : List UInt8) (hs : s.length ≤ 100000) : Ev (fun k => number_Value.m k t s) (resS (valueF t s)) := by
  refine Ev.succ (f := fun k => number_Value.b0 k t s) ?_ (fun k => rfl)
  simp only [number_Value.b0]
  unfold valueF
  refine Ev.bif (fun h => ?_) (fun h => Ev.bif (fun h' => ?_) (fun h' => ?_))
  · rw [if_pos (by simpa using h)]
    exact Ev.bind (float_ev s hs) Ev.ret
  · rw [if_neg (by simpa using h), if_pos (by simpa using h')]
    refine Ev.bind (int_ev s hs) ?_
    have hv := intF_lt s
    have hmk := make_ev (intF s).1 1 hv (by decide) (by decide)
    rw [Nat.gcd_one_right, Nat.div_one] at hmk
    unfold resQ
    rw [erOf_nil]
    by_cases h0 : (intF s).2 = 0
    · rw [if_pos h0]
      exact Ev.ff (by simpa using h0) (Ev.bind (of_ev 1 (by decide)) (Ev.bind hmk Ev.ret))
    · rw [if_neg h0]
      exact Ev.tt (by simpa using h0) Ev.ret
  · rw [if_neg (by simpa using h), if_neg (by simpa using h')]
    exact Ev.ret
/-- A literal at a place: its kind, its length, the error's number. -/
def kindF (s : List UInt8) : Int := if baseN s = 0 ∧ (0 ≤ Lib.indexByte s 46 ∨ 0 ≤ exN s) then 3 else 2
def scanF (b : List UInt8) (at_ : Int) : Int × Int × Int := if bodyF b at_ = [] then (0, 0, 7) else (kindF (bodyF b at_), ((bodyF b at_).length : Int), (valueF (kindF (bodyF b at_)) (bodyF b at_)).2)
theorem body_len (b : List UInt8) (at_ : Int) : (bodyF b at_).length ≤ b.length := by
  unfold bodyF
  split
  · rename_i h
    obtain ⟨h0, h1, _⟩ := (startB_iff _ _).1 h
    have := endB_bd b at_ (hexB b at_) b.length at_ (by omega)
    have := cut_lenI b at_ (endB b at_ (hexB b at_) b.length at_) h0 this.1 this.2
    omega
  · simp
theorem resS_err (t : Option (Nat × Nat) × Int) : (resS t).2.2.2.2 = erOf t.2 := by
  obtain ⟨a, e⟩ := t
  cases a with
  | none => rfl
  | some t => rfl
theorem scan_ev (b : List UInt8) (at_ : Int) (hs : b.length ≤ 100000) : Ev (fun k => number_Scan.m k b at_) ((scanF b at_).1, (scanF b at_).2.1, erOf (scanF b at_).2.2) := by
  have hbl := body_len b at_
  have l2 : ∀ t, t = kindF (bodyF b at_) → bodyF b at_ ≠ [] → Ev (fun k => number_Scan.go k (.l2 b t (bodyF b at_))) ((scanF b at_).1, (scanF b at_).2.1, erOf (scanF b at_).2.2) := by
    intro t ht hne
    refine Ev.succ (f := fun k => number_Scan.b2 k (number_Scan.go k) b t (bodyF b at_)) ?_ (fun k => rfl)
    simp only [number_Scan.b2]
    refine Ev.bind (value_ev' t _ (by omega)) (Ev.ret' ?_)
    unfold scanF
    rw [if_neg hne, resS_err, ht]
  have l1 : ∀ q, q = decide (kindF (bodyF b at_) = 3) → bodyF b at_ ≠ [] → Ev (fun k => number_Scan.go k (.l1 b 2 (bodyF b at_) q)) ((scanF b at_).1, (scanF b at_).2.1, erOf (scanF b at_).2.2) := by
    intro q hq hne
    refine Ev.succ (f := fun k => number_Scan.b1 k (number_Scan.go k) b 2 (bodyF b at_) q) ?_ (fun k => rfl)
    simp only [number_Scan.b1]
    have hk : kindF (bodyF b at_) = 3 ∨ kindF (bodyF b at_) = 2 := by unfold kindF; split <;> simp
    refine Ev.bif (fun h => ?_) (fun h => ?_)
    · rw [h] at hq
      exact l2 _ (of_decide_eq_true hq.symm).symm hne
    · rw [h] at hq
      exact l2 _ (hk.resolve_left (of_decide_eq_false hq.symm)).symm hne
  refine Ev.succ (f := fun k => number_Scan.b0 k (number_Scan.go k) b at_) ?_ (fun k => rfl)
  simp only [number_Scan.b0]
  refine Ev.bind (body_ev b at_ hs) (Ev.bif (fun h => ?_) (fun h => Ev.bind (base_ev _) (Ev.bif (fun hb => Ev.bif (fun hd => ?_) (fun hd => Ev.bind (exponent_ev _ (by omega)) ?_)) (fun hb => ?_))))
  · have h : bodyF b at_ = [] := by simpa using h
    refine Ev.ret' ?_
    unfold scanF
    rw [if_pos h]
    rfl
  · have hne : bodyF b at_ ≠ [] := by simpa using h
    have hb : baseN (bodyF b at_) = 0 := by simpa using hb
    refine l1 _ ?_ hne
    unfold kindF
    rw [if_pos ⟨hb, .inl (of_decide_eq_true hd)⟩]
    rfl
  · have hne : bodyF b at_ ≠ [] := by simpa using h
    have hb : baseN (bodyF b at_) = 0 := by simpa using hb
    have hd := of_decide_eq_false hd
    refine l1 _ ?_ hne
    unfold kindF
    by_cases he : 0 ≤ exN (bodyF b at_)
    · rw [if_pos ⟨hb, .inr he⟩, decide_eq_true (show exN (bodyF b at_) ≥ 0 from he)]; rfl
    · rw [if_neg (fun h => h.2.elim hd he), decide_eq_false (show ¬ exN (bodyF b at_) ≥ 0 from he)]; rfl
  · have hne : bodyF b at_ ≠ [] := by simpa using h
    have hb : baseN (bodyF b at_) ≠ 0 := by
      intro e
      rw [e] at hb
      cases hb
    refine l1 _ ?_ hne
    unfold kindF
    rw [if_neg (fun h => hb h.1)]
    rfl
end Go.Proofs.YtaakccdfgejgpaaGreatDoor.Pure
