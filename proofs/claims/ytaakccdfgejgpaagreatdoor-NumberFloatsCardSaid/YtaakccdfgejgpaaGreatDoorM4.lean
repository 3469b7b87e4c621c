/-
  Chapter 09, plain: the document's numbers; its laws.
-/
import Derived.Test.YtaakccdfgejgpaaGreatDoorM3
namespace Go.Proofs.YtaakccdfgejgpaaGreatDoor.Pure
open Go Abs
set_option linter.unusedVariables false
set_option linter.unusedSimpArgs false

theorem dig_out (v i : Nat) (h : nd v ≤ i) : v / B16 ^ i % B16 = 0 := by
  have : v / B16 ^ i = 0 := Nat.div_eq_of_lt (Nat.lt_of_lt_of_le (nd_hi v) (pow16_le h))
  rw [this, Nat.zero_mod]
theorem rdig_ev (v i : Nat) : Ev (fun k => cavilref07_digit.m k (digs v) (i : Int)) ((v / B16 ^ i % B16 : Nat) : Int) := by
  refine Ev.succ (f := fun k => cavilref07_digit.b0 k (digs v) (i : Int)) ?_ (fun k => rfl)
  simp only [cavilref07_digit.b0]
  rw [digs_len]
  refine Ev.bif (fun h => ?_) (fun h => ?_)
  · have h := of_decide_eq_true h
    rw [Int.toNat_natCast, digs_get v i (by omega)]
    exact Ev.gk (inB_iff.2 (by omega)) Ev.ret
  · have h := of_decide_eq_false h
    rw [dig_out v i (by omega)]
    exact Ev.ret
theorem sum_dig (B a b i : Nat) (hB : 0 < B) : (a / B ^ i % B + b / B ^ i % B + (a % B ^ i + b % B ^ i) / B ^ i) % B = (a + b) / B ^ i % B := by
  have hp : 0 < B ^ i := Nat.pow_pos hB
  have h1 := (sum_step B a b i hB).1
  have h2 := mod_next B (a + b) i
  rw [Nat.add_mod a b (B ^ (i + 1)), Nat.add_mod a b (B ^ i)] at h2
  rw [h2] at h1
  have h3 := Nat.add_left_cancel h1
  exact (Nat.eq_of_mul_eq_mul_right hp h3).symm
theorem i64quo (x : Nat) (h : x < 9223372036854775808) : quoI .i64 (x : Int) 65536 = ((x / B16 : Nat) : Int) := quoN x 65536 (by decide) h
theorem carry_le (B a b i : Nat) (hB : 0 < B) : (a % B ^ i + b % B ^ i) / B ^ i ≤ 1 := by
  have hp : 0 < B ^ i := Nat.pow_pos hB
  have h1 := Nat.mod_lt a hp
  have h2 := Nat.mod_lt b hp
  have : (a % B ^ i + b % B ^ i) / B ^ i < 2 := (Nat.div_lt_iff_lt_mul hp).2 (by omega)
  omega
theorem rplus_go (a b N : Nat) (hN : N ≤ 100000) (ha : a < B16 ^ N) (hb : b < B16 ^ N) : ∀ (m i : Nat), i + m = N + 1 → (0 < i → B16 ^ (i - 1) ≤ a + b) →
    ∃ n, n = nd (a + b) ∧ Ev (fun k => cavilref07_plus.go k (.l1 (digs a) (digs b) (toB B16 i (a + b)) (((a % B16 ^ i + b % B16 ^ i) / B16 ^ i : Nat) : Int) (i : Int))) (toB B16 n (a + b))
  | m, i, h, hlo => by
    have hna := nd_le ha
    have hnb := nd_le hb
    have hc := carry_le B16 a b i (by decide)
    have step : ∀ q, q = decide (i < nd a ∨ i < nd b ∨ 0 < (a % B16 ^ i + b % B16 ^ i) / B16 ^ i) → ∀ n r, (∀ m', m = m' + 1 → n = r → True) → Ev (fun k => cavilref07_plus.go k (.l2 (digs a) (digs b) (toB B16 i (a + b)) (((a % B16 ^ i + b % B16 ^ i) / B16 ^ i : Nat) : Int) (i : Int) q)) (toB B16 n (a + b)) → Ev (fun k => cavilref07_plus.go k (.l1 (digs a) (digs b) (toB B16 i (a + b)) (((a % B16 ^ i + b % B16 ^ i) / B16 ^ i : Nat) : Int) (i : Int))) (toB B16 n (a + b)) := by
      intro q hq n r _ hev
      refine Ev.succ (f := fun k => cavilref07_plus.b1 k (cavilref07_plus.go k) (digs a) (digs b) (toB B16 i (a + b)) _ (i : Int)) ?_ (fun k => rfl)
      simp only [cavilref07_plus.b1]
      rw [digs_len, digs_len]
      refine Ev.bif (fun h => ?_) (fun h => Ev.bif (fun h' => ?_) (fun h' => ?_))
      · rw [decide_eq_true (.inl (by have := of_decide_eq_true h; omega))] at hq
        rw [hq] at hev
        exact hev
      · rw [decide_eq_true (.inr (.inl (by have := of_decide_eq_true h'; omega)))] at hq
        rw [hq] at hev
        exact hev
      · have e : q = decide ((((a % B16 ^ i + b % B16 ^ i) / B16 ^ i : Nat) : Int) > 0) := by
          rw [hq, decide_eq_decide]
          have := of_decide_eq_false h
          have := of_decide_eq_false h'
          omega
        rw [e] at hev
        exact hev
    by_cases hq : i < nd a ∨ i < nd b ∨ 0 < (a % B16 ^ i + b % B16 ^ i) / B16 ^ i
    · have hi : i ≤ N := by
        rcases hq with h | h | h
        · omega
        · omega
        · refine Nat.le_of_not_lt fun hlt => ?_
          have h1 : B16 ^ (N + 1) ≤ B16 ^ i := pow16_le (by omega)
          rw [Nat.pow_succ] at h1
          have h4 : B16 ^ N * 2 ≤ B16 ^ N * B16 := Nat.mul_le_mul_left _ (by decide)
          rw [Nat.div_eq_of_lt] at h
          · omega
          · have h2 := Nat.mod_le a (B16 ^ i)
            have h3 := Nat.mod_le b (B16 ^ i)
            omega
      obtain ⟨m', rfl⟩ : ∃ m', m = m' + 1 := ⟨m - 1, by omega⟩
      have hlo' : B16 ^ i ≤ a + b := by
        rcases hq with h | h | h
        · have := nd_lo a (by omega)
          have : B16 ^ i ≤ B16 ^ (nd a - 1) := pow16_le (by omega)
          omega
        · have := nd_lo b (by omega)
          have : B16 ^ i ≤ B16 ^ (nd b - 1) := pow16_le (by omega)
          omega
        · refine Nat.le_of_not_lt fun hlt => ?_
          rw [Nat.div_eq_of_lt] at h
          · omega
          · have h2 := Nat.mod_le a (B16 ^ i)
            have h3 := Nat.mod_le b (B16 ^ i)
            omega
      obtain ⟨n, hn1, hev⟩ := rplus_go a b N hN ha hb m' (i + 1) (by omega) (fun _ => hlo')
      refine ⟨n, hn1, step true (decide_eq_true hq).symm n n (fun _ _ _ => trivial) ?_⟩
      refine Ev.succ (f := fun k => cavilref07_plus.b2 k (cavilref07_plus.go k) (digs a) (digs b) (toB B16 i (a + b)) _ (i : Int) true) ?_ (fun k => rfl)
      simp only [cavilref07_plus.b2]
      refine Ev.tt rfl (Ev.bind (rdig_ev a i) (Ev.bind (rdig_ev b i) ?_))
      have d1 : a / B16 ^ i % B16 < 65536 := dg_lt _
      have d2 : b / B16 ^ i % B16 < 65536 := dg_lt _
      have hsd := sum_dig B16 a b i (by decide)
      have hst := (sum_step B16 a b i (by decide)).2
      have happ := toB_app B16 i (a + b)
      generalize a / B16 ^ i % B16 = x at *
      generalize b / B16 ^ i % B16 = y at *
      generalize (a % B16 ^ i + b % B16 ^ i) / B16 ^ i = c at *
      have e1 : wr .i64 (wr .i64 ((x : Int) + (y : Int)) + (c : Int)) = ((x + y + c : Nat) : Int) := by rw [v64 (n := (x : Int) + y) (by omega) (by omega), v64 (by omega) (by omega)]; omega
      have e2 : wr .i64 ((i : Int) + 1) = ((i + 1 : Nat) : Int) := by rw [v64 (by omega) (by omega)]; omega
      rw [hst] at hev
      rw [e1, e2, rem16, i64quo _ (by omega), hsd, ← happ]
      exact Ev.gk (room_iff.2 (by rw [toB_len]; omega)) hev
    · have h1 : nd a ≤ i := by omega
      have h2 : nd b ≤ i := by omega
      have h3 := Nat.lt_of_lt_of_le (nd_hi a) (pow16_le h1)
      have h4 := Nat.lt_of_lt_of_le (nd_hi b) (pow16_le h2)
      have h5 : a + b < B16 ^ i := by
        have h6 : (a % B16 ^ i + b % B16 ^ i) / B16 ^ i = 0 := Nat.eq_zero_of_not_pos (fun h => hq (.inr (.inr h)))
        rw [Nat.mod_eq_of_lt h3, Nat.mod_eq_of_lt h4] at h6
        rcases Nat.div_eq_zero_iff.1 h6 with h | h
        · have := B16_pos i; omega
        · exact h
      have h7 := nd_le h5
      have h8 : i ≤ nd (a + b) := by
        by_cases hi0 : i = 0
        · omega
        · have := nd_ge (hlo (by omega)); omega
      refine ⟨i, by omega, step false (decide_eq_false hq).symm i i (fun _ _ _ => trivial) ?_⟩
      refine Ev.succ (f := fun k => cavilref07_plus.b2 k (cavilref07_plus.go k) (digs a) (digs b) (toB B16 i (a + b)) _ (i : Int) false) ?_ (fun k => rfl)
      exact Ev.ff rfl Ev.ret
  termination_by m => m
theorem rplus_ev (a b : Nat) (ha : nd a ≤ 10000) (hb : nd b ≤ 10000) : Ev (fun k => cavilref07_plus.m k (digs a) (digs b)) (digs (a + b)) := by
  have h1 := Nat.lt_of_lt_of_le (nd_hi a) (pow16_le ha)
  have h2 := Nat.lt_of_lt_of_le (nd_hi b) (pow16_le hb)
  obtain ⟨n, hn, hev⟩ := rplus_go a b 10000 (by decide) h1 h2 10001 0 (by decide) (fun h => absurd h (by decide))
  subst hn
  refine Ev.succ (f := fun k => cavilref07_plus.b0 k (cavilref07_plus.go k) (digs a) (digs b)) ?_ (fun k => rfl)
  rw [Nat.pow_zero, Nat.mod_one, Nat.mod_one] at hev
  exact hev
theorem dtrim_ev (v : Nat) (neg : Bool) (hn : nd v ≤ 100000) : Ev (fun k => cavilref07_trim.m k neg (digs v)) (neg && decide (v ≠ 0), (nd v : Int)) := trim_ev (nd v) v neg hn (nd_hi v)
theorem dcut (v : Nat) : cut (digs v) 0 (nd v : Int) = digs v := cut_digs (nd v) v (nd_hi v)
theorem nd_addle (a b n : Nat) (ha : nd a ≤ n) (hb : nd b ≤ n) : nd (a + b) ≤ n + 1 := by
  refine nd_le ?_
  have h1 := Nat.lt_of_lt_of_le (nd_hi a) (pow16_le ha)
  have h2 := Nat.lt_of_lt_of_le (nd_hi b) (pow16_le hb)
  rw [Nat.pow_succ]
  have : B16 ^ n * 2 ≤ B16 ^ n * B16 := Nat.mul_le_mul_left _ (by decide)
  omega
theorem radd_ev (a b : Nat) (ha : nd a ≤ 10000) (hb : nd b ≤ 10000) : Ev (fun k => cavilref07_Add.m k false (digs a) false (digs b)) (false, digs (a + b)) := by
  refine Ev.succ (f := fun k => cavilref07_Add.b0 k false (digs a) false (digs b)) ?_ (fun k => rfl)
  simp only [cavilref07_Add.b0]
  have hn := nd_addle a b 10000 ha hb
  refine Ev.tt rfl (Ev.bind (rplus_ev a b ha hb) (Ev.bind (dtrim_ev _ false (by omega)) (Ev.ret' ?_)))
  rw [dcut]
  rfl
/-! ### Products -/
theorem mul_next (a b i j : Nat) : a % B16 ^ i * b + a / B16 ^ i % B16 * (b % B16 ^ (j + 1)) * B16 ^ i = a % B16 ^ i * b + a / B16 ^ i % B16 * (b % B16 ^ j) * B16 ^ i + a / B16 ^ i % B16 * (b / B16 ^ j % B16) * B16 ^ (i + j) := by
  rw [mod_next B16 b j, Nat.pow_add]
  grind
theorem rmul_in (a b N i : Nat) (hi : i < nd a) (hN : N = nd a + nd b + 1) (hN2 : N ≤ 100000) {r : Bool × List Int} (hnext : Ev (fun k => cavilref07_Mul.go k (.l1 (digs a) (digs b) false false [] false (toB B16 N (a % B16 ^ (i + 1) * b)) ((i + 1 : Nat) : Int))) r) :
    ∀ (m j S c : Nat), j + m = nd b + 1 → c < B16 → S + c * B16 ^ (i + j) = a % B16 ^ i * b + a / B16 ^ i % B16 * (b % B16 ^ j) * B16 ^ i →
    Ev (fun k => cavilref07_Mul.go k (.l2 (digs a) (digs b) false false [] false (toB B16 N S) (i : Int) (c : Int) (j : Int))) r
  | m, j, S, c, h, hc, e => by
    have hbb : ∀ j, nd b ≤ j → b % B16 ^ j = b := fun j hj => Nat.mod_eq_of_lt (Nat.lt_of_lt_of_le (nd_hi b) (pow16_le hj))
    have tot : a % B16 ^ i * b + a / B16 ^ i % B16 * b * B16 ^ i = a % B16 ^ (i + 1) * b := by
      rw [mod_next B16 a i]
      grind
    have lim : a % B16 ^ (i + 1) * b < B16 ^ (i + 1 + nd b) := by
      rw [Nat.pow_add B16 (i + 1) (nd b)]
      exact Nat.mul_lt_mul'' (Nat.mod_lt _ (B16_pos _)) (nd_hi b)
    have fin : nd b ≤ j → c = 0 → Ev (fun k => cavilref07_Mul.go k (.l3 (digs a) (digs b) false false [] false (toB B16 N S) (i : Int) (c : Int) (j : Int) false)) r := by
      intro hj hc0
      subst hc0
      rw [hbb j hj, tot, Nat.zero_mul, Nat.add_zero] at e
      subst e
      refine Ev.succ (f := fun k => cavilref07_Mul.b3 k (cavilref07_Mul.go k) (digs a) (digs b) false false [] false (toB B16 N _) (i : Int) _ (j : Int) false) ?_ (fun k => rfl)
      simp only [cavilref07_Mul.b3]
      have e2 : wr .i64 ((i : Int) + 1) = ((i + 1 : Nat) : Int) := by rw [v64 (by omega) (by omega)]; omega
      rw [e2]
      exact Ev.ff rfl hnext
    have stp : j < nd b ∨ (j = nd b ∧ 0 < c) → Ev (fun k => cavilref07_Mul.go k (.l3 (digs a) (digs b) false false [] false (toB B16 N S) (i : Int) (c : Int) (j : Int) true)) r := by
      intro hj
      obtain ⟨m', rfl⟩ : ∃ m', m = m' + 1 := ⟨m - 1, by omega⟩
      refine Ev.succ (f := fun k => cavilref07_Mul.b3 k (cavilref07_Mul.go k) (digs a) (digs b) false false [] false (toB B16 N S) (i : Int) (c : Int) (j : Int) true) ?_ (fun k => rfl)
      simp only [cavilref07_Mul.b3]
      have e1 : wr .i64 ((i : Int) + (j : Int)) = ((i + j : Nat) : Int) := by rw [v64 (by omega) (by omega)]; omega
      have e2 : wr .i64 ((j : Int) + 1) = ((j + 1 : Nat) : Int) := by rw [v64 (by omega) (by omega)]; omega
      have d1 : a / B16 ^ i % B16 < 65536 := dg_lt _
      have d2 : b / B16 ^ j % B16 < 65536 := dg_lt _
      have d3 : S / B16 ^ (i + j) % B16 < 65536 := dg_lt _
      have hc' : c < 65536 := hc
      rw [e1, Int.toNat_natCast, Int.toNat_natCast, toB_get B16 N S (i + j) (by omega), digs_get a i hi, e2]
      have hs3 := split3 B16 S (i + j) (by decide)
      have hset := toB_set B16 (by decide) N (i + j) (S % B16 ^ (i + j)) (S / B16 ^ (i + j) % B16)
      have hmn := mul_next a b i j
      have hsl := Nat.mod_lt S (B16_pos (i + j))
      have hrec := rmul_in a b N i hi hN hN2 hnext m' (j + 1)
      have hlow : c * B16 ^ (i + j) + S = a % B16 ^ i * b + a / B16 ^ i % B16 * (b % B16 ^ j) * B16 ^ i := by rw [Nat.add_comm]; exact e
      have hrd := rdig_ev b j
      generalize a / B16 ^ i % B16 = x at *
      generalize b / B16 ^ j % B16 = y at *
      generalize hw : S / B16 ^ (i + j) % B16 = w at *
      generalize hh : S / B16 ^ (i + j + 1) = hi' at *
      have hxy : x * y ≤ 65535 * 65535 := Nat.mul_le_mul (by omega) (by omega)
      have e3 : wr .i64 ((x : Int) * (y : Int)) = ((x * y : Nat) : Int) := by rw [mulN, v64 (by omega) (by omega)]
      have e4 : wr .i64 ((w : Int) + ((x * y : Nat) : Int)) = ((w + x * y : Nat) : Int) := by rw [addN, v64 (by omega) (by omega)]
      have e5 : wr .i64 (((w + x * y : Nat) : Int) + (c : Int)) = ((w + x * y + c : Nat) : Int) := by rw [addN, v64 (by omega) (by omega)]
      refine Ev.tt rfl (Ev.gk (inB_iff.2 (by rw [toB_len]; omega)) (Ev.gk (inB_iff.2 (by rw [digs_len]; omega)) (Ev.bind hrd (Ev.gk (inB_iff.2 (by rw [toB_len]; omega)) ?_))))
      rw [e3, e4, e5, rem16, i64quo _ (by omega)]
      have hsx := hset ((w + x * y + c) % B16) hi' (by omega) hsl (by show w < 65536; exact d3) (dg_lt _)
      rw [← hs3] at hsx
      rw [hsx]
      refine hrec _ _ (by omega) ?_ ?_
      · rw [Nat.div_lt_iff_lt_mul (by decide)]
        show w + x * y + c < 65536 * 65536
        omega
      · have hdm := Nat.mod_add_div (w + x * y + c) B16
        generalize (w + x * y + c) % B16 = p at *
        generalize (w + x * y + c) / B16 = q at *
        rw [hmn, ← hlow, show i + (j + 1) = i + j + 1 by omega, Nat.pow_succ]
        conv => rhs; rw [hs3]
        generalize B16 ^ (i + j) = P at *
        generalize S % P = s at *
        have : (p + B16 * q) * P = (w + x * y + c) * P := by rw [hdm]
        grind
    refine Ev.succ (f := fun k => cavilref07_Mul.b2 k (cavilref07_Mul.go k) (digs a) (digs b) false false [] false (toB B16 N S) (i : Int) (c : Int) (j : Int)) ?_ (fun k => rfl)
    simp only [cavilref07_Mul.b2]
    rw [digs_len]
    refine Ev.bif (fun hj => stp (.inl (by have := of_decide_eq_true hj; omega))) (fun hj => ?_)
    have hj := of_decide_eq_false hj
    have hj : nd b ≤ j := by omega
    by_cases hc0 : c = 0
    · rw [show decide ((c : Int) > 0) = false from decide_eq_false (by omega)]
      exact fin hj hc0
    · by_cases hjb : j = nd b
      · rw [show decide ((c : Int) > 0) = true from decide_eq_true (by omega)]
        exact stp (.inr ⟨hjb, by omega⟩)
      · exfalso
        rw [hbb j hj, tot] at e
        have h1 : B16 ^ (i + 1 + nd b) ≤ B16 ^ (i + j) := pow16_le (by omega)
        have h2 : 1 * B16 ^ (i + j) ≤ c * B16 ^ (i + j) := Nat.mul_le_mul_right _ (by omega)
        omega
  termination_by m => m
theorem rmul_go (a b N : Nat) (hN : N = nd a + nd b + 1) (hN2 : N ≤ 100000) : ∀ (m i : Nat), i + m = nd a →
    Ev (fun k => cavilref07_Mul.go k (.l1 (digs a) (digs b) false false [] false (toB B16 N (a % B16 ^ i * b)) (i : Int))) (false, digs (a * b))
  | 0, i, h => by
    obtain rfl : i = nd a := by omega
    rw [Nat.mod_eq_of_lt (nd_hi a)]
    refine Ev.succ (f := fun k => cavilref07_Mul.b1 k (cavilref07_Mul.go k) (digs a) (digs b) false false [] false (toB B16 N (a * b)) (nd a : Int)) ?_ (fun k => rfl)
    simp only [cavilref07_Mul.b1]
    rw [digs_len]
    have hlt : a * b < B16 ^ N := by
      have h1 : a * b < B16 ^ (nd a + nd b) := by
        rw [Nat.pow_add]
        exact Nat.mul_lt_mul'' (nd_hi a) (nd_hi b)
      exact Nat.lt_of_lt_of_le h1 (pow16_le (by omega))
    refine Ev.ff (decide_eq_false (by omega)) (Ev.bind (trim_ev N (a * b) false hN2 hlt) (Ev.ret' ?_))
    rw [cut_digs N _ hlt]
    rfl
  | m + 1, i, h => by
    refine Ev.succ (f := fun k => cavilref07_Mul.b1 k (cavilref07_Mul.go k) (digs a) (digs b) false false [] false (toB B16 N (a % B16 ^ i * b)) (i : Int)) ?_ (fun k => rfl)
    simp only [cavilref07_Mul.b1]
    rw [digs_len]
    refine Ev.tt (decide_eq_true (by omega)) ?_
    exact rmul_in a b N i (by omega) hN hN2 (rmul_go a b N hN hN2 m (i + 1) (by omega)) (nd b + 1) 0 _ 0 (by omega) (by decide) (by rw [Nat.pow_zero, Nat.mod_one]; simp)
theorem rrmul_ev (a b : Nat) (ha : nd a ≤ 10000) (hb : nd b ≤ 10000) : Ev (fun k => cavilref07_Mul.m k false (digs a) false (digs b)) (false, digs (a * b)) := by
  refine Ev.succ (f := fun k => cavilref07_Mul.b0 k (cavilref07_Mul.go k) false (digs a) false (digs b)) ?_ (fun k => rfl)
  simp only [cavilref07_Mul.b0]
  rw [digs_len, digs_len]
  have e1 : wr .i64 (wr .i64 ((nd a : Int) + (nd b : Int)) + 1) = ((nd a + nd b + 1 : Nat) : Int) := by rw [v64 (n := (nd a : Int) + nd b) (by omega) (by omega), v64 (by omega) (by omega)]; omega
  rw [e1, Int.toNat_natCast]
  have := rmul_go a b _ rfl (by omega) (nd a) 0 (by omega)
  rw [Nat.pow_zero, Nat.mod_one, Nat.zero_mul, toB_zero] at this
  refine Ev.gk ?_ this
  rw [show nn ((nd a + nd b + 1 : Nat) : Int) = true from decide_eq_true (by omega), beq_self_eq_true, room_iff.2 (by omega)]
  rfl
/-! ### Small numbers -/
theorem small_go (n : Nat) (hn : n < 9223372036854775808) : ∀ (m j : Nat), n < B16 ^ (j + m) → j ≤ 100 → m ≤ 100 → Ev (fun k => cavilref07_Small.go k (.l1 [] false (toB B16 j n) (n : Int) ((n / B16 ^ j : Nat) : Int))) (false, digs n)
  | m, j, h, hj, hm => by
    refine Ev.succ (f := fun k => cavilref07_Small.b1 k (cavilref07_Small.go k) [] false (toB B16 j n) (n : Int) ((n / B16 ^ j : Nat) : Int)) ?_ (fun k => rfl)
    simp only [cavilref07_Small.b1]
    have hle := Nat.div_le_self n (B16 ^ j)
    by_cases h0 : n / B16 ^ j = 0
    · have hlt : n < B16 ^ j := by
        rcases Nat.div_eq_zero_iff.1 h0 with h | h
        · have := B16_pos j; omega
        · exact h
      rw [decide_eq_false (show ¬ (n : Int) < 0 by omega)]
      refine Ev.ff (decide_eq_false (by omega)) (Ev.bind (trim_ev j n false (by omega) hlt) (Ev.ret' ?_))
      rw [cut_digs j n hlt]
      rfl
    · obtain ⟨m', rfl⟩ : ∃ m', m = m' + 1 := ⟨m - 1, by
        refine (Nat.succ_pred_eq_of_ne_zero fun e => h0 ?_).symm
        subst e
        exact Nat.div_eq_of_lt h⟩
      have hp := Nat.pos_of_ne_zero h0
      have e3 : n / B16 ^ j / B16 = n / B16 ^ (j + 1) := by rw [Nat.div_div_eq_div_mul, ← Nat.pow_succ]
      rw [rem16, i64quo _ (by omega), e3, ← toB_app]
      refine Ev.tt (decide_eq_true (by omega)) (Ev.gk (room_iff.2 (by rw [toB_len]; omega)) ?_)
      by_cases hj100 : j + 1 ≤ 100
      · exact small_go n hn m' (j + 1) (by rw [show j + 1 + m' = j + (m' + 1) by omega]; exact h) hj100 (by omega)
      · exfalso
        have h1 : B16 ^ 4 ≤ B16 ^ j := pow16_le (by omega)
        have h2 : (9223372036854775808 : Nat) ≤ B16 ^ 4 := by decide
        exact h0 (Nat.div_eq_of_lt (by omega))
  termination_by m => m
theorem small_ev (n : Nat) (h : n < 9223372036854775808) : Ev (fun k => cavilref07_Small.m k (n : Int)) (false, digs n) := by
  refine Ev.succ (f := fun k => cavilref07_Small.b0 k (cavilref07_Small.go k) (n : Int)) ?_ (fun k => rfl)
  simp only [cavilref07_Small.b0]
  have := small_go n h 4 0 (Nat.lt_of_lt_of_le h (by decide)) (by decide) (by decide)
  rw [Nat.pow_zero, Nat.div_one] at this
  exact Ev.ff (decide_eq_false (by omega)) this
end Go.Proofs.YtaakccdfgejgpaaGreatDoor.Pure
namespace Go.Proofs.YtaakccdfgejgpaaGreatDoor.Pure
open Go Abs
set_option linter.unusedVariables false
set_option linter.unusedSimpArgs false

/-! ### Words out of digits -/
def cellT (v e w : Nat) : Nat := if 4 * w + 4 ≤ e then 0 else v / B16 ^ (max (4 * w) e) % B16 ^ (4 * w + 4 - max (4 * w) e)
def arrT (v e : Nat) : List Int := (List.range 8).map (fun w => (cellT v e w : Int))
theorem arrT_len (v e : Nat) : (arrT v e).length = 8 := by simp [arrT]
theorem arrT_get (v e w : Nat) (h : w < 8) : (arrT v e).getD w 0 = (cellT v e w : Int) := by
  unfold arrT
  rw [List.getD_eq_getElem?_getD, List.getElem?_map, List.getElem?_range h]
  rfl
theorem list8 {l l' : List Int} (h : l.length = 8) (h' : l'.length = 8) (e : ∀ i, i < 8 → l.getD i 0 = l'.getD i 0) : l = l' := by
  refine List.ext_getElem (by omega) fun i h1 h2 => ?_
  have := e i (by omega)
  rwa [List.getD_eq_getElem?_getD, List.getD_eq_getElem?_getD, List.getElem?_eq_getElem h1, List.getElem?_eq_getElem h2] at this
theorem arrT_zero (v : Nat) : arrT v 0 = toW v := by
  refine list8 (arrT_len _ _) (toW_len _) fun w hw => ?_
  rw [arrT_get v 0 w hw, toW_get v w hw]
  unfold cellT
  rw [if_neg (by omega), show max (4 * w) 0 = 4 * w by omega, show 4 * w + 4 - 4 * w = 4 by omega, w64_16, ← Nat.pow_mul]
theorem arrT_top (v e : Nat) (h : v < B16 ^ e) : arrT v e = List.replicate 8 0 := by
  refine list8 (arrT_len _ _) (by simp) fun w hw => ?_
  rw [arrT_get v e w hw, show (List.replicate 8 (0 : Int)).getD w 0 = 0 by rw [List.getD_eq_getElem?_getD, List.getElem?_replicate]; split <;> rfl]
  unfold cellT
  split
  · rfl
  · rw [Nat.div_eq_of_lt (Nat.lt_of_lt_of_le h (pow16_le (by omega)))]
    rfl
theorem cellT_same (v i w : Nat) (h : w ≠ i / 4) : cellT v (i + 1) w = cellT v i w := by
  unfold cellT
  by_cases h1 : 4 * w + 4 ≤ i
  · rw [if_pos (by omega), if_pos h1]
  · rw [if_neg (by omega), if_neg h1, show max (4 * w) (i + 1) = 4 * w by omega, show max (4 * w) i = 4 * w by omega]
theorem cellT_next (v i : Nat) : cellT v i (i / 4) = cellT v (i + 1) (i / 4) * B16 + v / B16 ^ i % B16 := by
  unfold cellT
  rw [if_neg (by omega), show max (4 * (i / 4)) i = i by omega]
  by_cases h : 4 * (i / 4) + 4 ≤ i + 1
  · rw [if_pos h, show 4 * (i / 4) + 4 - i = 1 by omega, Nat.pow_one, Nat.zero_mul, Nat.zero_add]
  · rw [if_neg h, show max (4 * (i / 4)) (i + 1) = i + 1 by omega, show 4 * (i / 4) + 4 - i = (4 * (i / 4) + 4 - (i + 1)) + 1 by omega, Nat.pow_succ B16 i, ← Nat.div_div_eq_div_mul, Nat.pow_succ, Nat.mul_comm (B16 ^ (4 * (i / 4) + 4 - (i + 1))) B16, Nat.mod_mul]
    generalize v / B16 ^ i / B16 % B16 ^ (4 * (i / 4) + 4 - (i + 1)) = y
    generalize v / B16 ^ i % B16 = x
    show x + 65536 * y = y * 65536 + x
    omega
theorem cellT_lt (v i : Nat) : cellT v (i + 1) (i / 4) < B16 ^ 3 := by
  unfold cellT
  split
  · decide
  · exact Nat.lt_of_lt_of_le (Nat.mod_lt _ (B16_pos _)) (pow16_le (by omega))
theorem to_go (v : Nat) (z : List Int) (hn : nd v ≤ 32) : ∀ (e : Nat), e ≤ nd v → Ev (fun k => cavilref07_To.go k (.l1 (digs v) false false z false (arrT v e) ((e : Int) - 1))) (false, toW v, true)
  | 0, _ => by
    refine Ev.succ (f := fun k => cavilref07_To.b1 k (cavilref07_To.go k) (digs v) false false z false (arrT v 0) ((0 : Nat) - 1)) ?_ (fun k => rfl)
    simp only [cavilref07_To.b1]
    rw [arrT_zero]
    exact Ev.ff (by simp) Ev.ret
  | i + 1, hi => by
    have e0 : ((i + 1 : Nat) : Int) - 1 = i := by omega
    rw [e0]
    refine Ev.succ (f := fun k => cavilref07_To.b1 k (cavilref07_To.go k) (digs v) false false z false (arrT v (i + 1)) (i : Int)) ?_ (fun k => rfl)
    simp only [cavilref07_To.b1]
    have e1 : quoI .i64 (i : Int) 4 = ((i / 4 : Nat) : Int) := quoN i 4 (by decide) (by omega)
    have hc := cellT_lt v i
    have hc : cellT v (i + 1) (i / 4) < 281474976710656 := hc
    have hd : v / B16 ^ i % B16 < 65536 := dg_lt _
    have hnx := cellT_next v i
    rw [e1, Int.toNat_natCast, Int.toNat_natCast, arrT_get v (i + 1) (i / 4) (by omega), digs_get v i (by omega)]
    have hset : (arrT v (i + 1)).set (i / 4) ((cellT v i (i / 4) : Nat) : Int) = arrT v i := by
      refine list8 (by rw [List.length_set, arrT_len]) (arrT_len _ _) fun w hw => ?_
      rw [arrT_get v i w hw, List.getD_eq_getElem?_getD, List.getElem?_set]
      by_cases h : i / 4 = w
      · subst h
        rw [if_pos rfl, arrT_len, if_pos hw]
        rfl
      · rw [if_neg h, ← List.getD_eq_getElem?_getD, arrT_get v (i + 1) w hw, cellT_same v i w (fun e => h e.symm)]
    generalize cellT v (i + 1) (i / 4) = c at *
    generalize v / B16 ^ i % B16 = x at *
    have e2 : wr .u64 ((c : Int) * 65536) = ((c * B16 : Nat) : Int) := by
      rw [show ((c : Int) * 65536) = ((c * 65536 : Nat) : Int) by omega]
      exact u64i (by omega) (by omega)
    have e3 : wr .u64 (x : Int) = (x : Int) := u64i (by omega) (by omega)
    have e4 : wr .u64 (((c * B16 : Nat) : Int) + (x : Int)) = ((cellT v i (i / 4) : Nat) : Int) := by
      rw [hnx, addN]
      have : c * B16 + x < 18446744073709551616 := by show c * 65536 + x < _; omega
      exact u64i (by omega) (by omega)
    rw [e2, e3, e4, hset, v64 (by omega) (by omega)]
    exact Ev.tt (decide_eq_true (by omega)) (Ev.gk (inB_iff.2 (by omega)) (Ev.gk (inB_iff.2 (by rw [digs_len]; omega)) (Ev.gk (inB_iff.2 (by omega)) (to_go v z hn i (by omega)))))
theorem to_ev (v : Nat) (hv : v < M512) : Ev (fun k => cavilref07_To.m k false (digs v)) (false, toW v, true) := by
  refine Ev.succ (f := fun k => cavilref07_To.b0 k (cavilref07_To.go k) false (digs v)) ?_ (fun k => rfl)
  simp only [cavilref07_To.b0]
  have hn := (nd32 v).2 hv
  rw [digs_len, v64 (by omega) (by omega)]
  have := to_go v (List.replicate 8 (0 : Int)) hn (nd v) (Nat.le_refl _)
  rw [arrT_top v _ (nd_hi v)] at this
  exact Ev.ff (decide_eq_false (by omega)) this
/-! ### Texts of numbers -/
theorem nd_mul (a b : Nat) : nd (a * b) ≤ nd a + nd b := nd_le (by rw [Nat.pow_add]; exact Nat.mul_lt_mul'' (nd_hi a) (nd_hi b))
theorem nd_one {n : Nat} (h : n < 65536) : nd n ≤ 1 := nd_le (by rw [Nat.pow_one]; exact h)
def resI (t : Nat × Int) : Bool × Int × List Int := (false, t.2, digs t.1)
def resJ : Option Nat → Bool × Int × List Int
  | some v => (false, 0, digs v)
  | none => (false, 9, [])
theorem rparse_acc (s : List UInt8) (b : Nat) (z : List Int) (hb : b ≤ 16) (hs : s.length ≤ 100000) : ∀ (m i v : Nat), i + m = s.length → v < M512 →
    Ev (fun k => cavilref07_Parse.go k (.l3 z false (digs v) false s (b : Int) (i : Int))) (resJ (accN b (s.drop i) v))
  | 0, i, v, h, hv => by
    refine Ev.succ (f := fun k => cavilref07_Parse.b3 k (cavilref07_Parse.go k) z false (digs v) false s (b : Int) (i : Int)) ?_ (fun k => rfl)
    simp only [cavilref07_Parse.b3]
    rw [List.drop_eq_nil_of_le (by omega)]
    exact Ev.ff (decide_eq_false (by omega)) Ev.ret
  | m + 1, i, v, h, hv => by
    refine Ev.succ (f := fun k => cavilref07_Parse.b3 k (cavilref07_Parse.go k) z false (digs v) false s (b : Int) (i : Int)) ?_ (fun k => rfl)
    simp only [cavilref07_Parse.b3]
    have hby : byt s (i : Int) = ((s.getD i 0).toNat : Int) := byt_nat s i
    rw [hby, drop_at s i (by omega)]
    generalize s.getD i 0 = c
    have hc := u8_lt c
    have hh := hexN_hi c
    have n1 := (nd32 v).2 hv
    have n2 : nd b ≤ 1 := nd_one (by omega)
    have n3 : nd (hexN c) ≤ 1 := nd_one (by omega)
    have n4 := nd_mul v b
    have ei : wr .i64 ((i : Int) + 1) = ((i + 1 : Nat) : Int) := by rw [v64 (by omega) (by omega)]; omega
    have hdg := digit_ev (c.toNat : Int) (by omega) (by omega)
    rw [hexN_eq] at hdg
    rw [ei, accN]
    refine Ev.tt (decide_eq_true (by omega)) (Ev.bind (small_ev b (by omega)) (Ev.bind (rrmul_ev v b (by omega) (by omega)) (Ev.gk (inB_iff.2 (by omega)) (Ev.bind hdg (Ev.bind (small_ev (hexN c) (by omega)) (Ev.bind (radd_ev (v * b) (hexN c) (by omega) (by omega)) ?_))))))
    rw [digs_len]
    have h32 := nd32 (v * b + hexN c)
    by_cases hlt : v * b + hexN c < M512
    · rw [if_pos hlt]
      exact Ev.ff (decide_eq_false (by have := h32.2 hlt; omega)) (rparse_acc s b z hb hs m (i + 1) _ (by omega) hlt)
    · rw [if_neg hlt]
      refine Ev.tt (decide_eq_true ?_) Ev.ret
      have : ¬ nd (v * b + hexN c) ≤ 32 := fun h => hlt (h32.1 h)
      omega
theorem rparse_ev (s : List UInt8) (b : Nat) (hb : b = 2 ∨ b = 8 ∨ b = 10 ∨ b = 16) (hs : s.length ≤ 100000) : Ev (fun k => cavilref07_Parse.m k s (b : Int)) (resI (parseN s b)) := by
  have l2 : ∀ (m i : Nat), i + m = s.length → Ev (fun k => cavilref07_Parse.go k (.l2 [] false s (b : Int) (i : Int))) (resI (if (s.drop i).any (fun c => decide (b ≤ hexN c)) then (0, 13) else match accN b s 0 with | some v => (v, 0) | none => (0, 9))) := by
    intro m
    induction m with
    | zero =>
      intro i h
      refine Ev.succ (f := fun k => cavilref07_Parse.b2 k (cavilref07_Parse.go k) [] false s (b : Int) (i : Int)) ?_ (fun k => rfl)
      simp only [cavilref07_Parse.b2]
      rw [List.drop_eq_nil_of_le (by omega)]
      refine Ev.ff (decide_eq_false (by omega)) ?_
      have := rparse_acc s b [] (by omega) hs s.length 0 0 (by omega) (by decide)
      refine this.to ?_
      rw [List.drop_zero]
      cases accN b s 0 with
      | some v => rfl
      | none => rfl
    | succ m ih =>
      intro i h
      refine Ev.succ (f := fun k => cavilref07_Parse.b2 k (cavilref07_Parse.go k) [] false s (b : Int) (i : Int)) ?_ (fun k => rfl)
      simp only [cavilref07_Parse.b2]
      have hd := drop_at s i (by omega)
      have ih := ih (i + 1) (by omega)
      have hby : byt s (i : Int) = ((s.getD i 0).toNat : Int) := byt_nat s i
      rw [hby, hd, List.any_cons]
      generalize s.getD i 0 = c
      have hc := u8_lt c
      have ei : wr .i64 ((i : Int) + 1) = ((i + 1 : Nat) : Int) := by rw [v64 (by omega) (by omega)]; omega
      have hdg := digit_ev (c.toNat : Int) (by omega) (by omega)
      rw [hexN_eq] at hdg
      rw [ei]
      refine Ev.tt (decide_eq_true (by omega)) (Ev.gk (inB_iff.2 (by omega)) (Ev.bind hdg (Ev.bif (fun h => ?_) (fun h => ?_))))
      · have h := of_decide_eq_true h
        rw [decide_eq_true (show b ≤ hexN c by omega), Bool.true_or, if_pos rfl]
        exact Ev.ret
      · have h := of_decide_eq_false h
        rw [decide_eq_false (show ¬ b ≤ hexN c by omega), Bool.false_or]
        exact ih
  have l1 : Ev (fun k => cavilref07_Parse.go k (.l1 [] false s (b : Int) false)) (resI (parseN s b)) := by
    refine Ev.succ (f := fun k => cavilref07_Parse.b1 k (cavilref07_Parse.go k) [] false s (b : Int) false) ?_ (fun k => rfl)
    simp only [cavilref07_Parse.b1]
    unfold parseN
    refine Ev.ff rfl (Ev.bif (fun h => ?_) (fun h => ?_))
    · have : s = [] := by
        have : s.length = 0 := by
          have : (s.length : Int) = 0 := by simpa using h
          omega
        exact List.length_eq_zero_iff.1 this
      rw [if_pos this]
      exact Ev.ret
    · have hne : s ≠ [] := by
        intro e
        subst e
        exact absurd h (by decide)
      rw [if_neg hne]
      exact l2 s.length 0 (by omega)
  refine Ev.succ (f := fun k => cavilref07_Parse.b0 k (cavilref07_Parse.go k) s (b : Int)) ?_ (fun k => rfl)
  simp only [cavilref07_Parse.b0]
  rcases hb with rfl | rfl | rfl | rfl
  · exact Ev.ff rfl l1
  · exact Ev.tt rfl (Ev.ff rfl l1)
  · exact Ev.tt rfl (Ev.tt rfl (Ev.ff rfl l1))
  · exact Ev.tt rfl (Ev.tt rfl (Ev.tt rfl l1))
/-! ### Blanks -/
theorem rhex_ev (c : Int) (h0 : 0 ≤ c) (h1 : c < 256) : Ev (fun k => cavilref09_hex.m k c) (decide (hexv c < 16)) := by
  refine Ev.succ (f := fun k => cavilref09_hex.b0 k c) ?_ (fun k => rfl)
  exact Ev.bind (digit_ev c h0 h1) Ev.ret
theorem rspaced_go (s : List UInt8) (h : Bool) (hs : s.length ≤ 100000) : ∀ (m i : Nat), i + m = s.length → Ev (fun k => cavilref09_spaced.go k (.l1 s h (i : Int))) (spacedL s h m i)
  | 0, i, hi => by
    refine Ev.succ (f := fun k => cavilref09_spaced.b1 k (cavilref09_spaced.go k) s h (i : Int)) ?_ (fun k => rfl)
    simp only [cavilref09_spaced.b1]
    exact Ev.ff (decide_eq_false (by omega)) Ev.ret
  | m + 1, i, hi => by
    refine Ev.succ (f := fun k => cavilref09_spaced.b1 k (cavilref09_spaced.go k) s h (i : Int)) ?_ (fun k => rfl)
    simp only [cavilref09_spaced.b1]
    have e1 : wr .i64 ((i : Int) + 1) = ((i + 1 : Nat) : Int) := by rw [v64 (by omega) (by omega)]; omega
    have ih := rspaced_go s h hs m (i + 1) (by omega)
    rw [e1]
    unfold spacedL
    refine Ev.tt (decide_eq_true (by omega)) (Ev.gk (inB_iff.2 (by omega)) (Ev.bif (fun hc => ?_) (fun hc => ?_)))
    · have hc : byt s (i : Int) ≠ 95 := by simpa using hc
      rw [if_pos hc]
      exact ih
    · have hc : byt s (i : Int) = 95 := by simpa using hc
      rw [if_neg (c := byt s (i : Int) ≠ 95) (by simpa using hc)]
      have l3 : ∀ p q, (p && q) = okU s h i → Ev (fun k => cavilref09_spaced.go k (.l3 s h (i : Int) p q)) (okU s h i && spacedL s h m (i + 1)) := by
        intro p q hpq
        refine Ev.succ (f := fun k => cavilref09_spaced.b3 k (cavilref09_spaced.go k) s h (i : Int) p q) ?_ (fun k => rfl)
        simp only [cavilref09_spaced.b3]
        rw [← hpq, e1]
        cases p with
        | false => exact Ev.tt rfl Ev.ret
        | true =>
          cases q with
          | false => exact Ev.ff rfl (Ev.tt rfl Ev.ret)
          | true => exact Ev.ff rfl (Ev.ff rfl ih)
      have l2 : ∀ q, q = decide (s.length ≤ i + 1 ∨ i = 0) → Ev (fun k => cavilref09_spaced.go k (.l2 s h (i : Int) q)) (okU s h i && spacedL s h m (i + 1)) := by
        intro q hq
        refine Ev.succ (f := fun k => cavilref09_spaced.b2 k (cavilref09_spaced.go k) s h (i : Int) q) ?_ (fun k => rfl)
        simp only [cavilref09_spaced.b2]
        rw [e1]
        refine Ev.bif (fun hh => ?_) (fun hh => ?_)
        · rw [hh] at hq
          have hh := of_decide_eq_true hq.symm
          have : okU s h i = false := by
            unfold okU
            rcases hh with hh | hh
            · rw [decide_eq_false (show ¬ i + 1 < s.length by omega)]; rfl
            · rw [decide_eq_false (show ¬ i ≠ 0 by omega)]; simp
          rw [this]
          exact Ev.ret
        · rw [hh] at hq
          have hh := of_decide_eq_false hq.symm
          have e2 : wr .i64 ((i : Int) - 1) = ((i - 1 : Nat) : Int) := by rw [v64 (by omega) (by omega)]; omega
          have b1 := byt_lo' s ((i - 1 : Nat) : Int)
          have b2 := byt_lo' s ((i + 1 : Nat) : Int)
          have g1 : inB ((i - 1 : Nat) : Int) s.length = true := inB_iff.2 (by omega)
          have g2 : inB ((i + 1 : Nat) : Int) s.length = true := inB_iff.2 (by omega)
          have hok : okU s h i = (((h && decide (i = 2)) || hd h (byt s ((i - 1 : Nat) : Int))) && hd h (byt s ((i + 1 : Nat) : Int))) := by
            unfold okU
            rw [decide_eq_true (show i + 1 < s.length by omega), decide_eq_true (show i ≠ 0 by omega), Bool.true_and, Bool.true_and, Bool.and_comm]
          rw [e2]
          refine Ev.gk g1 (Ev.bind (rdigit_ev _) (Ev.gk g2 (Ev.bind (rdigit_ev _) ?_)))
          cases h with
          | false => exact Ev.ff rfl (l3 _ _ (by rw [hok]; rfl))
          | true =>
            refine Ev.tt rfl (Ev.gk g1 (Ev.bind (rhex_ev _ b1.1 b1.2) (Ev.gk g2 (Ev.bind (rhex_ev _ b2.1 b2.2) (Ev.bif (fun h2 => l3 _ _ ?_) (fun h2 => l3 _ _ ?_))))))
            · have : (i : Int) = 2 := by simpa using h2
              rw [hok, decide_eq_true (show i = 2 by omega)]
              rfl
            · have : ¬ (i : Int) = 2 := by simpa using h2
              rw [hok, decide_eq_false (show ¬ i = 2 by omega)]
              rfl
      refine Ev.bif (fun h1 => l2 _ ?_) (fun h1 => l2 _ ?_)
      · have := of_decide_eq_true h1
        exact (decide_eq_true (.inl (by omega))).symm
      · have := of_decide_eq_false h1
        rw [beq_dec, decide_eq_decide]
        omega
theorem rspaced_ev (s : List UInt8) (h : Bool) (hs : s.length ≤ 100000) : Ev (fun k => cavilref09_spaced.m k s h) (spacedF s h) := by
  refine Ev.succ (f := fun k => cavilref09_spaced.b0 k (cavilref09_spaced.go k) s h) ?_ (fun k => rfl)
  exact rspaced_go s h hs s.length 0 (by omega)
theorem cut_one (s : List UInt8) (i : Nat) (h : i < s.length) : cut s (i : Int) ((i + 1 : Nat) : Int) = [s.getD i 0] := by
  unfold cut
  rw [Int.toNat_natCast, Int.toNat_natCast, List.drop_take, show i + 1 - i = 1 by omega, drop_at s i h]
  rfl
theorem strip_app (a b : List UInt8) : strip (a ++ b) = strip a ++ strip b := List.filter_append ..
theorem take_at (s : List UInt8) (i : Nat) (h : i < s.length) : s.take (i + 1) = s.take i ++ [s.getD i 0] := by
  rw [List.take_add_one, List.getD_eq_getElem?_getD, List.getElem?_eq_getElem h]
  rfl
theorem without_go (s : List UInt8) (hs : s.length ≤ 100000) : ∀ (m i : Nat), i + m = s.length → Ev (fun k => cavilref09_without.go k (.l1 s (strip (s.take i)) (i : Int))) (strip s)
  | 0, i, hi => by
    refine Ev.succ (f := fun k => cavilref09_without.b1 k (cavilref09_without.go k) s (strip (s.take i)) (i : Int)) ?_ (fun k => rfl)
    simp only [cavilref09_without.b1]
    rw [List.take_of_length_le (by omega)]
    exact Ev.ff (decide_eq_false (by omega)) Ev.ret
  | m + 1, i, hi => by
    refine Ev.succ (f := fun k => cavilref09_without.b1 k (cavilref09_without.go k) s (strip (s.take i)) (i : Int)) ?_ (fun k => rfl)
    simp only [cavilref09_without.b1]
    have ei : wr .i64 ((i : Int) + 1) = ((i + 1 : Nat) : Int) := by rw [v64 (by omega) (by omega)]; omega
    have ih := without_go s hs m (i + 1) (by omega)
    rw [take_at s i (by omega), strip_app] at ih
    rw [ei, cut_one s i (by omega)]
    have hby : byt s (i : Int) = ((s.getD i 0).toNat : Int) := byt_nat s i
    rw [hby]
    have hl := strip_le (s.take i)
    have hl2 := List.length_take_le i s
    generalize s.getD i 0 = c at *
    refine Ev.tt (decide_eq_true (by omega)) (Ev.gk (inB_iff.2 (by omega)) (Ev.bif (fun h => ?_) (fun h => ?_)))
    · have h : (c.toNat : Int) ≠ 95 := by simpa using h
      have hc : c ≠ 95 := by intro e; subst e; exact h rfl
      have hs1 : strip [c] = [c] := by simp [strip, hc]
      rw [hs1] at ih
      exact Ev.gk (cutB_iff.2 (by omega)) (Ev.gk (roomS_iff.2 (by simp only [List.length_cons, List.length_nil]; omega)) ih)
    · have h : (c.toNat : Int) = 95 := by simpa using h
      have hc : c = 95 := by
        have : c.toNat = (95 : UInt8).toNat := by show c.toNat = 95; omega
        exact UInt8.toNat_inj.1 this
      subst hc
      rw [show strip [95] = [] from rfl, List.append_nil] at ih
      exact ih
theorem without_ev (s : List UInt8) (hs : s.length ≤ 100000) : Ev (fun k => cavilref09_without.m k s) (strip s) := by
  refine Ev.succ (f := fun k => cavilref09_without.b0 k (cavilref09_without.go k) s) ?_ (fun k => rfl)
  exact without_go s hs s.length 0 (by omega)
theorem intof_ev (s : List UInt8) (hs : s.length ≤ 100000) : Ev (fun k => cavilref09_IntOf.m k s) (resI (intF s)) := by
  refine Ev.succ (f := fun k => cavilref09_IntOf.b0 k (cavilref09_IntOf.go k) s) ?_ (fun k => rfl)
  simp only [cavilref09_IntOf.b0]
  refine Ev.bind (rbase_ev s) ?_
  have ho := base_opts s
  have l2 : ∀ q, q = decide (byt s 0 = 48 ∧ 1 < s.length) → s ≠ [] → Ev (fun k => cavilref09_IntOf.go k (.l2 [] false s q)) (resI (if byt s 0 = 48 ∧ 1 < s.length then parseN (strip (cut s 1 (s.length : Int))) 8 else parseN (strip s) 10)) := by
    intro q hq hne
    refine Ev.succ (f := fun k => cavilref09_IntOf.b2 k (cavilref09_IntOf.go k) [] false s q) ?_ (fun k => rfl)
    simp only [cavilref09_IntOf.b2]
    refine Ev.bif (fun h => ?_) (fun h => ?_)
    · rw [h] at hq
      have hh := of_decide_eq_true hq.symm
      rw [if_pos hh]
      have hc := cut_lenI s 1 s.length (by omega) (by omega) (by omega)
      have hst := strip_le (cut s 1 s.length)
      exact Ev.gk (cutB_iff.2 (by omega)) (Ev.bind (without_ev _ (by omega)) (Ev.bind (rparse_ev _ 8 (by decide) (by omega)) Ev.ret))
    · rw [h] at hq
      rw [if_neg (of_decide_eq_false hq.symm)]
      have hst := strip_le s
      exact Ev.bind (without_ev s hs) (Ev.bind (rparse_ev _ 10 (by decide) (by omega)) Ev.ret)
  have l1 : ∀ q, q = decide (s = [] ∨ spacedF s (decide (0 < baseN s)) = false) → Ev (fun k => cavilref09_IntOf.go k (.l1 [] false s (baseN s : Int) q)) (resI (intF s)) := by
    intro q hq
    refine Ev.succ (f := fun k => cavilref09_IntOf.b1 k (cavilref09_IntOf.go k) [] false s (baseN s : Int) q) ?_ (fun k => rfl)
    simp only [cavilref09_IntOf.b1]
    unfold intF
    refine Ev.bif (fun h => ?_) (fun h => ?_)
    · rw [h] at hq
      rw [if_pos (of_decide_eq_true hq.symm)]
      exact Ev.ret
    · rw [h] at hq
      have hn := of_decide_eq_false hq.symm
      rw [if_neg hn]
      have hne : s ≠ [] := fun e => hn (.inl e)
      have hl : 0 < s.length := List.length_pos_iff.2 hne
      refine Ev.bif (fun hb => ?_) (fun hb => Ev.gk (inB_iff.2 (by omega)) (Ev.bif (fun hz => ?_) (fun hz => ?_)))
      · have hb := of_decide_eq_true hb
        rw [if_pos (by omega)]
        have h2 : 2 ≤ s.length := by
          refine Nat.le_of_not_lt fun hlt => ?_
          have : baseN s = 0 := by unfold baseN; rw [if_pos (.inl hlt)]
          omega
        have hc := cut_lenI s 2 s.length (by omega) (by omega) (by omega)
        have hst := strip_le (cut s 2 s.length)
        exact Ev.gk (cutB_iff.2 (by omega)) (Ev.bind (without_ev _ (by omega)) (Ev.bind (rparse_ev _ (baseN s) (by omega) (by omega)) Ev.ret))
      · have hb := of_decide_eq_false hb
        rw [if_neg (by omega)]
        have hz : byt s 0 = 48 := by simpa using hz
        refine l2 _ ?_ hne
        rw [decide_eq_decide]
        omega
      · have hb := of_decide_eq_false hb
        rw [if_neg (by omega)]
        have hz : ¬ byt s 0 = 48 := by simpa using hz
        refine l2 _ ?_ hne
        rw [decide_eq_false (fun h => hz h.1)]
  have hdb : decide ((baseN s : Int) > 0) = decide (0 < baseN s) := by rw [decide_eq_decide]; omega
  rw [hdb]
  refine Ev.bif (fun h => l1 _ ?_) (fun h => Ev.bind (rspaced_ev s _ hs) (l1 _ ?_))
  · have : s = [] := by simpa using h
    simp [this]
  · have : s ≠ [] := by simpa using h
    simp [this]
/-! ### The law -/
theorem parseN_zero (s : List UInt8) (b : Nat) (h : (parseN s b).2 ≠ 0) : (parseN s b).1 = 0 := by
  unfold parseN at h ⊢
  split
  · rfl
  · rename_i h1
    rw [if_neg h1] at h
    split
    · rfl
    · rename_i h2
      rw [if_neg h2] at h
      split
      · rename_i v hv
        rw [hv] at h
        exact absurd rfl h
      · rfl
theorem intF_zero (s : List UInt8) (h : (intF s).2 ≠ 0) : (intF s).1 = 0 := by
  unfold intF at h ⊢
  split
  · rfl
  · rename_i h1
    rw [if_neg h1] at h
    split
    · rename_i h2
      rw [if_pos h2] at h
      exact parseN_zero _ _ h
    · rename_i h2
      rw [if_neg h2] at h
      split
      · rename_i h3
        rw [if_pos h3] at h
        exact parseN_zero _ _ h
      · rename_i h3
        rw [if_neg h3] at h
        exact parseN_zero _ _ h
end Go.Proofs.YtaakccdfgejgpaaGreatDoor.Pure
namespace Go.Proofs.YtaakccdfgejgpaaGreatDoor.Pure
open Go Abs
set_option linter.unusedVariables false
set_option linter.unusedSimpArgs false

theorem minus_go' (a b : Nat) (hb : b ≤ a) (hn : nd a ≤ 100000) : ∀ (m i : Nat), i + m = nd a →
    Ev (fun k => cavilref07_minus.go k (.l1 (digs a) (digs b) (toB B16 i (a - b)) (((b % B16 ^ i + (a - b) % B16 ^ i) / B16 ^ i : Nat) : Int) (i : Int))) (toB B16 (nd a) (a - b))
  | 0, i, h => by
    obtain rfl : i = nd a := by omega
    refine Ev.succ (f := fun k => cavilref07_minus.b1 k (cavilref07_minus.go k) (digs a) (digs b) (toB B16 (nd a) (a - b)) _ (nd a : Int)) ?_ (fun k => rfl)
    simp only [cavilref07_minus.b1]
    rw [digs_len]
    exact Ev.ff (decide_eq_false (by omega)) Ev.ret
  | m + 1, i, h => by
    refine Ev.succ (f := fun k => cavilref07_minus.b1 k (cavilref07_minus.go k) (digs a) (digs b) (toB B16 i (a - b)) _ (i : Int)) ?_ (fun k => rfl)
    simp only [cavilref07_minus.b1]
    have ih := minus_go' a b hb hn m (i + 1) (by omega)
    have hc := carry_le B16 b (a - b) i (by decide)
    have hc2 := carry_le B16 b (a - b) (i + 1) (by decide)
    have hsd := sum_dig B16 b (a - b) i (by decide)
    have hst := (sum_step B16 b (a - b) i (by decide)).2
    have happ := toB_app B16 i (a - b)
    rw [Nat.add_sub_cancel' hb] at hsd
    have d1 : a / B16 ^ i % B16 < 65536 := dg_lt _
    have d2 : b / B16 ^ i % B16 < 65536 := dg_lt _
    have d3 : (a - b) / B16 ^ i % B16 < 65536 := dg_lt _
    have e2 : wr .i64 ((i : Int) + 1) = ((i + 1 : Nat) : Int) := by rw [v64 (by omega) (by omega)]; omega
    have hrd := rdig_ev b i
    rw [digs_len, e2, Int.toNat_natCast, digs_get a i (by omega)]
    rw [happ] at ih
    generalize (b % B16 ^ (i + 1) + (a - b) % B16 ^ (i + 1)) / B16 ^ (i + 1) = c' at *
    generalize (b % B16 ^ i + (a - b) % B16 ^ i) / B16 ^ i = c at *
    generalize a / B16 ^ i % B16 = x at *
    generalize b / B16 ^ i % B16 = y at *
    generalize (a - b) / B16 ^ i % B16 = z at *
    have key : y + z + c = x + 65536 * c' := by
      have h1 : (y + z + c) % 65536 = x := hsd
      have h2 : c' = (y + z + c) / 65536 := hst
      omega
    have e3 : wr .i64 ((x : Int) - (y : Int)) = (x : Int) - (y : Int) := v64 (by omega) (by omega)
    have e4 : wr .i64 ((x : Int) - (y : Int) - (c : Int)) = (x : Int) - (y : Int) - (c : Int) := v64 (by omega) (by omega)
    have e5 : wr .i64 ((x : Int) - (y : Int) - (c : Int) + 65536) = (x : Int) - (y : Int) - (c : Int) + 65536 := v64 (by omega) (by omega)
    refine Ev.tt (decide_eq_true (by omega)) (Ev.gk (inB_iff.2 (by omega)) (Ev.bind hrd ?_))
    rw [e3, e4, e5]
    refine Ev.bif (fun h => Ev.gk (room_iff.2 (by rw [List.length_append, toB_len]; simp; omega)) ?_) (fun h => Ev.gk (room_iff.2 (by rw [List.length_append, toB_len]; simp; omega)) ?_)
    · have h := of_decide_eq_true h
      have h1 : c' = 1 := by omega
      subst h1
      rw [show (x : Int) - (y : Int) - (c : Int) + 65536 = (z : Int) by omega]
      exact ih
    · have h := of_decide_eq_false h
      have h1 : c' = 0 := by omega
      subst h1
      rw [show (x : Int) - (y : Int) - (c : Int) = (z : Int) by omega]
      exact ih
theorem rminus_ev (a b : Nat) (hb : b ≤ a) (hn : nd a ≤ 100000) : Ev (fun k => cavilref07_minus.m k (digs a) (digs b)) (toB B16 (nd a) (a - b)) := by
  refine Ev.succ (f := fun k => cavilref07_minus.b0 k (cavilref07_minus.go k) (digs a) (digs b)) ?_ (fun k => rfl)
  have := minus_go' a b hb hn (nd a) 0 (by omega)
  rw [Nat.pow_zero, Nat.mod_one, Nat.mod_one] at this
  exact this
theorem sub_lt (a b : Nat) : a - b < B16 ^ nd a := Nat.lt_of_le_of_lt (Nat.sub_le _ _) (nd_hi a)
theorem rsub_ev (a b : Nat) (hb : b ≤ a) (hn : nd a ≤ 10000) : Ev (fun k => cavilref07_Sub.m k false (digs a) false (digs b)) (false, digs (a - b)) := by
  have hnb := nd_mono hb
  refine Ev.succ (f := fun k => cavilref07_Sub.b0 k false (digs a) false (digs b)) ?_ (fun k => rfl)
  simp only [cavilref07_Sub.b0]
  refine Ev.bind (dtrim_ev b true (by omega)) ?_
  rw [dcut]
  refine Ev.bind (a := (false, digs (a - b))) ?_ Ev.ret
  by_cases h : b = 0
  · subst h
    exact radd_ev a 0 hn (by omega)
  · rw [decide_eq_true h]
    refine Ev.succ (f := fun k => cavilref07_Add.b0 k false (digs a) true (digs b)) ?_ (fun k => rfl)
    simp only [cavilref07_Add.b0]
    have hc : cmpN a b ≥ 0 := by unfold cmpN; rw [if_neg (by omega)]; split <;> omega
    refine Ev.ff rfl (Ev.bind (rorder_ev a b (by omega) (by omega)) (Ev.tt (decide_eq_true hc) (Ev.bind (rminus_ev a b hb (by omega)) (Ev.bind (trim_ev _ _ false (by omega) (sub_lt a b)) (Ev.ret' ?_)))))
    rw [cut_digs _ _ (sub_lt a b)]
    rfl
/-! ### Bits -/
theorem blen_zero : blen 0 = 0 := by
  have := blen_le_of 0 0 (by decide)
  omega
theorem blen_half (t : Nat) (h : t ≠ 0) : blen t = blen (t / 2) + 1 := by
  by_cases h1 : t / 2 = 0
  · have : t = 1 := by omega
    subst this
    have := blen_of 1 1 (by decide) (.inr (by decide))
    rw [this]
    show 1 = blen 0 + 1
    rw [blen_zero]
  · have := blen_shift t 1 (by rw [Nat.pow_one]; exact h1)
    rwa [Nat.pow_one] at this
theorem bits_go (l : List Int) : ∀ (m t n : Nat), t ≤ m → t < 65536 → n + m < 1000000000 → Ev (fun k => cavilref07_Bits.go k (.l1 l (n : Int) (t : Int))) ((n + blen t : Nat) : Int)
  | m, t, n, h, ht, hn => by
    refine Ev.succ (f := fun k => cavilref07_Bits.b1 k (cavilref07_Bits.go k) l (n : Int) (t : Int)) ?_ (fun k => rfl)
    simp only [cavilref07_Bits.b1]
    by_cases h0 : t = 0
    · subst h0
      rw [blen_zero]
      exact Ev.ff rfl Ev.ret
    · obtain ⟨m', rfl⟩ : ∃ m', m = m' + 1 := ⟨m - 1, by omega⟩
      have e1 : wr .i64 ((n : Int) + 1) = ((n + 1 : Nat) : Int) := by rw [v64 (by omega) (by omega)]; omega
      have e2 : quoI .i64 (t : Int) 2 = ((t / 2 : Nat) : Int) := quoN t 2 (by decide) (by omega)
      have ih := bits_go l m' (t / 2) (n + 1) (by omega) (by omega) (by omega)
      rw [e1, e2, blen_half t h0, show n + (blen (t / 2) + 1) = n + 1 + blen (t / 2) by omega]
      exact Ev.tt (decide_eq_true (by omega)) ih
theorem B16_two (n : Nat) : B16 ^ n = 2 ^ (16 * n) := by rw [Nat.pow_mul]
theorem rbits_ev (v : Nat) (hn : nd v ≤ 10000) : Ev (fun k => cavilref07_Bits.m k false (digs v)) (blen v : Int) := by
  refine Ev.succ (f := fun k => cavilref07_Bits.b0 k (cavilref07_Bits.go k) false (digs v)) ?_ (fun k => rfl)
  simp only [cavilref07_Bits.b0]
  rw [digs_len]
  by_cases h0 : v = 0
  · subst h0
    rw [blen_zero]
    exact Ev.tt rfl Ev.ret
  · have hp := nd_pos h0
    obtain ⟨n, hnn⟩ : ∃ n, nd v = n + 1 := ⟨nd v - 1, by omega⟩
    have e1 : wr .i64 ((nd v : Int) - 1) = (n : Int) := by rw [v64 (by omega) (by omega)]; omega
    have e2 : wr .i64 (16 * (n : Int)) = ((16 * n : Nat) : Int) := by rw [v64 (by omega) (by omega)]; omega
    have hlo := nd_lo v hp
    rw [hnn, Nat.add_sub_cancel] at hlo
    have hhi := nd_hi v
    rw [hnn, Nat.pow_succ] at hhi
    have hq : v / B16 ^ n % B16 = v / B16 ^ n := Nat.mod_eq_of_lt ((Nat.div_lt_iff_lt_mul (B16_pos n)).2 (by rw [Nat.mul_comm]; exact hhi))
    have hq1 : v / B16 ^ n < 65536 := by rw [← hq]; exact dg_lt _
    have hq0 : v / B16 ^ n ≠ 0 := by
      have := Nat.div_pos hlo (B16_pos n)
      omega
    rw [e1, e2, Int.toNat_natCast, digs_get v n (by omega), hq]
    have hbs := blen_shift v (16 * n) (by rw [← B16_two]; exact hq0)
    rw [← B16_two] at hbs
    have := bits_go (digs v) 65536 (v / B16 ^ n) (16 * n) (by omega) hq1 (by omega)
    rw [show 16 * n + blen (v / B16 ^ n) = blen v by omega] at this
    refine Ev.ff ?_ (Ev.gk (inB_iff.2 (by omega)) this)
    rw [beq_dec]
    exact decide_eq_false (by omega)
theorem shl_tab : (List.range 16).all (fun r => shlI .i64 1 (r : Int) == ((2 ^ r : Nat) : Int)) = true := by kernel_rfl
theorem shl_one (r : Nat) (h : r < 16) : shlI .i64 1 (r : Int) = ((2 ^ r : Nat) : Int) := by
  have := List.all_eq_true.1 shl_tab r (by simp; omega)
  simpa using this
theorem toB_one (N i x : Nat) (hi : i < N) (hx : x < B16) : (List.replicate N (0 : Int)).set i (x : Int) = toB B16 N (x * B16 ^ i) := by
  have := toB_set B16 (by decide) N i 0 0 x 0 hi (B16_pos i) (by decide) hx
  simp only [Nat.mul_zero, Nat.add_zero, Nat.zero_mul, Nat.zero_add, toB_zero] at this
  exact this
theorem two16 {r : Nat} (h : r < 16) : 2 ^ r < 65536 := Nat.lt_of_lt_of_le (Nat.pow_lt_pow_right (by decide) h) (by decide)
theorem pow_split (n : Nat) : 2 ^ (n % 16) * B16 ^ (n / 16) = 2 ^ n := by
  rw [B16_two, ← Nat.pow_add]
  congr 1
  omega
theorem rpower_ev (n : Nat) (hn : n ≤ 100000) : Ev (fun k => cavilref07_Power.m k (n : Int)) (false, digs (2 ^ n)) := by
  refine Ev.succ (f := fun k => cavilref07_Power.b0 k (n : Int)) ?_ (fun k => rfl)
  simp only [cavilref07_Power.b0]
  have e1 : quoI .i64 (n : Int) 16 = ((n / 16 : Nat) : Int) := quoN n 16 (by decide) (by omega)
  have e2 : remI (n : Int) 16 = ((n % 16 : Nat) : Int) := remN n 16
  have e3 : wr .i64 (((n / 16 : Nat) : Int) + 1) = ((n / 16 + 1 : Nat) : Int) := by rw [v64 (by omega) (by omega)]; omega
  have hr : n % 16 < 16 := Nat.mod_lt _ (by decide)
  rw [e1, e2, e3, Int.toNat_natCast, Int.toNat_natCast, shl_one _ hr, toB_one _ _ _ (by omega) (two16 hr), pow_split]
  have hlt : 2 ^ n < B16 ^ (n / 16 + 1) := by
    rw [B16_two]
    exact Nat.pow_lt_pow_right (by decide) (by omega)
  refine Ev.gk ?_ (Ev.gk (decide_eq_true (by omega)) (Ev.gk (inB_iff.2 (by rw [List.length_replicate]; omega)) (Ev.bind (trim_ev _ _ false (by omega) hlt) (Ev.ret' ?_))))
  · rw [show nn ((n / 16 + 1 : Nat) : Int) = true from decide_eq_true (by omega), beq_self_eq_true, room_iff.2 (by omega)]
    rfl
  · rw [cut_digs _ _ hlt]
    rfl
/-! ### Quotients -/
theorem divcol (A A' b x : Nat) (hb : 0 < b) (hx : A' = 2 * A + x) (hx2 : x < 2) :
    A' % b = (if b ≤ 2 * (A % b) + x then 2 * (A % b) + x - b else 2 * (A % b) + x) ∧ A' / b = 2 * (A / b) + (if b ≤ 2 * (A % b) + x then 1 else 0) := by
  have h1 := Nat.mod_add_div A b
  have h2 := Nat.mod_lt A hb
  subst hx
  generalize A / b = q at *
  generalize A % b = r at *
  have hc : b * q = q * b := Nat.mul_comm _ _
  by_cases h : b ≤ 2 * r + x
  · rw [if_pos h, if_pos h]
    refine dm_uniq (m := b) ?_ (by omega)
    rw [Nat.add_mul, Nat.mul_assoc]
    omega
  · rw [if_neg h, if_neg h]
    refine dm_uniq (m := b) ?_ (by omega)
    rw [Nat.add_zero, Nat.mul_assoc]
    omega
end Go.Proofs.YtaakccdfgejgpaaGreatDoor.Pure
namespace Go.Proofs.YtaakccdfgejgpaaGreatDoor.Pure
open Go Abs
set_option linter.unusedVariables false
set_option linter.unusedSimpArgs false

theorem shr64 (a s : Nat) (hs : s ≤ 64) : shrI .i64 (a : Int) (s : Int) = ((a / 2 ^ s : Nat) : Int) := by
  have e : shrI .i64 (a : Int) (s : Int) = (a : Int).fdiv (2 ^ s) := by
    unfold shrI
    rw [Int.toNat_natCast, show min s (IntKind.bits .i64) = s from Nat.min_eq_left hs]
  rw [e, Int.fdiv_eq_ediv_of_nonneg _ (Int.le_of_lt (Int.pow_pos (by decide)))]
  simp
theorem bit_at (a i x : Nat) (hx : x < 16) : a / B16 ^ i % B16 / 2 ^ x % 2 = a / 2 ^ (16 * i + x) % 2 := by
  have h1 : (B16 : Nat) = 2 ^ x * 2 ^ (16 - x) := by rw [← Nat.pow_add, show x + (16 - x) = 16 by omega]
  have h2 : a / B16 ^ i % B16 / 2 ^ x = a / B16 ^ i / 2 ^ x % 2 ^ (16 - x) := by rw [h1, Nat.mod_mul_right_div_self]
  rw [h2, Nat.mod_mod_of_dvd _ (by
    rw [show 16 - x = (15 - x) + 1 by omega, Nat.pow_succ]
    exact ⟨2 ^ (15 - x), Nat.mul_comm _ _⟩), Nat.div_div_eq_div_mul, B16_two, ← Nat.pow_add]
theorem quo_bit (c i x : Nat) (hx : x < 16) : c * 2 ^ (16 * i + (x + 1)) / B16 ^ i % B16 + 2 ^ x < B16 := by
  have h1 : c * 2 ^ (16 * i + (x + 1)) / B16 ^ i = c * 2 ^ (x + 1) := by
    rw [B16_two, Nat.pow_add, Nat.mul_comm (2 ^ (16 * i)), ← Nat.mul_assoc, Nat.mul_div_cancel _ (Nat.pow_pos (by decide))]
  have h2 : (B16 : Nat) = 2 ^ (15 - x) * 2 ^ (x + 1) := by rw [← Nat.pow_add, show 15 - x + (x + 1) = 16 by omega]
  rw [h1]
  have h3 : c * 2 ^ (x + 1) % B16 = c % 2 ^ (15 - x) * 2 ^ (x + 1) := by
    rw [h2, Nat.mul_mod_mul_right]
  have h4 : c % 2 ^ (15 - x) < 2 ^ (15 - x) := Nat.mod_lt _ (Nat.pow_pos (by decide))
  have h5 : (c % 2 ^ (15 - x) + 1) * 2 ^ (x + 1) ≤ 2 ^ (15 - x) * 2 ^ (x + 1) := Nat.mul_le_mul_right _ h4
  rw [← h2, Nat.add_mul, Nat.pow_succ] at h5
  have h6 : 0 < 2 ^ x := Nat.pow_pos (by decide)
  rw [h3, Nat.pow_succ]
  omega
theorem digs_one : digs 1 = [1] := rfl
theorem i64_and_one (a : Nat) (ha : a < 65536) : Go.bits .and .i64 (a : Int) 1 = ((a &&& 1 : Nat) : Int) := by
  have hx : a &&& 1 < 2 ^ 1 := Nat.and_lt_two_pow _ (by omega)
  show IntKind.i64.wrap ((BitVec.ofInt 64 (a : Int) &&& BitVec.ofInt 64 ((1 : Nat) : Int)).toNat : Int) = _
  rw [BitVec.toNat_and, ofInt_u64 a (by omega), ofInt_u64 1 (by omega)]
  exact v64 (by omega) (by omega)
def oneB (v : Nat) : Bool := Go.bits .and .i64 (v : Int) 1 == 1
theorem oneB_eq (v : Nat) (h : v < 65536) : oneB v = decide (v % 2 = 1) := by
  have e : Go.bits .and .i64 (v : Int) 1 = ((v % 2 : Nat) : Int) := by
    have h1 := i64_and_one v h
    rw [Nat.and_one_is_mod] at h1
    exact h1
  unfold oneB
  rw [e, beq_dec, decide_eq_decide]
  omega
theorem div_in (a b i : Nat) (hb : 0 < b) (hi : i < nd a) (ha : nd a ≤ 1000) (hb2 : nd b ≤ 1000) {r : Bool × Bool × List Int × List Int}
    (hcont : Ev (fun k => cavilref07_Div.go k (.l1 (digs a) (digs b) false false [] false [] false (digs (a / 2 ^ (16 * i) % b)) (toB B16 (nd a) (a / 2 ^ (16 * i) / b * 2 ^ (16 * i))) ((i : Int) - 1))) r) :
    ∀ (y : Nat), y ≤ 16 → Ev (fun k => cavilref07_Div.go k (.l2 (digs a) (digs b) false false [] false [] false (digs (a / 2 ^ (16 * i + y) % b)) (toB B16 (nd a) (a / 2 ^ (16 * i + y) / b * 2 ^ (16 * i + y))) (i : Int) ((y : Int) - 1))) r
  | 0, _ => by
    refine Ev.succ (f := fun k => cavilref07_Div.b2 k (cavilref07_Div.go k) (digs a) (digs b) false false [] false [] false _ _ (i : Int) ((0 : Nat) - 1)) ?_ (fun k => rfl)
    simp only [cavilref07_Div.b2]
    rw [v64 (by omega) (by omega)]
    exact Ev.ff rfl hcont
  | x + 1, hx => by
    have e0 : ((x + 1 : Nat) : Int) - 1 = x := by omega
    rw [e0]
    have ih := div_in a b i hb hi ha hb2 hcont x (by omega)
    refine Ev.succ (f := fun k => cavilref07_Div.b2 k (cavilref07_Div.go k) (digs a) (digs b) false false [] false [] false _ _ (i : Int) (x : Int)) ?_ (fun k => rfl)
    simp only [cavilref07_Div.b2]
    have hsh := shr64 (a / B16 ^ i % B16) x (by omega)
    have hbit := bit_at a i x (by omega)
    have hqb := quo_bit (a / 2 ^ (16 * i + (x + 1)) / b) i x (by omega)
    have hadd := toB_add B16 (by decide) (nd a) i (a / 2 ^ (16 * i + (x + 1)) / b * 2 ^ (16 * i + (x + 1))) (2 ^ x) hi hqb
    have hd16 : a / B16 ^ i % B16 / 2 ^ x < 65536 := Nat.lt_of_le_of_lt (Nat.div_le_self _ _) (dg_lt _)
    have hA : a / 2 ^ (16 * i + x) = 2 * (a / 2 ^ (16 * i + (x + 1))) + a / 2 ^ (16 * i + x) % 2 := by
      have : a / 2 ^ (16 * i + (x + 1)) = a / 2 ^ (16 * i + x) / 2 := by rw [show 16 * i + (x + 1) = 16 * i + x + 1 by omega, Nat.pow_succ, Nat.div_div_eq_div_mul]
      omega
    have hdc := divcol _ _ b _ hb hA (Nat.mod_lt _ (by decide))
    have hrlt := Nat.mod_lt (a / 2 ^ (16 * i + (x + 1))) hb
    have hpw : 2 ^ (16 * i + (x + 1)) = 2 * 2 ^ (16 * i + x) := by rw [show 16 * i + (x + 1) = 16 * i + x + 1 by omega, Nat.pow_succ, Nat.mul_comm]
    have hpx : 2 ^ x * B16 ^ i = 2 ^ (16 * i + x) := by rw [B16_two, ← Nat.pow_add, Nat.add_comm]
    have hgetq := toB_get B16 (nd a) (a / 2 ^ (16 * i + (x + 1)) / b * 2 ^ (16 * i + (x + 1))) i hi
    have h2x := two16 (r := x) (by omega)
    rw [hpx] at hadd
    have e11 : wr .i64 ((x : Int) - 1) = (x : Int) - 1 := v64 (by omega) (by omega)
    have hlt0 : nd (a / 2 ^ (16 * i + (x + 1)) % b) ≤ 1000 := Nat.le_trans (nd_mono (Nat.le_of_lt hrlt)) hb2
    rw [Int.toNat_natCast, digs_get a i hi, hsh]
    generalize a / 2 ^ (16 * i + x) % 2 = u at *
    generalize a / 2 ^ (16 * i + (x + 1)) % b = s at *
    generalize hqq : a / 2 ^ (16 * i + (x + 1)) / b = q at *
    have hu : u < 2 := by omega
    have hs2 : nd (s + s) ≤ 1001 := nd_addle s s 1000 hlt0 hlt0
    have l3 : Ev (fun k => cavilref07_Div.go k (.l3 (digs a) (digs b) false false [] false [] false (digs (2 * s + u)) (toB B16 (nd a) (q * 2 ^ (16 * i + (x + 1)))) (i : Int) (x : Int))) r := by
      refine Ev.succ (f := fun k => cavilref07_Div.b3 k (cavilref07_Div.go k) (digs a) (digs b) false false [] false [] false (digs (2 * s + u)) _ (i : Int) (x : Int)) ?_ (fun k => rfl)
      simp only [cavilref07_Div.b3]
      have hn1 : nd (2 * s + u) ≤ 1002 := by
        have := nd_addle (s + s) u 1001 hs2 (Nat.le_trans (nd_one (by omega)) (by decide))
        rwa [show s + s + u = 2 * s + u by omega] at this
      rw [e11, Int.toNat_natCast, shl_one x (by omega), hgetq]
      rw [hdc.1, hdc.2] at ih
      refine Ev.bind (rorder_ev _ b (by omega) (by omega)) (Ev.bif (fun h => ?_) (fun h => ?_))
      · have h := of_decide_eq_true h
        have hle : b ≤ 2 * s + u := by
          unfold cmpN at h
          refine Nat.le_of_not_lt fun hlt => ?_
          rw [if_pos hlt] at h
          omega
        rw [if_pos hle, if_pos hle] at ih
        have hsl := sub_lt (2 * s + u) b
        refine Ev.bind (rminus_ev _ b hle (by omega)) (Ev.bind (trim_ev _ _ false (by omega) hsl) (Ev.gk (inB_iff.2 (by rw [toB_len]; omega)) (Ev.gk (decide_eq_true (by omega)) (Ev.gk (inB_iff.2 (by rw [toB_len]; omega)) ?_))))
        rw [cut_digs _ _ hsl]
        have hqb' : q * 2 ^ (16 * i + (x + 1)) / B16 ^ i % B16 + 2 ^ x < 65536 := hqb
        generalize q * 2 ^ (16 * i + (x + 1)) / B16 ^ i % B16 = w at hqb' hadd ⊢
        generalize 2 ^ x = z at hqb' hadd h2x ⊢
        rw [addN, v64 (by omega) (by omega), hadd, hpw]
        rwa [show q * (2 * 2 ^ (16 * i + x)) + 2 ^ (16 * i + x) = (2 * q + 1) * 2 ^ (16 * i + x) by grind]
      · have h := of_decide_eq_false h
        have hle : ¬ b ≤ 2 * s + u := by
          intro hle
          refine h ?_
          unfold cmpN
          rw [if_neg (by omega)]
          split <;> omega
        rw [if_neg hle, if_neg hle] at ih
        rw [hpw]
        rwa [show q * (2 * 2 ^ (16 * i + x)) = (2 * q + 0) * 2 ^ (16 * i + x) by grind]
    refine Ev.tt (decide_eq_true (by omega)) (Ev.bind (rplus_ev s s (by omega) (by omega)) (Ev.bind (dtrim_ev _ false (by omega)) (Ev.gk (inB_iff.2 (by rw [digs_len]; omega)) (Ev.gk (decide_eq_true (by omega)) ?_))))
    rw [dcut]
    have hone : (Go.bits .and .i64 ((a / B16 ^ i % B16 / 2 ^ x : Nat) : Int) 1 == 1) = decide (u = 1) := by
      have := oneB_eq _ hd16
      rw [hbit] at this
      exact this
    rw [hone]
    refine Ev.bif (fun h => ?_) (fun h => ?_)
    · have h := of_decide_eq_true h
      subst h
      have := rplus_ev (s + s) 1 (by omega) (by decide)
      rw [digs_one, show s + s + 1 = 2 * s + 1 by omega] at this
      exact Ev.bind this l3
    · have h := of_decide_eq_false h
      have h0 : u = 0 := by omega
      subst h0
      rw [show s + s = 2 * s + 0 by omega]
      exact l3
theorem div_go (a b : Nat) (hb : 0 < b) (ha : nd a ≤ 1000) (hb2 : nd b ≤ 1000) : ∀ (i : Nat), i ≤ nd a →
    Ev (fun k => cavilref07_Div.go k (.l1 (digs a) (digs b) false false [] false [] false (digs (a / 2 ^ (16 * i) % b)) (toB B16 (nd a) (a / 2 ^ (16 * i) / b * 2 ^ (16 * i))) ((i : Int) - 1))) (false, false, digs (a / b), digs (a % b))
  | 0, _ => by
    refine Ev.succ (f := fun k => cavilref07_Div.b1 k (cavilref07_Div.go k) (digs a) (digs b) false false [] false [] false _ _ ((0 : Nat) - 1)) ?_ (fun k => rfl)
    simp only [cavilref07_Div.b1]
    have e1 : a / 2 ^ (16 * 0) = a := by rw [Nat.mul_zero, Nat.pow_zero, Nat.div_one]
    rw [e1, Nat.mul_zero, Nat.pow_zero, Nat.mul_one]
    have hq : a / b < B16 ^ nd a := Nat.lt_of_le_of_lt (Nat.div_le_self _ _) (nd_hi a)
    have hr : nd (a % b) ≤ 1000 := Nat.le_trans (nd_mono (Nat.mod_le _ _)) ha
    refine Ev.ff rfl (Ev.bind (trim_ev _ _ false (by omega) hq) (Ev.bind (dtrim_ev _ false (by omega)) (Ev.ret' ?_)))
    rw [cut_digs _ _ hq, dcut]
    rfl
  | i + 1, hi => by
    have e0 : ((i + 1 : Nat) : Int) - 1 = i := by omega
    rw [e0]
    refine Ev.succ (f := fun k => cavilref07_Div.b1 k (cavilref07_Div.go k) (digs a) (digs b) false false [] false [] false _ _ (i : Int)) ?_ (fun k => rfl)
    simp only [cavilref07_Div.b1]
    exact Ev.tt (decide_eq_true (by omega)) (div_in a b i hb (by omega) ha hb2 (div_go a b hb ha hb2 i (by omega)) 16 (by decide))
theorem rdiv_ev (a b : Nat) (hb : b ≠ 0) (ha : nd a ≤ 1000) (hb2 : nd b ≤ 1000) : Ev (fun k => cavilref07_Div.m k false (digs a) false (digs b)) (false, false, digs (a / b), digs (a % b)) := by
  refine Ev.succ (f := fun k => cavilref07_Div.b0 k (cavilref07_Div.go k) false (digs a) false (digs b)) ?_ (fun k => rfl)
  simp only [cavilref07_Div.b0]
  have := div_go a b (by omega) ha hb2 (nd a) (Nat.le_refl _)
  rw [← B16_two, Nat.div_eq_of_lt (nd_hi a), Nat.zero_mod, Nat.zero_div, Nat.zero_mul, toB_zero] at this
  rw [digs_len, Int.toNat_natCast, v64 (by omega) (by omega)]
  refine Ev.gk ?_ this
  rw [show nn (nd a : Int) = true from decide_eq_true (by omega), beq_self_eq_true, room_iff.2 (by omega)]
  rfl
/-! ### The common divisor -/
def Rep (X Y a b : Nat) : cavilref07_Gcd.St → Prop
  | .l1 x0 x1 _ _ x4 x5 x6 x7 x8 x9 => x0 = digs X ∧ x1 = digs Y ∧ x4 = false ∧ x7 = false ∧ cut (digs X) x5 x6 = digs a ∧ cut (digs Y) x8 x9 = digs b
  | .l2 x0 x1 _ _ x4 x5 x6 x7 x8 x9 => x0 = digs X ∧ x1 = digs Y ∧ x4 = false ∧ x7 = false ∧ cut (digs Y) x5 x6 = digs a ∧ cut (digs X) x8 x9 = digs b
  | .l3 x0 x1 _ _ x4 x5 x6 x7 x8 => x0 = digs X ∧ x1 = digs Y ∧ x4 = false ∧ x8 = false ∧ cut (digs Y) x5 x6 = digs a ∧ x7 = digs b
  | .l4 x0 x1 _ _ x4 x5 x6 x7 x8 => x0 = digs X ∧ x1 = digs Y ∧ x4 = false ∧ x8 = false ∧ cut (digs X) x5 x6 = digs a ∧ x7 = digs b
  | .l5 x0 x1 _ _ x4 x5 x6 x7 x8 => x0 = digs X ∧ x1 = digs Y ∧ x5 = false ∧ x6 = false ∧ x4 = digs a ∧ cut (digs Y) x7 x8 = digs b
  | .l6 x0 x1 _ _ x4 x5 x6 x7 => x0 = digs X ∧ x1 = digs Y ∧ x5 = false ∧ x7 = false ∧ x4 = digs a ∧ x6 = digs b
  | .l7 x0 x1 _ _ x4 x5 x6 x7 x8 => x0 = digs X ∧ x1 = digs Y ∧ x5 = false ∧ x6 = false ∧ x4 = digs a ∧ cut (digs X) x7 x8 = digs b
def OutG (X Y g : Nat) : cavilref07_Gcd.Rs → Prop
  | .r1 y0 y1 y2 => y0 = false ∧ cut (digs X) y1 y2 = digs g
  | .r2 y0 y1 y2 => y0 = false ∧ cut (digs Y) y1 y2 = digs g
  | .r3 y0 y1 => y0 = false ∧ y1 = digs g
def gbody (k : Nat) (fA : Bool) (A : List Int) (fB : Bool) (B : List Int) (sw out : Option cavilref07_Gcd.Rs) (cont : List Int → Bool → Option cavilref07_Gcd.Rs) : Option cavilref07_Gcd.Rs :=
  bif (decide ((B.length : Int) > 0)) then
    bindO (cavilref07_Order.m k A B) fun r1 =>
      bif (decide (r1 < 0)) then
        sw
      else
        bindO (cavilref07_Bits.m k fA A) fun r2 =>
          bindO (cavilref07_Bits.m k fB B) fun r3 =>
            bindO (cavilref07_Power.m k (wr .i64 (r2 - r3))) fun r4 =>
              bindO (cavilref07_Mul.m k fB B r4.1 r4.2) fun r5 =>
                bindO (cavilref07_Order.m k r5.2 A) fun r6 =>
                  bif (decide (r6 > 0)) then
                    bindO (cavilref07_Power.m k (wr .i64 ((wr .i64 (r2 - r3)) - 1))) fun r7 =>
                      bindO (cavilref07_Mul.m k fB B r7.1 r7.2) fun r8 =>
                        bindO (cavilref07_Sub.m k fA A r8.1 r8.2) fun r9 =>
                          cont r9.2 r9.1
                  else
                    bindO (cavilref07_Sub.m k fA A r5.1 r5.2) fun r10 =>
                      cont r10.2 r10.1
  else
    out
def ExEv {α : Type} (P : α → Prop) (f : Nat → Option α) : Prop := ∃ r, P r ∧ Ev f r
theorem ExEv.up {α : Type} {P : α → Prop} {f g : Nat → Option α} (h : ExEv P f) (e : ∀ k, g (k + 1) = f k) : ExEv P g := by
  obtain ⟨r, h1, h2⟩ := h
  exact ⟨r, h1, Ev.succ h2 e⟩
theorem blen_nd (a N : Nat) (ha : nd a ≤ N) : blen a ≤ 16 * N := by
  refine blen_le_of a (16 * N) ?_
  have := Nat.lt_of_lt_of_le (nd_hi a) (pow16_le ha)
  rwa [B16_two] at this
theorem nd_pow (n N : Nat) (h : n ≤ 16 * N) : nd (2 ^ n) ≤ N + 1 := by
  refine nd_le ?_
  rw [B16_two]
  exact Nat.pow_lt_pow_right (by decide) (by omega)
theorem gstep {P : cavilref07_Gcd.Rs → Prop} {sw out : Nat → Option cavilref07_Gcd.Rs} {cont : Nat → List Int → Bool → Option cavilref07_Gcd.Rs} (a b : Nat) (ha : nd a ≤ 1000) (hb : nd b ≤ 1000)
    (h0 : b = 0 → ExEv P out) (h1 : a < b → ExEv P sw) (h2 : ∀ d m, b ≠ 0 → 0 < m → a = d + m * b → ExEv P (fun k => cont k (digs d) false)) :
    ExEv P (fun k => gbody k false (digs a) false (digs b) (sw k) (out k) (cont k)) := by
  by_cases hb0 : b = 0
  · obtain ⟨r, p, h⟩ := h0 hb0
    refine ⟨r, p, ?_⟩
    subst hb0
    exact Ev.ff rfl h
  · have hbl : decide (((digs b).length : Int) > 0) = true := by
      rw [digs_len]
      have := nd_pos hb0
      exact decide_eq_true (by omega)
    by_cases hlt : a < b
    · obtain ⟨r, p, h⟩ := h1 hlt
      refine ⟨r, p, Ev.tt hbl (Ev.bind (rorder_ev a b (by omega) (by omega)) (Ev.tt ?_ h))⟩
      unfold cmpN
      rw [if_pos hlt]
      rfl
    · have ha0 : a ≠ 0 := by omega
      have hab : nd b ≤ nd a := nd_mono (by omega)
      have la := blen_nd a 1000 ha
      have lb := blen_nd b 1000 hb
      have a1 := blen_le a ha0
      have b1 := blen_le b hb0
      have a2 := blen_lt a
      have b2 := blen_lt b
      have hle : blen b ≤ blen a := by
        refine Nat.le_of_not_lt fun h => ?_
        have : 2 ^ blen a ≤ 2 ^ (blen b - 1) := Nat.pow_le_pow_right (by decide) (by omega)
        omega
      have e1 : wr .i64 ((blen a : Int) - (blen b : Int)) = ((blen a - blen b : Nat) : Int) := by rw [v64 (by omega) (by omega)]; omega
      have hcf : decide (cmpN a b < 0) = false := by
        refine decide_eq_false ?_
        unfold cmpN
        rw [if_neg hlt]
        split <;> omega
      have hp := nd_pow (blen a - blen b) 1000 (by omega)
      have hmul := nd_mul b (2 ^ (blen a - blen b))
      by_cases hov : a < b * 2 ^ (blen a - blen b)
      · have hk : blen a - blen b ≠ 0 := by
          intro e
          rw [e, Nat.pow_zero, Nat.mul_one] at hov
          omega
        have e2 : wr .i64 (((blen a - blen b : Nat) : Int) - 1) = ((blen a - blen b - 1 : Nat) : Int) := by rw [v64 (by omega) (by omega)]; omega
        have hp2 := nd_pow (blen a - blen b - 1) 1000 (by omega)
        have hmul2 := nd_mul b (2 ^ (blen a - blen b - 1))
        have hfit : b * 2 ^ (blen a - blen b - 1) ≤ a := by
          have h3 : b * 2 ^ (blen a - blen b - 1) ≤ 2 ^ blen b * 2 ^ (blen a - blen b - 1) := Nat.mul_le_mul_right _ (Nat.le_of_lt b2)
          rw [← Nat.pow_add, show blen b + (blen a - blen b - 1) = blen a - 1 by omega] at h3
          exact Nat.le_trans h3 a1.1
        obtain ⟨r, p, h⟩ := h2 (a - b * 2 ^ (blen a - blen b - 1)) (2 ^ (blen a - blen b - 1)) hb0 (Nat.pow_pos (by decide)) (by rw [Nat.mul_comm (2 ^ _)]; omega)
        refine ⟨r, p, Ev.tt hbl (Ev.bind (rorder_ev a b (by omega) (by omega)) (Ev.ff hcf (Ev.bind (rbits_ev a (by omega)) (Ev.bind (rbits_ev b (by omega)) ?_))))⟩
        rw [e1, e2]
        refine Ev.bind (rpower_ev _ (by omega)) (Ev.bind (rrmul_ev b _ (by omega) (by omega)) (Ev.bind (rorder_ev _ a (by omega) (by omega)) (Ev.tt ?_ (Ev.bind (rpower_ev _ (by omega)) (Ev.bind (rrmul_ev b _ (by omega) (by omega)) (Ev.bind (rsub_ev a _ hfit (by omega)) h))))))
        unfold cmpN
        rw [if_neg (by omega), if_pos hov]
        rfl
      · obtain ⟨r, p, h⟩ := h2 (a - b * 2 ^ (blen a - blen b)) (2 ^ (blen a - blen b)) hb0 (Nat.pow_pos (by decide)) (by rw [Nat.mul_comm (2 ^ _)]; omega)
        refine ⟨r, p, Ev.tt hbl (Ev.bind (rorder_ev a b (by omega) (by omega)) (Ev.ff hcf (Ev.bind (rbits_ev a (by omega)) (Ev.bind (rbits_ev b (by omega)) ?_))))⟩
        rw [e1]
        refine Ev.bind (rpower_ev _ (by omega)) (Ev.bind (rrmul_ev b _ (by omega) (by omega)) (Ev.bind (rorder_ev _ a (by omega) (by omega)) (Ev.ff ?_ (Ev.bind (rsub_ev a _ (by omega) (by omega)) h))))
        refine decide_eq_false ?_
        unfold cmpN
        split <;> (try split) <;> omega
end Go.Proofs.YtaakccdfgejgpaaGreatDoor.Pure
namespace Go.Proofs.YtaakccdfgejgpaaGreatDoor.Pure
open Go Abs
set_option linter.unusedVariables false
set_option linter.unusedSimpArgs false

theorem gcd_step (a b d m : Nat) (h : a = d + m * b) : Nat.gcd b d = Nat.gcd a b := by
  rw [Nat.gcd_comm a b, Nat.gcd_rec b a, Nat.gcd_rec b d, h, Nat.add_mul_mod_self_right]
/-- How far a pair is from the end. -/
def far (a b : Nat) : Nat := 2 * (a + b) + if a < b then 1 else 0
theorem far_sw (a b : Nat) (h : a < b) : far b a < far a b := by
  unfold far
  rw [if_pos h, if_neg (by omega)]
  omega
theorem far_st (a b d m : Nat) (hb : b ≠ 0) (hm : 0 < m) (h : a = d + m * b) : far b d < far a b := by
  have h1 : 1 * b ≤ m * b := Nat.mul_le_mul_right _ hm
  unfold far
  split <;> split <;> omega
theorem gcd_run (X Y : Nat) : ∀ (n : Nat) (s : cavilref07_Gcd.St) (a b : Nat), Rep X Y a b s → nd a ≤ 1000 → nd b ≤ 1000 → far a b ≤ n → ExEv (OutG X Y (Nat.gcd a b)) (fun k => cavilref07_Gcd.go k s)
  | 0, s, a, b, hr, ha, hb, hn => by
    have hz : a = 0 ∧ b = 0 := by unfold far at hn; omega
    obtain ⟨rfl, rfl⟩ := hz
    cases s with
    | l1 x0 x1 x2 x3 x4 x5 x6 x7 x8 x9 =>
      obtain ⟨rfl, rfl, rfl, rfl, h1, h2⟩ := hr
      refine ⟨.r1 false x5 x6, ⟨rfl, h1⟩, Ev.succ (f := fun k => cavilref07_Gcd.b1 k (cavilref07_Gcd.go k) (digs X) (digs Y) x2 x3 false x5 x6 false x8 x9) ?_ (fun k => rfl)⟩
      simp only [cavilref07_Gcd.b1]
      rw [h2]
      exact Ev.ff rfl Ev.ret
    | l2 x0 x1 x2 x3 x4 x5 x6 x7 x8 x9 =>
      obtain ⟨rfl, rfl, rfl, rfl, h1, h2⟩ := hr
      refine ⟨.r2 false x5 x6, ⟨rfl, h1⟩, Ev.succ (f := fun k => cavilref07_Gcd.b2 k (cavilref07_Gcd.go k) (digs X) (digs Y) x2 x3 false x5 x6 false x8 x9) ?_ (fun k => rfl)⟩
      simp only [cavilref07_Gcd.b2]
      rw [h2]
      exact Ev.ff rfl Ev.ret
    | l3 x0 x1 x2 x3 x4 x5 x6 x7 x8 =>
      obtain ⟨rfl, rfl, rfl, rfl, h1, rfl⟩ := hr
      exact ⟨.r2 false x5 x6, ⟨rfl, h1⟩, Ev.succ (f := fun k => cavilref07_Gcd.b3 k (cavilref07_Gcd.go k) (digs X) (digs Y) x2 x3 false x5 x6 (digs 0) false) (Ev.ff rfl Ev.ret) (fun k => rfl)⟩
    | l4 x0 x1 x2 x3 x4 x5 x6 x7 x8 =>
      obtain ⟨rfl, rfl, rfl, rfl, h1, rfl⟩ := hr
      exact ⟨.r1 false x5 x6, ⟨rfl, h1⟩, Ev.succ (f := fun k => cavilref07_Gcd.b4 k (cavilref07_Gcd.go k) (digs X) (digs Y) x2 x3 false x5 x6 (digs 0) false) (Ev.ff rfl Ev.ret) (fun k => rfl)⟩
    | l5 x0 x1 x2 x3 x4 x5 x6 x7 x8 =>
      obtain ⟨rfl, rfl, rfl, rfl, rfl, h2⟩ := hr
      refine ⟨.r3 false (digs 0), ⟨rfl, rfl⟩, Ev.succ (f := fun k => cavilref07_Gcd.b5 k (cavilref07_Gcd.go k) (digs X) (digs Y) x2 x3 (digs 0) false false x7 x8) ?_ (fun k => rfl)⟩
      simp only [cavilref07_Gcd.b5]
      rw [h2]
      exact Ev.ff rfl Ev.ret
    | l6 x0 x1 x2 x3 x4 x5 x6 x7 =>
      obtain ⟨rfl, rfl, rfl, rfl, rfl, rfl⟩ := hr
      exact ⟨.r3 false (digs 0), ⟨rfl, rfl⟩, Ev.succ (f := fun k => cavilref07_Gcd.b6 k (cavilref07_Gcd.go k) (digs X) (digs Y) x2 x3 (digs 0) false (digs 0) false) (Ev.ff rfl Ev.ret) (fun k => rfl)⟩
    | l7 x0 x1 x2 x3 x4 x5 x6 x7 x8 =>
      obtain ⟨rfl, rfl, rfl, rfl, rfl, h2⟩ := hr
      refine ⟨.r3 false (digs 0), ⟨rfl, rfl⟩, Ev.succ (f := fun k => cavilref07_Gcd.b7 k (cavilref07_Gcd.go k) (digs X) (digs Y) x2 x3 (digs 0) false false x7 x8) ?_ (fun k => rfl)⟩
      simp only [cavilref07_Gcd.b7]
      rw [h2]
      exact Ev.ff rfl Ev.ret
  | n + 1, s, a, b, hr, ha, hb, hn => by
    have O : ∀ {o : cavilref07_Gcd.Rs}, OutG X Y a o → b = 0 → ExEv (OutG X Y (Nat.gcd a b)) (fun _ => some o) := by
      intro o ho hb0
      subst hb0
      rw [Nat.gcd_zero_right]
      exact ⟨o, ho, Ev.ret⟩
    have S : ∀ s', Rep X Y b a s' → a < b → ExEv (OutG X Y (Nat.gcd a b)) (fun k => cavilref07_Gcd.go k s') := by
      intro s' hr' hlt
      have := gcd_run X Y n s' b a hr' hb ha (by have := far_sw a b hlt; omega)
      rwa [Nat.gcd_comm] at this
    have D : ∀ (d m : Nat), b ≠ 0 → 0 < m → a = d + m * b → ∀ s', Rep X Y b d s' → ExEv (OutG X Y (Nat.gcd a b)) (fun k => cavilref07_Gcd.go k s') := by
      intro d m hb0 hm h s' hr'
      have hd : nd d ≤ 1000 := Nat.le_trans (nd_mono (by omega)) ha
      have := gcd_run X Y n s' b d hr' hb hd (by have := far_st a b d m hb0 hm h; omega)
      rwa [gcd_step a b d m h] at this
    cases s with
    | l1 x0 x1 x2 x3 x4 x5 x6 x7 x8 x9 =>
      obtain ⟨rfl, rfl, rfl, rfl, h1, h2⟩ := hr
      refine ExEv.up (f := fun k => gbody k false (digs a) false (digs b) (cavilref07_Gcd.go k (.l2 (digs X) (digs Y) x2 x3 false x8 x9 false x5 x6)) (some (.r1 false x5 x6)) (fun v f => cavilref07_Gcd.go k (.l3 (digs X) (digs Y) x2 x3 false x8 x9 v f))) ?_ (fun k => by
        show cavilref07_Gcd.b1 k (cavilref07_Gcd.go k) (digs X) (digs Y) x2 x3 false x5 x6 false x8 x9 = _
        simp only [cavilref07_Gcd.b1]
        rw [h1, h2]
        rfl)
      exact gstep a b ha hb (O ⟨rfl, h1⟩) (S _ ⟨rfl, rfl, rfl, rfl, h2, h1⟩) (fun d m hb0 hm h => D d m hb0 hm h _ ⟨rfl, rfl, rfl, rfl, h2, rfl⟩)
    | l2 x0 x1 x2 x3 x4 x5 x6 x7 x8 x9 =>
      obtain ⟨rfl, rfl, rfl, rfl, h1, h2⟩ := hr
      refine ExEv.up (f := fun k => gbody k false (digs a) false (digs b) (cavilref07_Gcd.go k (.l1 (digs X) (digs Y) x2 x3 false x8 x9 false x5 x6)) (some (.r2 false x5 x6)) (fun v f => cavilref07_Gcd.go k (.l4 (digs X) (digs Y) x2 x3 false x8 x9 v f))) ?_ (fun k => by
        show cavilref07_Gcd.b2 k (cavilref07_Gcd.go k) (digs X) (digs Y) x2 x3 false x5 x6 false x8 x9 = _
        simp only [cavilref07_Gcd.b2]
        rw [h1, h2]
        rfl)
      exact gstep a b ha hb (O ⟨rfl, h1⟩) (S _ ⟨rfl, rfl, rfl, rfl, h2, h1⟩) (fun d m hb0 hm h => D d m hb0 hm h _ ⟨rfl, rfl, rfl, rfl, h2, rfl⟩)
    | l3 x0 x1 x2 x3 x4 x5 x6 x7 x8 =>
      obtain ⟨rfl, rfl, rfl, rfl, h1, rfl⟩ := hr
      refine ExEv.up (f := fun k => gbody k false (digs a) false (digs b) (cavilref07_Gcd.go k (.l5 (digs X) (digs Y) x2 x3 (digs b) false false x5 x6)) (some (.r2 false x5 x6)) (fun v f => cavilref07_Gcd.go k (.l6 (digs X) (digs Y) x2 x3 (digs b) false v f))) ?_ (fun k => by
        show cavilref07_Gcd.b3 k (cavilref07_Gcd.go k) (digs X) (digs Y) x2 x3 false x5 x6 (digs b) false = _
        simp only [cavilref07_Gcd.b3]
        rw [h1]
        rfl)
      exact gstep a b ha hb (O ⟨rfl, h1⟩) (S _ ⟨rfl, rfl, rfl, rfl, rfl, h1⟩) (fun d m hb0 hm h => D d m hb0 hm h _ ⟨rfl, rfl, rfl, rfl, rfl, rfl⟩)
    | l4 x0 x1 x2 x3 x4 x5 x6 x7 x8 =>
      obtain ⟨rfl, rfl, rfl, rfl, h1, rfl⟩ := hr
      refine ExEv.up (f := fun k => gbody k false (digs a) false (digs b) (cavilref07_Gcd.go k (.l7 (digs X) (digs Y) x2 x3 (digs b) false false x5 x6)) (some (.r1 false x5 x6)) (fun v f => cavilref07_Gcd.go k (.l6 (digs X) (digs Y) x2 x3 (digs b) false v f))) ?_ (fun k => by
        show cavilref07_Gcd.b4 k (cavilref07_Gcd.go k) (digs X) (digs Y) x2 x3 false x5 x6 (digs b) false = _
        simp only [cavilref07_Gcd.b4]
        rw [h1]
        rfl)
      exact gstep a b ha hb (O ⟨rfl, h1⟩) (S _ ⟨rfl, rfl, rfl, rfl, rfl, h1⟩) (fun d m hb0 hm h => D d m hb0 hm h _ ⟨rfl, rfl, rfl, rfl, rfl, rfl⟩)
    | l5 x0 x1 x2 x3 x4 x5 x6 x7 x8 =>
      obtain ⟨rfl, rfl, rfl, rfl, rfl, h2⟩ := hr
      refine ExEv.up (f := fun k => gbody k false (digs a) false (digs b) (cavilref07_Gcd.go k (.l3 (digs X) (digs Y) x2 x3 false x7 x8 (digs a) false)) (some (.r3 false (digs a))) (fun v f => cavilref07_Gcd.go k (.l3 (digs X) (digs Y) x2 x3 false x7 x8 v f))) ?_ (fun k => by
        show cavilref07_Gcd.b5 k (cavilref07_Gcd.go k) (digs X) (digs Y) x2 x3 (digs a) false false x7 x8 = _
        simp only [cavilref07_Gcd.b5]
        rw [h2]
        rfl)
      exact gstep a b ha hb (O ⟨rfl, rfl⟩) (S _ ⟨rfl, rfl, rfl, rfl, h2, rfl⟩) (fun d m hb0 hm h => D d m hb0 hm h _ ⟨rfl, rfl, rfl, rfl, h2, rfl⟩)
    | l6 x0 x1 x2 x3 x4 x5 x6 x7 =>
      obtain ⟨rfl, rfl, rfl, rfl, rfl, rfl⟩ := hr
      refine ExEv.up (f := fun k => gbody k false (digs a) false (digs b) (cavilref07_Gcd.go k (.l6 (digs X) (digs Y) x2 x3 (digs b) false (digs a) false)) (some (.r3 false (digs a))) (fun v f => cavilref07_Gcd.go k (.l6 (digs X) (digs Y) x2 x3 (digs b) false v f))) ?_ (fun k => rfl)
      exact gstep a b ha hb (O ⟨rfl, rfl⟩) (S _ ⟨rfl, rfl, rfl, rfl, rfl, rfl⟩) (fun d m hb0 hm h => D d m hb0 hm h _ ⟨rfl, rfl, rfl, rfl, rfl, rfl⟩)
    | l7 x0 x1 x2 x3 x4 x5 x6 x7 x8 =>
      obtain ⟨rfl, rfl, rfl, rfl, rfl, h2⟩ := hr
      refine ExEv.up (f := fun k => gbody k false (digs a) false (digs b) (cavilref07_Gcd.go k (.l4 (digs X) (digs Y) x2 x3 false x7 x8 (digs a) false)) (some (.r3 false (digs a))) (fun v f => cavilref07_Gcd.go k (.l4 (digs X) (digs Y) x2 x3 false x7 x8 v f))) ?_ (fun k => by
        show cavilref07_Gcd.b7 k (cavilref07_Gcd.go k) (digs X) (digs Y) x2 x3 (digs a) false false x7 x8 = _
        simp only [cavilref07_Gcd.b7]
        rw [h2]
        rfl)
      exact gstep a b ha hb (O ⟨rfl, rfl⟩) (S _ ⟨rfl, rfl, rfl, rfl, h2, rfl⟩) (fun d m hb0 hm h => D d m hb0 hm h _ ⟨rfl, rfl, rfl, rfl, h2, rfl⟩)
theorem rgcd_ev (a b : Nat) (ha : nd a ≤ 1000) (hb : nd b ≤ 1000) : ExEv (OutG a b (Nat.gcd a b)) (fun k => cavilref07_Gcd.m k false (digs a) false (digs b)) := by
  obtain ⟨r, h1, h2⟩ := gcd_run a b (far a b) (.l1 (digs a) (digs b) [] false false 0 (nd a : Int) false 0 (nd b : Int)) a b ⟨rfl, rfl, rfl, rfl, dcut a, dcut b⟩ ha hb (Nat.le_refl _)
  refine ⟨r, h1, Ev.succ (f := fun k => cavilref07_Gcd.b0 k (cavilref07_Gcd.go k) false (digs a) false (digs b)) ?_ (fun k => rfl)⟩
  simp only [cavilref07_Gcd.b0]
  exact Ev.bind (dtrim_ev a false (by omega)) (Ev.bind (dtrim_ev b false (by omega)) h2)
/-! ### Ratios -/
theorem num_ev (v : Nat) (h : v < M512) : Ev (fun k => cavilref08_Num.m k false (toW v)) (false, digs v) := by
  refine Ev.succ (f := fun k => cavilref08_Num.b0 k false (toW v)) ?_ (fun k => rfl)
  exact Ev.bind (from_ev v h) Ev.ret
theorem rcanon_ev (l : List Int) : Ev (fun k => cavilref08_canon.m k false l) true := by
  refine Ev.succ (f := fun k => cavilref08_canon.b0 k false l) ?_ (fun k => rfl)
  exact Ev.tt rfl Ev.ret
theorem one_ev : Ev (fun k => cavilref08_One.m k) (false, digs 1) := by
  refine Ev.succ (f := fun k => cavilref08_One.b0 k) ?_ (fun k => rfl)
  exact Ev.bind (small_ev 1 (by decide)) Ev.ret
theorem over_ev (b : Bool) (v : Nat) : Ev (fun k => cavilref08_over.m k b (digs v)) (decide (M512 ≤ v)) := by
  refine Ev.succ (f := fun k => cavilref08_over.b0 k b (digs v)) ?_ (fun k => rfl)
  refine Ev.ret' ?_
  rw [digs_len, decide_eq_decide]
  have := nd32 v
  omega
theorem cmp_one (g : Nat) (hg : nd g ≤ 1000) : Ev (fun k => bindO (cavilref08_One.m k) fun r6 => bindO (cavilref07_Cmp.m k false (digs g) r6.1 r6.2) fun r7 => bif (r7 != 0) then some 8 else some 0) (if g = 1 then (0 : Int) else 8) := by
  refine Ev.bind one_ev (Ev.bind (rcmp_ev g 1 (by omega) (by decide)) ?_)
  unfold cmpN
  by_cases h : g = 1
  · subst h
    exact Ev.ff rfl Ev.ret
  · rw [if_neg h]
    split
    · exact Ev.tt rfl Ev.ret
    · split
      · exact Ev.tt rfl Ev.ret
      · omega
theorem rcheck_ev (n d : Nat) (hn : n < M512) (hd : d < M512) : Ev (fun k => cavilref08_Check.m k false (toW n) false (toW d)) (if okR n d = true then 0 else 8) := by
  refine Ev.succ (f := fun k => cavilref08_Check.b0 k false (toW n) false (toW d)) ?_ (fun k => rfl)
  simp only [cavilref08_Check.b0]
  have h1 := (nd32 n).2 hn
  have h2 := (nd32 d).2 hd
  refine Ev.bind (num_ev n hn) (Ev.bind (num_ev d hd) (Ev.bind (rcanon_ev _) (Ev.ff rfl (Ev.bind (rcanon_ev _) (Ev.ff rfl (Ev.ff rfl ?_))))))
  rw [digs_len]
  unfold okR
  by_cases h : d = 0
  · subst h
    exact Ev.tt rfl (Ev.ret' (by simp))
  · have hp := nd_pos h
    have hg : nd (Nat.gcd n d) ≤ 1000 := Nat.le_trans (nd_mono (Nat.gcd_le_right n (by omega))) (by omega)
    obtain ⟨r, ho, hev⟩ := rgcd_ev n d (by omega) (by omega)
    refine Ev.ff ?_ (Ev.bind hev ?_)
    · rw [beq_dec]; exact decide_eq_false (by omega)
    · have hres : (if (decide (d ≠ 0) && decide (Nat.gcd n d = 1)) = true then (0 : Int) else 8) = if Nat.gcd n d = 1 then 0 else 8 := by
        rw [decide_eq_true h, Bool.true_and]
        by_cases h1 : Nat.gcd n d = 1
        · rw [if_pos h1, if_pos (decide_eq_true h1)]
        · rw [if_neg h1, if_neg (by simpa using h1)]
      rw [hres]
      have hc := cmp_one (Nat.gcd n d) hg
      cases r with
      | r1 y0 y1 y2 =>
        obtain ⟨rfl, e⟩ := ho
        simp only
        rw [e]
        exact hc
      | r2 y0 y1 y2 =>
        obtain ⟨rfl, e⟩ := ho
        simp only
        rw [e]
        exact hc
      | r3 y0 y1 =>
        obtain ⟨rfl, rfl⟩ := ho
        exact hc
theorem low1 (n d g : Nat) (z : List Int) (x1 x3 : List Int) (hn : n < M512) (hd : d < M512) (hg : g ≠ 0) (hgn : nd g ≤ 1000) :
    Ev (fun k => bindO (cavilref07_Div.m k false (digs n) false (digs g)) fun r2 => bindO (cavilref07_Div.m k false (digs d) false (digs g)) fun r3 => bif r3.1 then (bindO (cavilref07_Sub.m k false [] r2.1 r2.2.2.1) fun r4 => bindO (cavilref07_Sub.m k false [] r3.1 r3.2.2.1) fun r5 => cavilref08_lowest.go k (.l1 x1 x3 false z false z r4.2 r4.1 r5.2 r5.1)) else cavilref08_lowest.go k (.l1 x1 x3 false z false z r2.2.2.1 r2.1 r3.2.2.1 r3.1)) (false, toW (n / g), false, toW (d / g)) := by
  have h1 := (nd32 n).2 hn
  have h2 := (nd32 d).2 hd
  refine Ev.bind (rdiv_ev n g hg (by omega) hgn) (Ev.bind (rdiv_ev d g hg (by omega) hgn) (Ev.ff rfl ?_))
  refine Ev.succ (f := fun k => cavilref08_lowest.b1 k (cavilref08_lowest.go k) x1 x3 false z false z (digs (n / g)) false (digs (d / g)) false) ?_ (fun k => rfl)
  exact Ev.bind (to_ev _ (Nat.lt_of_le_of_lt (Nat.div_le_self _ _) hn)) (Ev.bind (to_ev _ (Nat.lt_of_le_of_lt (Nat.div_le_self _ _) hd)) Ev.ret)
theorem lowest_ev (n d : Nat) (hn : n < M512) (hd : d < M512) (h0 : d ≠ 0) : Ev (fun k => cavilref08_lowest.m k false (digs n) false (digs d)) (false, toW (n / Nat.gcd n d), false, toW (d / Nat.gcd n d)) := by
  refine Ev.succ (f := fun k => cavilref08_lowest.b0 k (cavilref08_lowest.go k) false (digs n) false (digs d)) ?_ (fun k => rfl)
  simp only [cavilref08_lowest.b0]
  have h1 := (nd32 n).2 hn
  have h2 := (nd32 d).2 hd
  have hg0 : Nat.gcd n d ≠ 0 := by have := Nat.gcd_pos_of_pos_right n (show 0 < d by omega); omega
  have hg : nd (Nat.gcd n d) ≤ 1000 := Nat.le_trans (nd_mono (Nat.gcd_le_right n (by omega))) (by omega)
  obtain ⟨r, ho, hev⟩ := rgcd_ev n d (by omega) (by omega)
  have hl := low1 n d (Nat.gcd n d) (List.replicate 8 0) (digs n) (digs d) hn hd hg0 hg
  refine Ev.bind hev ?_
  cases r with
  | r1 y0 y1 y2 =>
    obtain ⟨rfl, e⟩ := ho
    simp only
    rw [e]
    exact hl
  | r2 y0 y1 y2 =>
    obtain ⟨rfl, e⟩ := ho
    simp only
    rw [e]
    exact hl
  | r3 y0 y1 =>
    obtain ⟨rfl, rfl⟩ := ho
    exact hl
/-- A ratio, the error's number. -/
def resK : Option (Nat × Nat) × Int → Bool × List Int × Bool × List Int × Int
  | (some (n, d), e) => (false, toW n, false, toW d, e)
  | (none, e) => (false, List.replicate 8 0, false, List.replicate 8 0, e)
def optK (t : Option (Nat × Nat)) : Option (Nat × Nat) × Int := (t, if t = none then 9 else 0)
theorem do3_ev (z : List Int) (n d : Nat) (h0 : d ≠ 0) : Ev (fun k => cavilref08_Do.go k (.l3 false z false z (digs n) false (digs d) false false)) (resK (optK (lowR n d))) := by
  refine Ev.succ (f := fun k => cavilref08_Do.b3 k (cavilref08_Do.go k) false z false z (digs n) false (digs d) false false) ?_ (fun k => rfl)
  simp only [cavilref08_Do.b3]
  refine Ev.ff rfl (Ev.bind (over_ev _ n) ?_)
  unfold lowR
  by_cases h1 : n < M512
  · by_cases h2 : d < M512
    · rw [if_pos ⟨h1, h2⟩]
      exact Ev.ff (decide_eq_false (by omega)) (Ev.bind (over_ev _ d) (Ev.ff (decide_eq_false (by omega)) (Ev.bind (lowest_ev n d h1 h2 h0) Ev.ret)))
    · rw [if_neg (fun h => h2 h.2)]
      exact Ev.ff (decide_eq_false (by omega)) (Ev.bind (over_ev _ d) (Ev.tt (decide_eq_true (by omega)) Ev.ret))
  · rw [if_neg (fun h => h1 h.1)]
    exact Ev.tt (decide_eq_true (by omega)) Ev.ret
theorem rok {n d : Nat} (hn : n < M512) (hd : d < M512) (h : okR n d = true) : Ev (fun k => cavilref08_Check.m k false (toW n) false (toW d)) 0 := by
  have := rcheck_ev n d hn hd
  rwa [if_pos h] at this
theorem do_ev (a b c d : Nat) (q : Bool) (ha : a < M512) (hb : b < M512) (hc : c < M512) (hd : d < M512) (h1 : okR a b = true) (h2 : okR c d = true) (hq : q = true → c ≠ 0) :
    Ev (fun k => cavilref08_Do.m k false (toW a) false (toW b) false (toW c) false (toW d) (if q = true then 3 else 2)) (resK (optK (if q = true then lowR (a * d) (b * c) else lowR (a * c) (b * d)))) := by
  have n1 := (nd32 a).2 ha
  have n2 := (nd32 b).2 hb
  have n3 := (nd32 c).2 hc
  have n4 := (nd32 d).2 hd
  refine Ev.succ (f := fun k => cavilref08_Do.b0 k (cavilref08_Do.go k) false (toW a) false (toW b) false (toW c) false (toW d) (if q = true then 3 else 2)) ?_ (fun k => rfl)
  simp only [cavilref08_Do.b0]
  refine Ev.bind (rok ha hb h1) (Ev.ff rfl (Ev.bind (rok hc hd h2) ?_))
  have hz := okR_ne h1
  have hz2 := okR_ne h2
  have l2 : Ev (fun k => cavilref08_Do.go k (.l2 false (toW a) false (toW b) false (toW c) false (toW d) false (List.replicate 8 (0 : Int)) false (List.replicate 8 (0 : Int)) (if q = true then 3 else 2) false)) (resK (optK (if q = true then lowR (a * d) (b * c) else lowR (a * c) (b * d)))) := by
    refine Ev.succ (f := fun k => cavilref08_Do.b2 k (cavilref08_Do.go k) false (toW a) false (toW b) false (toW c) false (toW d) false (List.replicate 8 (0 : Int)) false (List.replicate 8 (0 : Int)) (if q = true then 3 else 2) false) ?_ (fun k => rfl)
    simp only [cavilref08_Do.b2]
    refine Ev.ff rfl (Ev.bind (num_ev a ha) (Ev.bind (num_ev d hd) (Ev.bind (rrmul_ev a d (by omega) (by omega)) (Ev.bind (num_ev c hc) (Ev.bind (num_ev b hb) (Ev.bind (rrmul_ev c b (by omega) (by omega)) (Ev.bind (num_ev b hb) (Ev.bind (num_ev d hd) (Ev.bind (rrmul_ev b d (by omega) (by omega)) ?_)))))))))
    cases q with
    | true =>
      exact Ev.ff rfl (Ev.ff rfl (Ev.ff rfl (Ev.tt rfl (Ev.bind (num_ev b hb) (Ev.bind (num_ev c hc) (Ev.bind (rrmul_ev b c (by omega) (by omega)) (do3_ev _ _ _ (Nat.mul_ne_zero hz.1 (hq rfl)))))))))
    | false =>
      exact Ev.ff rfl (Ev.ff rfl (Ev.tt rfl (Ev.bind (num_ev a ha) (Ev.bind (num_ev c hc) (Ev.bind (rrmul_ev a c (by omega) (by omega)) (do3_ev _ _ _ (Nat.mul_ne_zero hz.1 hz2.1)))))))
  refine Ev.succ (f := fun k => cavilref08_Do.b1 k (cavilref08_Do.go k) false (toW a) false (toW b) false (toW c) false (toW d) false (List.replicate 8 (0 : Int)) false (List.replicate 8 (0 : Int)) (if q = true then 3 else 2) false) ?_ (fun k => rfl)
  simp only [cavilref08_Do.b1]
  cases q with
  | true =>
    have hcp := nd_pos (hq rfl)
    refine Ev.ff rfl (Ev.tt rfl (Ev.bind (num_ev c hc) ?_))
    rw [digs_len, beq_dec, decide_eq_false (show ¬ (nd c : Int) = 0 by omega)]
    exact l2
  | false => exact Ev.ff rfl (Ev.ff rfl l2)
theorem roff_ev (n : Nat) (h : n < 1000) : Ev (fun k => cavilref08_Of.m k (n : Int)) (false, toW n, false, toW 1) := by
  refine Ev.succ (f := fun k => cavilref08_Of.b0 k (n : Int)) ?_ (fun k => rfl)
  have hM : n < M512 := Nat.lt_trans h (by decide)
  exact Ev.bind (small_ev n (by omega)) (Ev.bind (to_ev n hM) (Ev.bind one_ev (Ev.bind (to_ev 1 (by decide)) Ev.ret)))
end Go.Proofs.YtaakccdfgejgpaaGreatDoor.Pure
namespace Go.Proofs.YtaakccdfgejgpaaGreatDoor.Pure
open Go Abs
set_option linter.unusedVariables false
set_option linter.unusedSimpArgs false

theorem rscale_go : ∀ (m n d : Nat) (q : Bool), m ≤ 1000 → n < M512 → d < M512 → okR n d = true →
    Ev (fun k => cavilref08_Scale.go k (.l2 false (toW n) false (toW d) false (List.replicate 8 0) false (List.replicate 8 0) 10 (if q = true then 0 - (m : Int) else (m : Int)))) (resK (optK (if q = true then dnR m n d else upR m n d)))
  | 0, n, d, q, hm, hn, hd, ho => by
    refine Ev.succ (f := fun k => cavilref08_Scale.b2 k (cavilref08_Scale.go k) false (toW n) false (toW d) false (List.replicate 8 0) false (List.replicate 8 0) 10 (if q = true then 0 - ((0 : Nat) : Int) else ((0 : Nat) : Int))) ?_ (fun k => rfl)
    simp only [cavilref08_Scale.b2]
    cases q with
    | true => exact Ev.ff rfl Ev.ret
    | false => exact Ev.ff rfl Ev.ret
  | m + 1, n, d, q, hm, hn, hd, ho => by
    refine Ev.succ (f := fun k => cavilref08_Scale.b2 k (cavilref08_Scale.go k) false (toW n) false (toW d) false (List.replicate 8 0) false (List.replicate 8 0) 10 (if q = true then 0 - ((m + 1 : Nat) : Int) else ((m + 1 : Nat) : Int))) ?_ (fun k => rfl)
    simp only [cavilref08_Scale.b2]
    have hdo := do_ev n d 10 1 q hn hd (by decide) (by decide) ho (by decide) (fun _ => by decide)
    have hz := okR_ne ho
    cases q with
    | true =>
      have hlow := @lowR_ok (n * 1) (d * 10)
      have e1 : wr .i64 (0 - ((m + 1 : Nat) : Int) + 1) = 0 - (m : Int) := by rw [v64 (by omega) (by omega)]; omega
      simp only [if_true] at hdo ⊢
      rw [e1]
      refine Ev.tt ?_ (Ev.ff (decide_eq_false (by omega)) (Ev.bind (roff_ev 10 (by decide)) (Ev.bind hdo ?_)))
      · rw [bne, beq_dec, decide_eq_false (by omega)]; rfl
      · rw [dnR]
        cases hq : lowR (n * 1) (d * 10) with
        | none => exact Ev.tt rfl Ev.ret
        | some t =>
          obtain ⟨a, b⟩ := t
          obtain ⟨g1, g2, g3⟩ := hlow hq (by omega)
          exact Ev.ff rfl (rscale_go m a b true (by omega) g1 g2 g3)
    | false =>
      have hlow := @lowR_ok (n * 10) (d * 1)
      have e1 : wr .i64 (((m + 1 : Nat) : Int) - 1) = (m : Int) := by rw [v64 (by omega) (by omega)]; omega
      simp only [Bool.false_eq_true, if_false] at hdo ⊢
      rw [e1]
      refine Ev.tt ?_ (Ev.tt (decide_eq_true (by omega)) (Ev.bind (roff_ev 10 (by decide)) (Ev.bind hdo ?_)))
      · rw [bne, beq_dec, decide_eq_false (by omega)]; rfl
      · rw [upR]
        cases hq : lowR (n * 10) (d * 1) with
        | none => exact Ev.tt rfl Ev.ret
        | some t =>
          obtain ⟨a, b⟩ := t
          obtain ⟨g1, g2, g3⟩ := hlow hq (by omega)
          exact Ev.ff rfl (rscale_go m a b false (by omega) g1 g2 g3)
theorem rscale_ev (n d : Nat) (e : Int) (hn : n < M512) (hd : d < M512) (ho : okR n d = true) (e0 : -1000000 ≤ e) (e1 : e ≤ 1000000) : Ev (fun k => cavilref08_Scale.m k false (toW n) false (toW d) 10 e) (resK (optK (scaleF n d e))) := by
  refine Ev.succ (f := fun k => cavilref08_Scale.b0 k (cavilref08_Scale.go k) false (toW n) false (toW d) 10 e) ?_ (fun k => rfl)
  simp only [cavilref08_Scale.b0]
  refine Ev.bind (rok hn hd ho) (Ev.ff rfl (Ev.tt rfl ?_))
  refine Ev.succ (f := fun k => cavilref08_Scale.b1 k (cavilref08_Scale.go k) false (toW n) false (toW d) false (List.replicate 8 0) false (List.replicate 8 0) 10 e false) ?_ (fun k => rfl)
  simp only [cavilref08_Scale.b1]
  unfold scaleF
  refine Ev.ff rfl (Ev.bif (fun h => ?_) (fun h => Ev.bif (fun h' => ?_) (fun h' => ?_)))
  · have h := of_decide_eq_true h
    rw [if_pos (.inl (by omega))]
    exact Ev.ret
  · have h' := of_decide_eq_true h'
    rw [if_pos (.inr (by omega))]
    exact Ev.ret
  · have h := of_decide_eq_false h
    have h' := of_decide_eq_false h'
    rw [if_neg (by omega)]
    by_cases hs : e < 0
    · rw [if_pos hs]
      have := rscale_go (0 - e).toNat n d true (by omega) hn hd ho
      simp only [if_true] at this
      rwa [show 0 - (((0 - e).toNat : Nat) : Int) = e by omega] at this
    · rw [if_neg hs]
      have := rscale_go e.toNat n d false (by omega) hn hd ho
      simp only [Bool.false_eq_true, if_false] at this
      rwa [show ((e.toNat : Nat) : Int) = e by omega] at this
/-! ### Digits of a literal with a point -/
/-- What is read: the digits, how many of them stand behind the point, whether there is one, what is left. -/
def scanM : List UInt8 → Bool → List UInt8 × Nat × Bool × List UInt8
  | [], dot => ([], 0, dot, [])
  | c :: t, dot =>
    if dig (c.toNat : Int) = true then (c :: (scanM t dot).1, (scanM t dot).2.1 + (if dot = true then 1 else 0), (scanM t dot).2.2.1, (scanM t dot).2.2.2)
    else if (c.toNat : Int) = 46 ∧ dot = false then scanM t true
    else ([], 0, dot, c :: t)
theorem dig_nE (c : UInt8) (h : dig (c.toNat : Int) = true) : nE c = true := by
  have := (dig_iff _).1 h
  unfold nE
  rw [decide_eq_false (by omega), decide_eq_false (by omega)]
  rfl
theorem c46 (c : UInt8) : (c.toNat : Int) = 46 ↔ c = 46 := by
  constructor
  · intro h
    have : c.toNat = (46 : UInt8).toNat := by show c.toNat = 46; omega
    exact UInt8.toNat_inj.1 this
  · intro h; subst h; rfl
theorem nE_46 : nE 46 = true := rfl
theorem dig_46 (c : UInt8) (h : dig (c.toNat : Int) = true) : c ≠ 46 := by
  intro e; subst e; exact absurd h (by decide)
/-- Not a literal: what is left begins with no exponent. -/
def Bad (t : List UInt8 × Nat × Bool × List UInt8) : Prop := ∃ c r, t.2.2.2 = c :: r ∧ nE c = true
theorem scan_dot : ∀ (p : List UInt8), (allD (mantB p) = true → scanM p true = (mantB p, (mantB p).length, true, exB p)) ∧ (allD (mantB p) = false → Bad (scanM p true))
  | [] => ⟨fun _ => rfl, fun h => by cases h⟩
  | c :: t => by
    obtain ⟨i1, i2⟩ := scan_dot t
    by_cases hE : nE c = true
    · have hm : mantB (c :: t) = c :: mantB t := by unfold mantB; rw [List.takeWhile_cons, hE]; rfl
      have hx : exB (c :: t) = exB t := by unfold exB; rw [List.dropWhile_cons, hE]; rfl
      have ha : allD (c :: mantB t) = (dig (c.toNat : Int) && allD (mantB t)) := rfl
      rw [hm, hx, ha, scanM]
      by_cases hd : dig (c.toNat : Int) = true
      · rw [if_pos hd, hd, Bool.true_and]
        refine ⟨fun h => ?_, fun h => ?_⟩
        · rw [i1 h]; rfl
        · exact i2 h
      · rw [if_neg hd, if_neg (by simp)]
        have hd : dig (c.toNat : Int) = false := by simpa using hd
        rw [hd]
        exact ⟨fun h => (by cases h), fun _ => ⟨c, t, rfl, hE⟩⟩
    · have hE : nE c = false := by simpa using hE
      have hm : mantB (c :: t) = [] := by unfold mantB; rw [List.takeWhile_cons, hE]; rfl
      have hx : exB (c :: t) = c :: t := by unfold exB; rw [List.dropWhile_cons, hE]; rfl
      have hd : ¬ dig (c.toNat : Int) = true := fun h => by rw [dig_nE c h] at hE; cases hE
      rw [hm, hx, scanM, if_neg hd, if_neg (by simp)]
      exact ⟨fun _ => rfl, fun h => by cases h⟩
theorem scan_all : ∀ (p : List UInt8), (allD ((mantB p).takeWhile nD) = true → allD (((mantB p).dropWhile nD).tail) = true → scanM p false = ((mantB p).takeWhile nD ++ ((mantB p).dropWhile nD).tail, (((mantB p).dropWhile nD).tail).length, decide ((mantB p).dropWhile nD ≠ []), exB p)) ∧
    ((allD ((mantB p).takeWhile nD) && allD (((mantB p).dropWhile nD).tail)) = false → Bad (scanM p false))
  | [] => ⟨fun _ _ => rfl, fun h => by cases h⟩
  | c :: t => by
    obtain ⟨i1, i2⟩ := scan_all t
    by_cases hE : nE c = true
    · have hm : mantB (c :: t) = c :: mantB t := by unfold mantB; rw [List.takeWhile_cons, hE]; rfl
      have hx : exB (c :: t) = exB t := by unfold exB; rw [List.dropWhile_cons, hE]; rfl
      rw [hm, hx]
      by_cases h46 : c = 46
      · subst h46
        have ht : (46 :: mantB t).takeWhile nD = [] := rfl
        have hdr : (46 :: mantB t).dropWhile nD = 46 :: mantB t := rfl
        rw [ht, hdr, scanM, if_neg (by decide), if_pos ⟨rfl, rfl⟩]
        obtain ⟨s1, s2⟩ := scan_dot t
        refine ⟨fun _ h => ?_, fun h => s2 h⟩
        rw [s1 h]
        rfl
      · have hn : nD c = true := by simp [nD, h46]
        have ht : (c :: mantB t).takeWhile nD = c :: (mantB t).takeWhile nD := by rw [List.takeWhile_cons, hn]; rfl
        have hdr : (c :: mantB t).dropWhile nD = (mantB t).dropWhile nD := by rw [List.dropWhile_cons, hn]; rfl
        have ha : allD (c :: (mantB t).takeWhile nD) = (dig (c.toNat : Int) && allD ((mantB t).takeWhile nD)) := rfl
        rw [ht, hdr, ha, scanM]
        by_cases hd : dig (c.toNat : Int) = true
        · rw [if_pos hd, hd, Bool.true_and]
          refine ⟨fun h1 h2 => ?_, fun h => i2 h⟩
          rw [i1 h1 h2]
          rfl
        · have hd' : dig (c.toNat : Int) = false := by simpa using hd
          rw [if_neg hd, if_neg (fun h => h46 ((c46 c).1 h.1)), hd']
          exact ⟨fun h => (by cases h), fun _ => ⟨c, t, rfl, hE⟩⟩
    · have hE : nE c = false := by simpa using hE
      have hm : mantB (c :: t) = [] := by unfold mantB; rw [List.takeWhile_cons, hE]; rfl
      have hx : exB (c :: t) = c :: t := by unfold exB; rw [List.dropWhile_cons, hE]; rfl
      have hd : ¬ dig (c.toNat : Int) = true := fun h => by rw [dig_nE c h] at hE; cases hE
      have h46 : c ≠ 46 := by intro e; subst e; cases hE
      rw [hm, hx, scanM, if_neg hd, if_neg (fun h => h46 ((c46 c).1 h.1))]
      exact ⟨fun _ _ => rfl, fun h => by cases h⟩
theorem scan_len : ∀ (p : List UInt8) (dot : Bool), (scanM p dot).1.length ≤ p.length ∧ (scanM p dot).2.1 ≤ p.length ∧ (scanM p dot).2.2.2.length ≤ p.length
  | [], dot => ⟨Nat.le_refl _, Nat.le_refl _, Nat.le_refl _⟩
  | c :: t, dot => by
    have h1 := scan_len t dot
    have h2 := scan_len t true
    rw [scanM]
    split
    · simp only [List.length_cons]
      split <;> omega
    · split
      · simp only [List.length_cons]; omega
      · simp
end Go.Proofs.YtaakccdfgejgpaaGreatDoor.Pure
namespace Go.Proofs.YtaakccdfgejgpaaGreatDoor.Pure
open Go Abs
set_option linter.unusedVariables false
set_option linter.unusedSimpArgs false

section
variable (z z' : List Int) (p : List UInt8)
theorem f7t (a : List UInt8) (c : Int) (y : List UInt8) (g : Bool) : Ev (fun k => cavilref09_FloatOf.go k (.l7 false z false z' a c y g true)) (resK (none, 8)) := by
  refine Ev.succ (f := fun k => cavilref09_FloatOf.b7 k (cavilref09_FloatOf.go k) false z false z' a c y g true) ?_ (fun k => rfl)
  exact Ev.tt rfl Ev.ret
theorem f9 (v cnt : Nat) (t : List UInt8) (neg : Bool) (hl : t.length ≤ 5) {R : Bool × List Int × Bool × List Int × Int}
    (hc : Ev (fun k => cavilref09_FloatOf.go k (.l11 false z false z' (digs v) false (cnt : Int) (if neg = true then -decA t 0 else decA t 0))) R) : ∀ (m i : Nat) (a : Int), i + m = t.length → allD (t.drop i) = true → 0 ≤ a → a < 10 ^ i → decA (t.drop i) a = decA t 0 →
    Ev (fun k => cavilref09_FloatOf.go k (.l9 false z false z' (digs v) false (cnt : Int) t neg a (i : Int))) R
  | 0, i, a, h, hd, h0, h1, he => by
    refine Ev.succ (f := fun k => cavilref09_FloatOf.b9 k (cavilref09_FloatOf.go k) false z false z' (digs v) false (cnt : Int) t neg a (i : Int)) ?_ (fun k => rfl)
    simp only [cavilref09_FloatOf.b9]
    have hp := pow10_le i (by omega)
    rw [List.drop_eq_nil_of_le (by omega), decA] at he
    rw [← he] at hc
    refine Ev.ff (decide_eq_false (by omega)) (Ev.bif (fun hn => ?_) (fun hn => ?_))
    · rw [hn, if_pos rfl] at hc
      rw [v64 (by omega) (by omega), Int.zero_sub]
      exact hc
    · rw [hn, if_neg (by decide)] at hc
      exact hc
  | m + 1, i, a, h, hd, h0, h1, he => by
    refine Ev.succ (f := fun k => cavilref09_FloatOf.b9 k (cavilref09_FloatOf.go k) false z false z' (digs v) false (cnt : Int) t neg a (i : Int)) ?_ (fun k => rfl)
    simp only [cavilref09_FloatOf.b9]
    have ih := f9 v cnt t neg hl hc m (i + 1)
    have hby : byt t (i : Int) = ((t.getD i 0).toNat : Int) := byt_nat t i
    rw [drop_at t i (by omega)] at hd he
    rw [hby]
    generalize t.getD i 0 = c at hd he ⊢
    unfold allD at hd
    rw [List.all_cons, Bool.and_eq_true] at hd
    have hcd := (dig_iff _).1 hd.1
    have hp := pow10_le i (by omega)
    have ei : wr .i64 ((i : Int) + 1) = ((i + 1 : Nat) : Int) := by rw [v64 (by omega) (by omega)]; omega
    have e1 : wr .u8 ((c.toNat : Int) - 48) = (c.toNat : Int) - 48 := w8 (by omega) (by omega)
    have e2 : wr .i64 ((c.toNat : Int) - 48) = (c.toNat : Int) - 48 := v64 (by omega) (by omega)
    have e3 : wr .i64 (10 * a) = 10 * a := v64 (by omega) (by omega)
    have e4 : wr .i64 (10 * a + ((c.toNat : Int) - 48)) = 10 * a + ((c.toNat : Int) - 48) := v64 (by omega) (by omega)
    rw [ei, e1, e2, e3, e4]
    rw [decA] at he
    exact Ev.tt (decide_eq_true (by omega)) (Ev.gk (inB_iff.2 (by omega)) (ih _ (by omega) hd.2 (by omega) (by rw [Int.pow_succ]; omega) he))
theorem f7f (i f x : List UInt8) (hn : i ++ f ≠ []) (hd : allD (i ++ f) = true) (hx : allD (unsB x) = true) (hl : i.length + f.length ≤ 100000) :
    Ev (fun k => cavilref09_FloatOf.go k (.l7 false z false z' (i ++ f) ((f.length : Nat) : Int) (unsB x) (decide (x.head? = some 45)) false)) (resK (partV i f x)) := by
  refine Ev.succ (f := fun k => cavilref09_FloatOf.b7 k (cavilref09_FloatOf.go k) false z false z' (i ++ f) ((f.length : Nat) : Int) (unsB x) (decide (x.head? = some 45)) false) ?_ (fun k => rfl)
  simp only [cavilref09_FloatOf.b7]
  have hp := rparse_ev (i ++ f) 10 (by decide) (by rw [List.length_append]; exact hl)
  have hlt := parseN_lt (i ++ f) 10
  have e : parseN (i ++ f) 10 = match accN 10 (i ++ f) 0 with | some v => (v, 0) | none => (0, 9) := by
    unfold parseN
    rw [if_neg hn, dig_hex _ hd, if_neg (by decide)]
    cases accN 10 (i ++ f) 0 <;> rfl
  rw [e] at hp hlt
  unfold partV
  refine Ev.ff rfl (Ev.bind hp ?_)
  cases ha : accN 10 (i ++ f) 0 with
  | none => exact Ev.tt rfl Ev.ret
  | some v =>
    rw [ha] at hlt
    have hv : v < M512 := hlt
    refine Ev.ff rfl (Ev.bif (fun h => ?_) (fun h => ?_))
    · have h := of_decide_eq_true h
      simp only [if_pos (show 5 < (unsB x).length by omega)]
      exact Ev.ret
    · have h := of_decide_eq_false h
      simp only [if_neg (show ¬ 5 < (unsB x).length by omega)]
      refine f9 z z' v f.length (unsB x) _ (by omega) ?_ (unsB x).length 0 0 (by omega) hx (by omega) (by simp) rfl
      have hb := decA_5 (unsB x) hx (by omega)
      have hpi : (if decide (x.head? = some 45) = true then -decA (unsB x) 0 else decA (unsB x) 0) = powI x := by
        unfold powI
        by_cases h : x.head? = some 45
        · rw [if_pos (decide_eq_true h), if_pos h]
        · rw [if_neg (by simpa using h), if_neg h]
      have hpw : -100000 < powI x ∧ powI x < 100000 := by unfold powI; split <;> omega
      rw [hpi]
      refine Ev.succ (f := fun k => cavilref09_FloatOf.b11 k (cavilref09_FloatOf.go k) false z false z' (digs v) false (f.length : Int) (powI x)) ?_ (fun k => rfl)
      simp only [cavilref09_FloatOf.b11]
      have e1 : wr .i64 (powI x - (f.length : Int)) = powI x - (f.length : Int) := v64 (by omega) (by omega)
      have hsc := rscale_ev v 1 (powI x - (f.length : Int)) hv (by decide) (ok_one v) (by omega) (by omega)
      rw [e1]
      refine Ev.bind (to_ev v hv) (Ev.bind (roff_ev 1 (by decide)) (Ev.bind hsc (Ev.ret' ?_)))
      cases scaleF v 1 (powI x - (f.length : Int)) with
      | none => rfl
      | some t => rfl
theorem fscan (hs : p.length ≤ 100000) {R : Bool × List Int × Bool × List Int × Int} : ∀ (m i cnt : Nat) (acc : List UInt8) (dot : Bool), i + m = p.length → cnt ≤ i → acc.length ≤ i →
    Ev (fun k => cavilref09_FloatOf.go k (.l2 false z false z' p ((p.length - (scanM (p.drop i) dot).2.2.2.length : Nat) : Int) (acc ++ (scanM (p.drop i) dot).1) ((cnt + (scanM (p.drop i) dot).2.1 : Nat) : Int) (scanM (p.drop i) dot).2.2.1 [] false)) R →
    Ev (fun k => cavilref09_FloatOf.go k (.l1 false z false z' p (i : Int) acc (cnt : Int) dot [])) R
  | 0, i, cnt, acc, dot, h, h1, h2, hc => by
    refine Ev.succ (f := fun k => cavilref09_FloatOf.b1 k (cavilref09_FloatOf.go k) false z false z' p (i : Int) acc (cnt : Int) dot []) ?_ (fun k => rfl)
    simp only [cavilref09_FloatOf.b1]
    rw [List.drop_eq_nil_of_le (by omega), scanM] at hc
    simp only [List.length_nil, List.append_nil, Nat.add_zero, Nat.sub_zero] at hc
    rw [← h, Nat.add_zero] at hc
    exact Ev.ff (decide_eq_false (by omega)) hc
  | m + 1, i, cnt, acc, dot, h, h1, h2, hc => by
    refine Ev.succ (f := fun k => cavilref09_FloatOf.b1 k (cavilref09_FloatOf.go k) false z false z' p (i : Int) acc (cnt : Int) dot []) ?_ (fun k => rfl)
    simp only [cavilref09_FloatOf.b1]
    have hby : byt p (i : Int) = ((p.getD i 0).toNat : Int) := byt_nat p i
    have hcut := cut_one p i (by omega)
    have hdl : (p.drop (i + 1)).length = m := by rw [List.length_drop]; omega
    have ih := fun cnt' acc' dot' => fscan hs (R := R) m (i + 1) cnt' acc' dot' (by omega)
    have ei : wr .i64 ((i : Int) + 1) = ((i + 1 : Nat) : Int) := by rw [v64 (by omega) (by omega)]; omega
    have ec : wr .i64 ((cnt : Int) + 1) = ((cnt + 1 : Nat) : Int) := by rw [v64 (by omega) (by omega)]; omega
    rw [drop_at p i (by omega), scanM] at hc
    have stop : (if dig ((p.getD i 0).toNat : Int) = true then (p.getD i 0 :: (scanM (p.drop (i + 1)) dot).1, (scanM (p.drop (i + 1)) dot).2.1 + (if dot = true then 1 else 0), (scanM (p.drop (i + 1)) dot).2.2.1, (scanM (p.drop (i + 1)) dot).2.2.2)
      else if ((p.getD i 0).toNat : Int) = 46 ∧ dot = false then scanM (p.drop (i + 1)) true else ([], 0, dot, p.getD i 0 :: p.drop (i + 1))) = ([], 0, dot, p.getD i 0 :: p.drop (i + 1)) → Ev (fun k => cavilref09_FloatOf.go k (.l2 false z false z' p (i : Int) acc (cnt : Int) dot [] false)) R := by
      intro e
      rw [e] at hc
      simp only [List.append_nil, Nat.add_zero, List.length_cons] at hc
      rwa [hdl, show p.length - (m + 1) = i by omega] at hc
    rw [hby]
    generalize p.getD i 0 = c at *
    refine Ev.tt (decide_eq_true (by omega)) (Ev.gk (inB_iff.2 (by omega)) (Ev.bind (rdigit_ev _) (Ev.bif (fun hd => ?_) (fun hd => Ev.gk (inB_iff.2 (by omega)) (Ev.bif (fun h46 => ?_) (fun h46 => ?_))))))
    · rw [if_pos hd] at hc
      refine Ev.succ (f := fun k => cavilref09_FloatOf.b2 k (cavilref09_FloatOf.go k) false z false z' p (i : Int) acc (cnt : Int) dot [] true) ?_ (fun k => rfl)
      simp only [cavilref09_FloatOf.b2]
      have hn46 : ¬ (c.toNat : Int) = 46 := fun e => dig_46 c hd ((c46 c).1 e)
      rw [hby, ei, hcut, ec]
      refine Ev.tt rfl (Ev.gk (inB_iff.2 (by omega)) (Ev.ff (by rw [beq_dec]; exact decide_eq_false hn46) (Ev.gk (cutB_iff.2 (by omega)) (Ev.gk (roomS_iff.2 (by simp only [List.length_cons, List.length_nil]; omega)) (Ev.bif (fun hdt => ?_) (fun hdt => ?_))))))
      · subst hdt
        refine ih (cnt + 1) (acc ++ [c]) true (by omega) (by rw [List.length_append]; simp; omega) ?_
        rw [List.append_assoc]
        simp only [if_true] at hc
        rw [show cnt + ((scanM (p.drop (i + 1)) true).2.1 + 1) = cnt + 1 + (scanM (p.drop (i + 1)) true).2.1 by omega] at hc
        exact hc
      · subst hdt
        refine ih cnt (acc ++ [c]) false (by omega) (by rw [List.length_append]; simp; omega) ?_
        rw [List.append_assoc]
        exact hc
    · have h46 : (c.toNat : Int) = 46 := by simpa using h46
      cases dot with
      | true => exact stop (by rw [if_neg (by rw [hd]; decide), if_neg (by simp)])
      | false =>
        rw [if_neg (by rw [hd]; decide), if_pos ⟨h46, rfl⟩] at hc
        refine Ev.succ (f := fun k => cavilref09_FloatOf.b2 k (cavilref09_FloatOf.go k) false z false z' p (i : Int) acc (cnt : Int) false [] true) ?_ (fun k => rfl)
        simp only [cavilref09_FloatOf.b2]
        rw [hby, ei]
        exact Ev.tt rfl (Ev.gk (inB_iff.2 (by omega)) (Ev.tt (by rw [beq_dec]; exact decide_eq_true h46) (ih cnt acc true (by omega) (by omega) hc)))
    · have h46 : ¬ (c.toNat : Int) = 46 := by simpa using h46
      exact stop (by rw [if_neg (by rw [hd]; decide), if_neg (fun h => h46 h.1)])
def digP (u : List UInt8) : List UInt8 := u.takeWhile (fun c => dig (c.toNat : Int))
theorem fexp (hs : p.length ≤ 100000) (acc : List UInt8) (cnt : Int) (dot neg : Bool) {R : Bool × List Int × Bool × List Int × Int} : ∀ (m i : Nat) (y : List UInt8), i + m = p.length → y.length ≤ i →
    Ev (fun k => cavilref09_FloatOf.go k (.l10 false z false z' p ((i + (digP (p.drop i)).length : Nat) : Int) acc cnt dot (y ++ digP (p.drop i)) neg true false)) R →
    Ev (fun k => cavilref09_FloatOf.go k (.l8 false z false z' p (i : Int) acc cnt dot y neg true)) R
  | 0, i, y, h, hy, hc => by
    refine Ev.succ (f := fun k => cavilref09_FloatOf.b8 k (cavilref09_FloatOf.go k) false z false z' p (i : Int) acc cnt dot y neg true) ?_ (fun k => rfl)
    simp only [cavilref09_FloatOf.b8]
    rw [List.drop_eq_nil_of_le (by omega)] at hc
    simp only [digP, List.takeWhile_nil, List.length_nil, Nat.add_zero, List.append_nil] at hc
    exact Ev.ff (decide_eq_false (by omega)) hc
  | m + 1, i, y, h, hy, hc => by
    refine Ev.succ (f := fun k => cavilref09_FloatOf.b8 k (cavilref09_FloatOf.go k) false z false z' p (i : Int) acc cnt dot y neg true) ?_ (fun k => rfl)
    simp only [cavilref09_FloatOf.b8]
    have hby : byt p (i : Int) = ((p.getD i 0).toNat : Int) := byt_nat p i
    have hcut := cut_one p i (by omega)
    have ih := fexp hs acc cnt dot neg (R := R) m (i + 1)
    have ei : wr .i64 ((i : Int) + 1) = ((i + 1 : Nat) : Int) := by rw [v64 (by omega) (by omega)]; omega
    rw [drop_at p i (by omega)] at hc
    rw [hby]
    generalize p.getD i 0 = c at *
    refine Ev.tt (decide_eq_true (by omega)) (Ev.gk (inB_iff.2 (by omega)) (Ev.bind (rdigit_ev _) ?_))
    cases hd : dig (c.toNat : Int) with
    | false =>
      have e : digP (c :: p.drop (i + 1)) = [] := by unfold digP; rw [List.takeWhile_cons, hd]; rfl
      rw [e, List.append_nil, List.length_nil, Nat.add_zero] at hc
      exact hc
    | true =>
      have e : digP (c :: p.drop (i + 1)) = c :: digP (p.drop (i + 1)) := by unfold digP; rw [List.takeWhile_cons, hd]; rfl
      rw [e] at hc
      refine Ev.succ (f := fun k => cavilref09_FloatOf.b10 k (cavilref09_FloatOf.go k) false z false z' p (i : Int) acc cnt dot y neg true true) ?_ (fun k => rfl)
      simp only [cavilref09_FloatOf.b10]
      rw [ei, hcut]
      refine Ev.tt rfl (Ev.gk (cutB_iff.2 (by omega)) (Ev.gk (roomS_iff.2 (by simp only [List.length_cons, List.length_nil]; omega)) (ih (y ++ [c]) (by omega) (by rw [List.length_append]; simp; omega) ?_)))
      rw [List.append_assoc]
      rw [List.length_cons, show i + ((digP (p.drop (i + 1))).length + 1) = i + 1 + (digP (p.drop (i + 1))).length by omega] at hc
      exact hc
theorem digP_all : ∀ (u : List UInt8), (allD u = true → digP u = u) ∧ (allD u = false → (digP u).length < u.length)
  | [] => ⟨fun _ => rfl, fun h => by cases h⟩
  | c :: t => by
    obtain ⟨i1, i2⟩ := digP_all t
    have ha : allD (c :: t) = (dig (c.toNat : Int) && allD t) := rfl
    rw [ha]
    unfold digP at i1 i2 ⊢
    rw [List.takeWhile_cons]
    cases hd : dig (c.toNat : Int) with
    | true =>
      refine ⟨fun h => ?_, fun h => ?_⟩
      · simp only [if_true]; rw [i1 h]
      · have := i2 h
        simp only [if_true, List.length_cons]; omega
    | false => exact ⟨fun h => (by cases h), fun _ => by simp⟩
/-- Behind the exponent: all that follows is digits, or it is no literal. -/
theorem fexp_end (hs : p.length ≤ 100000) (acc : List UInt8) (cnt : Int) (dot neg : Bool) (i : Nat) (hi : i ≤ p.length) {R : Bool × List Int × Bool × List Int × Int}
    (hbad : p.drop i = [] ∨ allD (p.drop i) = false ∨ acc = [] → R = resK (none, 8)) (hok : p.drop i ≠ [] → allD (p.drop i) = true → acc ≠ [] → Ev (fun k => cavilref09_FloatOf.go k (.l7 false z false z' acc cnt (p.drop i) neg false)) R) :
    Ev (fun k => cavilref09_FloatOf.go k (.l8 false z false z' p (i : Int) acc cnt dot [] neg true)) R := by
  refine fexp z z' p hs acc cnt dot neg (p.length - i) i [] (by omega) (by simp) ?_
  rw [List.nil_append]
  obtain ⟨d1, d2⟩ := digP_all (p.drop i)
  have hdl : (p.drop i).length = p.length - i := List.length_drop
  refine Ev.succ (f := fun k => cavilref09_FloatOf.b10 k (cavilref09_FloatOf.go k) false z false z' p _ acc cnt dot (digP (p.drop i)) neg true false) ?_ (fun k => rfl)
  simp only [cavilref09_FloatOf.b10]
  refine Ev.ff rfl (Ev.bif (fun h => ?_) (fun h => ?_))
  · have h : digP (p.drop i) = [] := by simpa using h
    have : R = resK (none, 8) := by
      cases ha : allD (p.drop i) with
      | true =>
        have := d1 ha
        rw [h] at this
        exact hbad (.inl this.symm)
      | false => exact hbad (.inr (.inl ha))
    rw [this]
    exact Ev.ret
  · have h : digP (p.drop i) ≠ [] := by simpa using h
    refine Ev.succ (f := fun k => cavilref09_FloatOf.b5 k (cavilref09_FloatOf.go k) false z false z' p _ acc cnt dot (digP (p.drop i)) neg true) ?_ (fun k => rfl)
    simp only [cavilref09_FloatOf.b5]
    cases ha : allD (p.drop i) with
    | false =>
      have := d2 ha
      rw [hbad (.inr (.inl ha))]
      exact Ev.tt (decide_eq_true (by omega)) (f7t z z' _ _ _ _)
    | true =>
      rw [d1 ha]
      rw [d1 ha] at h
      refine Ev.ff (decide_eq_false (by omega)) (Ev.bif (fun h2 => ?_) (fun h2 => ?_))
      · have h2 : acc = [] := by simpa using h2
        rw [hbad (.inr (.inr h2))]
        exact f7t z z' _ _ _ _
      · have h2 : acc ≠ [] := by simpa using h2
        have hk := hok h ha h2
        refine Ev.bif (fun _ => ?_) (fun _ => ?_)
        · exact hk
        · exact hk
end
end Go.Proofs.YtaakccdfgejgpaaGreatDoor.Pure
namespace Go.Proofs.YtaakccdfgejgpaaGreatDoor.Pure
open Go Abs
set_option linter.unusedVariables false
set_option linter.unusedSimpArgs false

theorem scan_suf : ∀ (p : List UInt8) (dot : Bool), (scanM p dot).2.2.2 <:+ p
  | [], dot => List.suffix_refl _
  | c :: t, dot => by
    rw [scanM]
    split
    · exact (scan_suf t dot).trans (List.suffix_cons c t)
    · split
      · exact (scan_suf t true).trans (List.suffix_cons c t)
      · exact List.suffix_refl _
theorem nE_no {c : UInt8} (h : nE c = true) : (c.toNat : Int) ≠ 101 ∧ (c.toNat : Int) ≠ 69 := by
  unfold nE at h
  simp only [Bool.not_eq_true', Bool.or_eq_false_iff, decide_eq_false_iff_not] at h
  exact h
theorem nE_yes {c : UInt8} (h : nE c = false) : (c.toNat : Int) = 101 ∨ (c.toNat : Int) = 69 := by
  unfold nE at h
  simp only [Bool.not_eq_false', Bool.or_eq_true, decide_eq_true_eq] at h
  exact h
theorem exB_head (p : List UInt8) (c : UInt8) (y : List UInt8) (h : exB p = c :: y) : nE c = false := by
  have : ∀ l : List UInt8, l.dropWhile nE = c :: y → nE c = false := by
    intro l
    induction l with
    | nil => intro h; cases h
    | cons a t ih =>
      intro h
      rw [List.dropWhile_cons] at h
      cases ha : nE a with
      | true => rw [ha] at h; exact ih h
      | false =>
        rw [ha] at h
        simp only [Bool.false_eq_true, if_false, List.cons.injEq] at h
        rw [← h.1]
        exact ha
  exact this p h
/-- What a text without blanks is worth. -/
def pointF (p : List UInt8) : Option (Nat × Nat) × Int := if (partsF p).2.2.2 = false then (none, 8) else partV (partsF p).1 (partsF p).2.1 (partsF p).2.2.1
theorem byt_suf (p : List UInt8) (i : Nat) (c : UInt8) (r : List UInt8) (h : p.drop i = c :: r) : i < p.length ∧ byt p (i : Int) = (c.toNat : Int) ∧ p.drop (i + 1) = r := by
  have hlt : i < p.length := by
    refine Nat.lt_of_not_le fun hle => ?_
    rw [List.drop_eq_nil_of_le hle] at h
    cases h
  rw [drop_at p i hlt] at h
  simp only [List.cons.injEq] at h
  exact ⟨hlt, by rw [byt_nat, h.1], h.2⟩
theorem fexp0 (z z' : List Int) (p : List UInt8) (hs : p.length ≤ 100000) (acc : List UInt8) (cnt : Int) (dot : Bool) (e : Nat) (y : List UInt8) (hle : e < p.length) (hy : p.drop (e + 1) = y) {R : Bool × List Int × Bool × List Int × Int}
    (hbad : unsB y = [] ∨ allD (unsB y) = false ∨ acc = [] → R = resK (none, 8)) (hok : unsB y ≠ [] → allD (unsB y) = true → acc ≠ [] → Ev (fun k => cavilref09_FloatOf.go k (.l7 false z false z' acc cnt (unsB y) (decide (y.head? = some 45)) false)) R) :
    Ev (fun k => cavilref09_FloatOf.go k (.l3 false z false z' p (e : Int) acc cnt dot [] false false true)) R := by
  refine Ev.succ (f := fun k => cavilref09_FloatOf.b3 k (cavilref09_FloatOf.go k) false z false z' p (e : Int) acc cnt dot [] false false true) ?_ (fun k => rfl)
  simp only [cavilref09_FloatOf.b3]
  have ei : wr .i64 ((e : Int) + 1) = ((e + 1 : Nat) : Int) := by rw [v64 (by omega) (by omega)]; omega
  have ei2 : wr .i64 (((e + 1 : Nat) : Int) + 1) = ((e + 2 : Nat) : Int) := by rw [v64 (by omega) (by omega)]; omega
  rw [ei]
  have fin : ∀ (i : Nat) (neg : Bool), i ≤ p.length → p.drop i = unsB y → neg = decide (y.head? = some 45) → Ev (fun k => cavilref09_FloatOf.go k (.l6 false z false z' p (i : Int) acc cnt dot [] neg true)) R := by
    intro i neg hi hu hn
    refine Ev.succ (f := fun k => cavilref09_FloatOf.b6 k (cavilref09_FloatOf.go k) false z false z' p (i : Int) acc cnt dot [] neg true) ?_ (fun k => rfl)
    simp only [cavilref09_FloatOf.b6]
    rw [← hu] at hbad hok
    rw [← hn] at hok
    exact fexp_end z z' p hs acc cnt dot neg i hi hbad hok
  have l4f : ∀ q, q = false → unsB y = y → y.head? ≠ some 45 → Ev (fun k => cavilref09_FloatOf.go k (.l4 false z false z' p ((e + 1 : Nat) : Int) acc cnt dot [] false true q)) R := by
    rintro q rfl hu hh
    refine Ev.succ (f := fun k => cavilref09_FloatOf.b4 k (cavilref09_FloatOf.go k) false z false z' p ((e + 1 : Nat) : Int) acc cnt dot [] false true false) ?_ (fun k => rfl)
    exact Ev.ff rfl (fin (e + 1) false (by omega) (by rw [hy, hu]) (decide_eq_false hh).symm)
  cases y with
  | nil =>
    have hl : p.length ≤ e + 1 := List.drop_eq_nil_iff.1 hy
    exact Ev.tt rfl (Ev.ff (decide_eq_false (by omega)) (l4f _ rfl rfl (by simp)))
  | cons c t =>
    obtain ⟨h1, h2, h3⟩ := byt_suf p (e + 1) c t hy
    have l4t : ∀ q, q = true → unsB (c :: t) = t → Ev (fun k => cavilref09_FloatOf.go k (.l4 false z false z' p ((e + 1 : Nat) : Int) acc cnt dot [] false true q)) R := by
      rintro q rfl hu
      refine Ev.succ (f := fun k => cavilref09_FloatOf.b4 k (cavilref09_FloatOf.go k) false z false z' p ((e + 1 : Nat) : Int) acc cnt dot [] false true true) ?_ (fun k => rfl)
      simp only [cavilref09_FloatOf.b4]
      rw [ei2, h2]
      refine Ev.tt rfl (Ev.gk (inB_iff.2 (by omega)) (fin (e + 2) _ (by omega) (by rw [hu]; exact h3) ?_))
      rw [beq_dec, decide_eq_decide, List.head?_cons]
      constructor
      · intro h
        have : c.toNat = (45 : UInt8).toNat := by show c.toNat = 45; omega
        rw [UInt8.toNat_inj.1 this]
      · intro h
        cases h
        rfl
    rw [h2]
    refine Ev.tt rfl (Ev.tt (decide_eq_true (by omega)) (Ev.gk (inB_iff.2 (by omega)) (Ev.bif (fun h => ?_) (fun h => Ev.gk (inB_iff.2 (by omega)) ?_))))
    · have h : (c.toNat : Int) = 43 := by simpa using h
      have hc : c = 43 := by
        have : c.toNat = (43 : UInt8).toNat := by show c.toNat = 43; omega
        exact UInt8.toNat_inj.1 this
      exact l4t _ rfl (by rw [unsB, if_pos (.inr hc)])
    · have h : ¬ (c.toNat : Int) = 43 := by simpa using h
      have hc43 : c ≠ 43 := by intro e; subst e; exact h rfl
      by_cases h45 : (c.toNat : Int) = 45
      · have hc : c = 45 := by
          have : c.toNat = (45 : UInt8).toNat := by show c.toNat = 45; omega
          exact UInt8.toNat_inj.1 this
        exact l4t _ (by rw [beq_dec]; exact decide_eq_true h45) (by rw [unsB, if_pos (.inl hc)])
      · have hc45 : c ≠ 45 := by intro e; subst e; exact h45 rfl
        exact l4f _ (by rw [beq_dec]; exact decide_eq_false h45) (by rw [unsB, if_neg (fun h => h.elim hc45 hc43)]) (by rw [List.head?_cons]; intro h; exact hc45 (Option.some.inj h))
theorem point_ev (z z' : List Int) (p : List UInt8) (hs : p.length ≤ 100000) : Ev (fun k => cavilref09_FloatOf.go k (.l1 false z false z' p 0 [] 0 false [])) (resK (pointF p)) := by
  refine fscan z z' p hs p.length 0 0 [] false (by omega) (Nat.le_refl _) (by simp) ?_
  rw [List.drop_zero, List.nil_append, Nat.zero_add]
  have hsuf := List.suffix_iff_eq_drop.1 (scan_suf p false)
  have hsl := (scan_len p false).2.2
  obtain ⟨s1, s2⟩ := scan_all p
  have hme := congrArg List.length (mant_ex p)
  rw [List.length_append] at hme
  have hta := congrArg List.length (List.takeWhile_append_dropWhile (p := nD) (l := mantB p))
  rw [List.length_append] at hta
  have htl := List.length_tail (l := (mantB p).dropWhile nD)
  by_cases g : (allD ((mantB p).takeWhile nD) && allD (((mantB p).dropWhile nD).tail)) = true
  · have g1 : allD ((mantB p).takeWhile nD) = true := (Bool.and_eq_true_iff.1 g).1
    have g2 : allD (((mantB p).dropWhile nD).tail) = true := (Bool.and_eq_true_iff.1 g).2
    rw [s1 g1 g2] at hsuf ⊢
    have hall : allD ((mantB p).takeWhile nD ++ ((mantB p).dropWhile nD).tail) = true := by
      unfold allD at g1 g2 ⊢
      rw [List.all_append, g1, g2]
      rfl
    have hsuf : exB p = p.drop (p.length - (exB p).length) := hsuf
    show Ev (fun k => cavilref09_FloatOf.go k (.l2 false z false z' p ((p.length - (exB p).length : Nat) : Int) ((mantB p).takeWhile nD ++ ((mantB p).dropWhile nD).tail) (((((mantB p).dropWhile nD).tail).length : Nat) : Int) (decide ((mantB p).dropWhile nD ≠ [])) [] false)) (resK (pointF p))
    have hP : ¬ (exB p ≠ [] ∧ (unsB (exT p) = [] ∨ allD (unsB (exT p)) = false)) → partsF p = ((mantB p).takeWhile nD, ((mantB p).dropWhile nD).tail, exT p, decide ((mantB p).takeWhile nD ++ ((mantB p).dropWhile nD).tail ≠ []) && (decide ((mantB p).dropWhile nD ≠ []) || decide (exB p ≠ []))) := by
      intro h
      unfold partsF
      rw [if_neg h, g1, g2, Bool.true_and, Bool.true_and]
    have hf7 : allD (unsB (exT p)) = true → (mantB p).takeWhile nD ++ ((mantB p).dropWhile nD).tail ≠ [] → Ev (fun k => cavilref09_FloatOf.go k (.l7 false z false z' ((mantB p).takeWhile nD ++ ((mantB p).dropWhile nD).tail) (((((mantB p).dropWhile nD).tail).length : Nat) : Int) (unsB (exT p)) (decide ((exT p).head? = some 45)) false)) (resK (partV ((mantB p).takeWhile nD) (((mantB p).dropWhile nD).tail) (exT p))) :=
      fun hx hn => f7f z z' _ _ _ hn hall hx (by omega)
    refine Ev.succ (f := fun k => cavilref09_FloatOf.b2 k (cavilref09_FloatOf.go k) false z false z' p _ _ _ _ [] false) ?_ (fun k => rfl)
    simp only [cavilref09_FloatOf.b2]
    cases hx : exB p with
    | nil =>
      have hT : exT p = [] := by unfold exT; rw [hx]; rfl
      have hP := hP (fun h => h.1 hx)
      rw [hx] at hP
      rw [hT] at hP hf7
      refine Ev.ff rfl (Ev.ff (decide_eq_false (by simp)) ?_)
      refine Ev.succ (f := fun k => cavilref09_FloatOf.b3 k (cavilref09_FloatOf.go k) false z false z' p _ _ _ _ [] false false false) ?_ (fun k => rfl)
      refine Ev.ff rfl ?_
      refine Ev.succ (f := fun k => cavilref09_FloatOf.b5 k (cavilref09_FloatOf.go k) false z false z' p _ _ _ _ [] false false) ?_ (fun k => rfl)
      simp only [cavilref09_FloatOf.b5]
      unfold pointF
      rw [hP]
      simp only
      refine Ev.ff (decide_eq_false (by simp)) (Ev.bif (fun h => ?_) (fun h => Ev.bif (fun h2 => ?_) (fun h2 => ?_)))
      · have h : (mantB p).takeWhile nD ++ ((mantB p).dropWhile nD).tail = [] := by simpa using h
        rw [if_pos (by rw [decide_eq_false (fun hh => hh h)]; rfl)]
        exact f7t z z' _ _ _ _
      · have h : (mantB p).takeWhile nD ++ ((mantB p).dropWhile nD).tail ≠ [] := by simpa using h
        have h2 : decide ((mantB p).dropWhile nD ≠ []) = false := by simpa using h2
        rw [if_pos (by rw [h2]; simp)]
        exact f7t z z' _ _ _ _
      · have h : (mantB p).takeWhile nD ++ ((mantB p).dropWhile nD).tail ≠ [] := by simpa using h
        have h2 : decide ((mantB p).dropWhile nD ≠ []) = true := by simpa using h2
        rw [if_neg (by rw [decide_eq_true h, h2]; decide)]
        exact hf7 rfl h
    | cons c y =>
      have hT : exT p = y := by unfold exT; rw [hx]; rfl
      have hE := nE_yes (exB_head p c y hx)
      rw [hx] at hsuf hP
      rw [hT] at hP hf7
      obtain ⟨b1, b2, b3⟩ := byt_suf p _ c y hsuf.symm
      have go3 : Ev (fun k => cavilref09_FloatOf.go k (.l3 false z false z' p ((p.length - (c :: y).length : Nat) : Int) ((mantB p).takeWhile nD ++ ((mantB p).dropWhile nD).tail) (((((mantB p).dropWhile nD).tail).length : Nat) : Int) (decide ((mantB p).dropWhile nD ≠ [])) [] false false true)) (resK (pointF p)) := by
        refine fexp0 z z' p hs _ _ _ _ y b1 b3 (fun h => ?_) (fun h1 h2 h3 => ?_)
        · have : (partsF p).2.2.2 = false := by
            by_cases hq : unsB y = [] ∨ allD (unsB y) = false
            · unfold partsF
              rw [hT, if_pos ⟨by rw [hx]; simp, hq⟩]
            · rw [hP (fun h => hq h.2)]
              have : (mantB p).takeWhile nD ++ ((mantB p).dropWhile nD).tail = [] := by
                rcases h with h | h | h
                · exact absurd (.inl h) hq
                · exact absurd (.inr h) hq
                · exact h
              simp only
              rw [decide_eq_false (fun hh => hh this)]
              rfl
          unfold pointF
          rw [if_pos this]
        · have hP := hP (fun h => h.2.elim h1 (fun h => by rw [h2] at h; cases h))
          unfold pointF
          rw [hP]
          simp only
          rw [if_neg (by rw [decide_eq_true h3]; simp)]
          exact hf7 h2 h3
      rw [b2]
      refine Ev.ff rfl (Ev.tt (decide_eq_true (by omega)) (Ev.gk (inB_iff.2 (by omega)) (Ev.bif (fun h => go3) (fun h => Ev.gk (inB_iff.2 (by omega)) ?_))))
      have h : ¬ (c.toNat : Int) = 101 := by simpa using h
      rw [beq_dec, decide_eq_true (hE.resolve_left h)]
      exact go3
  · have g : (allD ((mantB p).takeWhile nD) && allD (((mantB p).dropWhile nD).tail)) = false := by simpa using g
    obtain ⟨c, r, h1, h2⟩ := s2 g
    have hR : pointF p = (none, 8) := by
      unfold pointF
      rw [if_pos]
      unfold partsF
      split
      · rfl
      · simp only
        rw [← Bool.and_assoc, g]
        rfl
    rw [hR]
    rw [h1] at hsuf
    obtain ⟨b1, b2, b3⟩ := byt_suf p _ c r hsuf.symm
    have hno := nE_no h2
    rw [h1]
    refine Ev.succ (f := fun k => cavilref09_FloatOf.b2 k (cavilref09_FloatOf.go k) false z false z' p _ _ _ _ [] false) ?_ (fun k => rfl)
    simp only [cavilref09_FloatOf.b2]
    rw [b2]
    refine Ev.ff rfl (Ev.tt (decide_eq_true (by omega)) (Ev.gk (inB_iff.2 (by omega)) (Ev.ff (by rw [beq_dec]; exact decide_eq_false hno.1) (Ev.gk (inB_iff.2 (by omega)) ?_))))
    rw [beq_dec, decide_eq_false hno.2]
    refine Ev.succ (f := fun k => cavilref09_FloatOf.b3 k (cavilref09_FloatOf.go k) false z false z' p _ _ _ _ [] false false false) ?_ (fun k => rfl)
    refine Ev.ff rfl ?_
    refine Ev.succ (f := fun k => cavilref09_FloatOf.b5 k (cavilref09_FloatOf.go k) false z false z' p _ _ _ _ [] false false) ?_ (fun k => rfl)
    exact Ev.tt (decide_eq_true (by omega)) (f7t z z' _ _ _ _)
theorem floatof_ev (s : List UInt8) (hs : s.length ≤ 100000) : Ev (fun k => cavilref09_FloatOf.m k s) (resK (floatF s)) := by
  refine Ev.succ (f := fun k => cavilref09_FloatOf.b0 k (cavilref09_FloatOf.go k) s) ?_ (fun k => rfl)
  simp only [cavilref09_FloatOf.b0]
  have hst := strip_le s
  refine Ev.bind (rspaced_ev s false hs) (Ev.bif (fun h => ?_) (fun h => Ev.bind (without_ev s hs) ?_))
  · have h : spacedF s false = false := by simpa using h
    unfold floatF
    rw [if_pos (.inr h)]
    exact Ev.ret
  · have h : spacedF s false = true := by simpa using h
    have := point_ev (List.replicate 8 0) (List.replicate 8 0) (strip s) (by omega)
    refine this.to ?_
    unfold floatF pointF
    rw [h]
    congr 1
    by_cases h1 : (partsF (strip s)).2.2.2 = false
    · rw [if_pos h1, if_pos (.inl h1)]
    · rw [if_neg h1, if_neg (fun hh => hh.elim h1 (fun hh => by cases hh))]
theorem rvalue_ev (t : Int) (s : List UInt8) (hs : s.length ≤ 100000) : Ev (fun k => cavilref09_Value.m k t s) (resK (valueF t s)) := by
  refine Ev.succ (f := fun k => cavilref09_Value.b0 k t s) ?_ (fun k => rfl)
  simp only [cavilref09_Value.b0]
  unfold valueF
  refine Ev.bif (fun h => ?_) (fun h => Ev.bif (fun h' => ?_) (fun h' => ?_))
  · have h : t = 2 := by simpa using h
    subst h
    rw [if_neg (by decide), if_pos rfl]
    refine Ev.bind (intof_ev s hs) ?_
    have hv := intF_lt s
    unfold resI
    by_cases h0 : (intF s).2 = 0
    · rw [if_pos h0]
      refine Ev.ff ?_ (Ev.bind (to_ev _ hv) (Ev.bind (roff_ev 1 (by decide)) Ev.ret))
      simp only
      rw [bne, beq_dec, decide_eq_true h0]
      rfl
    · rw [if_neg h0]
      refine Ev.tt ?_ Ev.ret
      simp only
      rw [bne, beq_dec, decide_eq_false h0]
      rfl
  · have h' : t = 3 := by simpa using h'
    rw [if_pos h']
    exact Ev.bind (floatof_ev s hs) Ev.ret
  · rw [if_neg (by simpa using h'), if_neg (by simpa using h)]
    exact Ev.ret
end Go.Proofs.YtaakccdfgejgpaaGreatDoor.Pure
namespace Go.Proofs.YtaakccdfgejgpaaGreatDoor.Pure
open Go Abs
set_option linter.unusedVariables false
set_option linter.unusedSimpArgs false

theorem rbody_go (b : List UInt8) (at_ : Int) (hs : b.length ≤ 100000) (h0 : 0 ≤ at_) : ∀ (m : Nat) (e : Int), at_ ≤ e → e ≤ (b.length : Int) → (b.length : Int) - e ≤ m →
    Ev (fun k => cavilref09_Body.go k (.l4 b at_ (hexB b at_) e)) (cut b at_ (endB b at_ (hexB b at_) m e))
  | 0, e, h1, h2, h3 => by
    refine Ev.succ (f := fun k => cavilref09_Body.b4 k (cavilref09_Body.go k) b at_ (hexB b at_) e) ?_ (fun k => rfl)
    simp only [cavilref09_Body.b4]
    exact Ev.ff (decide_eq_false (by omega)) (Ev.gk (cutB_iff.2 (by omega)) Ev.ret)
  | m + 1, e, h1, h2, h3 => by
    refine Ev.succ (f := fun k => cavilref09_Body.b4 k (cavilref09_Body.go k) b at_ (hexB b at_) e) ?_ (fun k => rfl)
    simp only [cavilref09_Body.b4, getD_byt]
    unfold endB
    by_cases hle : (b.length : Int) ≤ e
    · rw [if_pos hle]
      exact Ev.ff (decide_eq_false (by omega)) (Ev.gk (cutB_iff.2 (by omega)) Ev.ret)
    · rw [if_neg hle]
      have hc := byt_lo' b e
      have e1 : wr .i64 (e + 1) = e + 1 := v64 (by omega) (by omega)
      have e2 : wr .i64 (e - 1) = e - 1 := v64 (by omega) (by omega)
      have ih := rbody_go b at_ hs h0 m (e + 1) (by omega) (by omega) (by omega)
      have l7 : ∀ q, q = (isW (byt b e) || signB b at_ (hexB b at_) e) → Ev (fun k => cavilref09_Body.go k (.l7 b at_ (hexB b at_) e q)) (cut b at_ (if (isW (byt b e) || signB b at_ (hexB b at_) e) = true then endB b at_ (hexB b at_) m (e + 1) else e)) := by
        intro q hq
        rw [← hq]
        refine Ev.succ (f := fun k => cavilref09_Body.b7 k (cavilref09_Body.go k) b at_ (hexB b at_) e q) ?_ (fun k => rfl)
        simp only [cavilref09_Body.b7]
        rw [e1]
        cases q with
        | true => exact Ev.ff rfl ih
        | false => exact Ev.tt rfl (Ev.gk (cutB_iff.2 (by omega)) Ev.ret)
      have l6 : ∀ q, q = signB b at_ (hexB b at_) e → Ev (fun k => cavilref09_Body.go k (.l6 b at_ (hexB b at_) e (isW (byt b e)) q)) (cut b at_ (if (isW (byt b e) || signB b at_ (hexB b at_) e) = true then endB b at_ (hexB b at_) m (e + 1) else e)) := by
        intro q hq
        refine Ev.succ (f := fun k => cavilref09_Body.b6 k (cavilref09_Body.go k) b at_ (hexB b at_) e (isW (byt b e)) q) ?_ (fun k => rfl)
        simp only [cavilref09_Body.b6]
        cases q with
        | true => exact Ev.tt rfl (l7 _ (by rw [← hq, Bool.or_true]))
        | false => exact Ev.ff rfl (l7 _ (by rw [← hq, Bool.or_false]))
      have sg : (byt b e = 43 ∨ byt b e = 45) → signB b at_ (hexB b at_) e = (!hexB b at_ && (decide (at_ < e) && (decide (byt b (e - 1) = 101) || decide (byt b (e - 1) = 69)))) := by
        intro hcc
        have hcb : (decide (byt b e = 43) || decide (byt b e = 45)) = true := by rcases hcc with h | h <;> simp [h]
        unfold signB; rw [hcb, Bool.true_and]
      have sgn : (byt b e = 43 ∨ byt b e = 45) → Ev (fun k => bif (!hexB b at_) then (bif (decide (e > at_)) then gk (inB (e - 1) b.length) (bif (byt b (e - 1) == 101) then cavilref09_Body.go k (.l6 b at_ (hexB b at_) e (isW (byt b e)) true) else gk (inB (e - 1) b.length) (cavilref09_Body.go k (.l6 b at_ (hexB b at_) e (isW (byt b e)) (byt b (e - 1) == 69)))) else cavilref09_Body.go k (.l6 b at_ (hexB b at_) e (isW (byt b e)) false)) else cavilref09_Body.go k (.l6 b at_ (hexB b at_) e (isW (byt b e)) false)) (cut b at_ (if (isW (byt b e) || signB b at_ (hexB b at_) e) = true then endB b at_ (hexB b at_) m (e + 1) else e)) := by
        intro hcc
        have hs1 := sg hcc
        refine Ev.bif (fun hh => Ev.bif (fun hg => Ev.gk (inB_iff.2 (by have := of_decide_eq_true hg; omega)) (Ev.bif (fun h1 => l6 _ ?_) (fun h1 => Ev.gk (inB_iff.2 (by have := of_decide_eq_true hg; omega)) (l6 _ ?_)))) (fun hg => l6 _ ?_)) (fun hh => l6 _ ?_)
        · have hg := of_decide_eq_true hg
          have h1 : byt b (e - 1) = 101 := by simpa using h1
          rw [hs1, hh, decide_eq_true (show at_ < e by omega), decide_eq_true h1]
          rfl
        · have hg := of_decide_eq_true hg
          have h1 : ¬ byt b (e - 1) = 101 := by simpa using h1
          rw [hs1, hh, decide_eq_true (show at_ < e by omega), decide_eq_false h1, beq_dec]
          rfl
        · have hg := of_decide_eq_false hg
          rw [hs1, decide_eq_false (show ¬ at_ < e by omega)]
          simp
        · rw [hs1, hh]
          rfl
      have l5 : ∀ q, q = isW (byt b e) → Ev (fun k => cavilref09_Body.go k (.l5 b at_ (hexB b at_) e (byt b e) q)) (cut b at_ (if (isW (byt b e) || signB b at_ (hexB b at_) e) = true then endB b at_ (hexB b at_) m (e + 1) else e)) := by
        rintro q rfl
        refine Ev.succ (f := fun k => cavilref09_Body.b5 k (cavilref09_Body.go k) b at_ (hexB b at_) e (byt b e) (isW (byt b e))) ?_ (fun k => rfl)
        simp only [cavilref09_Body.b5, getD_byt]
        rw [e2]
        refine Ev.bif (fun h => ?_) (fun h => Ev.bif (fun h' => ?_) (fun h' => l6 _ ?_))
        · exact sgn (.inl (by simpa using h))
        · exact sgn (.inr (by simpa using h'))
        · have h1 : ¬ byt b e = 43 := by simpa using h
          have h2 : ¬ byt b e = 45 := by simpa using h'
          unfold signB
          simp [h1, h2]
      refine Ev.tt (decide_eq_true (by omega)) (Ev.gk (inB_iff.2 (by omega)) (Ev.bind (letter_ev _ hc.1 hc.2) (Ev.bif (fun hl => l5 _ ?_) (fun hl => Ev.bind (rdigit_ev _) (Ev.bif (fun hd => l5 _ ?_) (fun hd => Ev.bif (fun h95 => l5 _ ?_) (fun h95 => l5 _ ?_)))))))
      · unfold isW; rw [hl]; simp
      · unfold isW; rw [hd]; simp
      · have : byt b e = 95 := by simpa using h95
        unfold isW; rw [decide_eq_true this]; rfl
      · have : ¬ byt b e = 95 := by simpa using h95
        unfold isW; rw [hl, hd, decide_eq_false this, beq_dec]; simp
theorem rbody_ev (b : List UInt8) (at_ : Int) (hs : b.length ≤ 100000) : Ev (fun k => cavilref09_Body.m k b at_) (bodyF b at_) := by
  have l3 : startB b at_ = true → Ev (fun k => cavilref09_Body.go k (.l3 b at_)) (bodyF b at_) := by
    intro hst
    obtain ⟨h0, hl, hd⟩ := (startB_iff _ _).1 hst
    refine Ev.succ (f := fun k => cavilref09_Body.b3 k (cavilref09_Body.go k) b at_) ?_ (fun k => rfl)
    simp only [cavilref09_Body.b3]
    unfold bodyF
    rw [if_pos hst]
    refine Ev.gk (cutB_iff.2 (by omega)) (Ev.bind (rbase_ev _) ?_)
    have hh : ((baseN (cut b at_ (b.length : Int)) : Int) == 16) = hexB b at_ := by
      unfold hexB
      rw [beq_dec, decide_eq_decide]
      omega
    rw [hh]
    exact rbody_go b at_ hs h0 b.length at_ (Int.le_refl _) (by omega) (by omega)
  have no : startB b at_ = false → bodyF b at_ = [] := by
    intro h
    unfold bodyF
    rw [if_neg (by rw [h]; decide)]
  have l2 : ∀ q, q = !startB b at_ → Ev (fun k => cavilref09_Body.go k (.l2 b at_ q)) (bodyF b at_) := by
    intro q hq
    refine Ev.succ (f := fun k => cavilref09_Body.b2 k (cavilref09_Body.go k) b at_ q) ?_ (fun k => rfl)
    simp only [cavilref09_Body.b2]
    cases q with
    | true =>
      rw [no (by simpa using hq.symm)]
      exact Ev.tt rfl Ev.ret
    | false => exact Ev.ff rfl (l3 (by simpa using hq.symm))
  have l1 : ∀ q, q = decide (at_ < 0 ∨ (b.length : Int) ≤ at_) → Ev (fun k => cavilref09_Body.go k (.l1 b at_ q)) (bodyF b at_) := by
    intro q hq
    refine Ev.succ (f := fun k => cavilref09_Body.b1 k (cavilref09_Body.go k) b at_ q) ?_ (fun k => rfl)
    simp only [cavilref09_Body.b1, getD_byt]
    refine Ev.bif (fun h => ?_) (fun h => ?_)
    · rw [h] at hq
      have hh := of_decide_eq_true hq.symm
      rw [no (by
        unfold startB
        rcases hh with hh | hh
        · rw [decide_eq_false (show ¬ 0 ≤ at_ by omega)]; rfl
        · rw [decide_eq_false (show ¬ at_ < (b.length : Int) by omega)]; simp)]
      exact Ev.ret
    · rw [h] at hq
      have hh := of_decide_eq_false hq.symm
      have e1 : wr .i64 (at_ + 1) = at_ + 1 := v64 (by omega) (by omega)
      rw [e1]
      have hs0 : startB b at_ = (dig (byt b at_) || (decide (byt b at_ = 46) && (decide (at_ + 1 < (b.length : Int)) && dig (byt b (at_ + 1))))) := by
        unfold startB
        rw [decide_eq_true (show 0 ≤ at_ by omega), decide_eq_true (show at_ < (b.length : Int) by omega)]
        rfl
      refine Ev.gk (inB_iff.2 (by omega)) (Ev.bind (rdigit_ev _) (Ev.bif (fun hd => Ev.gk (inB_iff.2 (by omega)) (Ev.bif (fun hc => l2 _ ?_) (fun hc => Ev.bif (fun he => l2 _ ?_) (fun he => Ev.gk (inB_iff.2 ?_) (Ev.bind (rdigit_ev _) (l2 _ ?_)))))) (fun hd => l3 ?_)))
      · have hd : dig (byt b at_) = false := by simpa using hd
        have hc : byt b at_ ≠ 46 := by simpa using hc
        rw [hs0]; simp [hd, hc]
      · have hd : dig (byt b at_) = false := by simpa using hd
        have he := of_decide_eq_true he
        rw [hs0, hd, decide_eq_false (show ¬ at_ + 1 < (b.length : Int) by omega)]
        simp
      · have he := of_decide_eq_false he
        omega
      · have hd : dig (byt b at_) = false := by simpa using hd
        have hc : byt b at_ = 46 := by simpa using hc
        have he := of_decide_eq_false he
        rw [hs0, hd, decide_eq_true hc, decide_eq_true (show at_ + 1 < (b.length : Int) by omega)]
        simp
      · have hd : dig (byt b at_) = true := by simpa using hd
        rw [hs0, hd]; rfl
  refine Ev.succ (f := fun k => cavilref09_Body.b0 k (cavilref09_Body.go k) b at_) ?_ (fun k => rfl)
  simp only [cavilref09_Body.b0]
  refine Ev.bif (fun h => l1 _ ?_) (fun h => l1 _ ?_)
  · have h := of_decide_eq_true h
    exact (decide_eq_true (.inl h)).symm
  · have h := of_decide_eq_false h
    rw [decide_eq_decide]
    omega
/-! ### Its kind -/
def pointC (c : UInt8) : Bool := decide ((c.toNat : Int) = 46) || !nE c
theorem point_any : ∀ l : List UInt8, l.any pointC = decide (0 ≤ Lib.indexByte l 46 ∨ exB l ≠ [])
  | [] => by rfl
  | c :: t => by
    have ih := point_any t
    rw [List.any_cons, ih, Lib.indexByte]
    have hx : exB (c :: t) = if nE c = true then exB t else c :: t := by unfold exB; rw [List.dropWhile_cons]
    rw [hx]
    unfold pointC
    by_cases h46 : c = 46
    · subst h46
      rfl
    · have h1 : ¬ (c.toNat : Int) = 46 := fun h => h46 ((c46 c).1 h)
      rw [decide_eq_false h1, Bool.false_or, if_neg (by simpa using h46)]
      cases hE : nE c with
      | false => simp
      | true =>
        simp only [Bool.not_true, Bool.false_or, if_true]
        rw [decide_eq_decide]
        have hge : -1 ≤ Lib.indexByte t 46 := by rw [← Lib.index_one]; exact Lib.index_ge t [46]
        by_cases hm : Lib.indexByte t 46 = -1
        · rw [hm]
          simp
        · rw [if_neg (by simpa using hm)]
          constructor
          · rintro (h | h)
            · exact .inl (by omega)
            · exact .inr h
          · intro _
            exact .inl (by omega)
theorem exN_ge (l : List UInt8) : 0 ≤ exN l ↔ exB l ≠ [] := by
  unfold exN
  split
  · rename_i h; simp [h]
  · rename_i h; simp [h]
theorem rkind_go (b : List UInt8) (l : List UInt8) (hl : l.length ≤ 100000) {R : Int × Int × Int} : ∀ (m i : Nat) (t : Int), i + m = l.length →
    Ev (fun k => cavilref09_Scan.go k (.l2 b l (if (l.drop i).any pointC = true then 3 else t))) R → Ev (fun k => cavilref09_Scan.go k (.l1 b l t (i : Int))) R
  | 0, i, t, h, hc => by
    refine Ev.succ (f := fun k => cavilref09_Scan.b1 k (cavilref09_Scan.go k) b l t (i : Int)) ?_ (fun k => rfl)
    simp only [cavilref09_Scan.b1]
    rw [List.drop_eq_nil_of_le (by omega)] at hc
    exact Ev.ff (decide_eq_false (by omega)) hc
  | m + 1, i, t, h, hc => by
    refine Ev.succ (f := fun k => cavilref09_Scan.b1 k (cavilref09_Scan.go k) b l t (i : Int)) ?_ (fun k => rfl)
    simp only [cavilref09_Scan.b1]
    have ih := fun t' => rkind_go b l hl (R := R) m (i + 1) t' (by omega)
    have hby : byt l (i : Int) = ((l.getD i 0).toNat : Int) := byt_nat l i
    have ei : wr .i64 ((i : Int) + 1) = ((i + 1 : Nat) : Int) := by rw [v64 (by omega) (by omega)]; omega
    rw [drop_at l i (by omega), List.any_cons] at hc
    rw [hby, ei]
    generalize l.getD i 0 = c at *
    have g : inB (i : Int) l.length = true := inB_iff.2 (by omega)
    have yes : pointC c = true → Ev (fun k => cavilref09_Scan.go k (.l1 b l 3 ((i + 1 : Nat) : Int))) R := by
      intro hp
      refine ih 3 ?_
      rw [hp, Bool.true_or, if_pos rfl] at hc
      split <;> exact hc
    refine Ev.tt (decide_eq_true (by omega)) (Ev.gk g (Ev.bif (fun h1 => yes ?_) (fun h1 => Ev.gk g (Ev.bif (fun h2 => yes ?_) (fun h2 => Ev.gk g (Ev.bif (fun h3 => yes ?_) (fun h3 => ih t ?_)))))))
    · have h1 : (c.toNat : Int) = 46 := by simpa using h1
      unfold pointC; rw [decide_eq_true h1]; rfl
    · have h2 : (c.toNat : Int) = 101 := by simpa using h2
      unfold pointC nE; rw [decide_eq_true h2]; simp
    · have h3 : (c.toNat : Int) = 69 := by simpa using h3
      unfold pointC nE; rw [decide_eq_true h3]; simp
    · have h1 : ¬ (c.toNat : Int) = 46 := by simpa using h1
      have h2 : ¬ (c.toNat : Int) = 101 := by simpa using h2
      have h3 : ¬ (c.toNat : Int) = 69 := by simpa using h3
      have hp : pointC c = false := by unfold pointC nE; rw [decide_eq_false h1, decide_eq_false h2, decide_eq_false h3]; rfl
      rw [hp, Bool.false_or] at hc
      exact hc
theorem resK_err (t : Option (Nat × Nat) × Int) : (resK t).2.2.2.2 = t.2 := by
  obtain ⟨a, e⟩ := t
  cases a with
  | none => rfl
  | some t => rfl
theorem rscan_ev (b : List UInt8) (at_ : Int) (hs : b.length ≤ 100000) : Ev (fun k => cavilref09_Scan.m k b at_) (scanF b at_) := by
  have hbl := body_len b at_
  have l2 : ∀ t, t = kindF (bodyF b at_) → bodyF b at_ ≠ [] → Ev (fun k => cavilref09_Scan.go k (.l2 b (bodyF b at_) t)) (scanF b at_) := by
    intro t ht hne
    refine Ev.succ (f := fun k => cavilref09_Scan.b2 k (cavilref09_Scan.go k) b (bodyF b at_) t) ?_ (fun k => rfl)
    simp only [cavilref09_Scan.b2]
    refine Ev.bind (rvalue_ev t _ (by omega)) (Ev.ret' ?_)
    unfold scanF
    rw [if_neg hne, resK_err, ht]
  refine Ev.succ (f := fun k => cavilref09_Scan.b0 k (cavilref09_Scan.go k) b at_) ?_ (fun k => rfl)
  simp only [cavilref09_Scan.b0]
  refine Ev.bind (rbody_ev b at_ hs) (Ev.bif (fun h => ?_) (fun h => Ev.bind (rbase_ev _) (Ev.bif (fun hb => ?_) (fun hb => ?_))))
  · have h : bodyF b at_ = [] := by simpa using h
    refine Ev.ret' ?_
    unfold scanF
    rw [if_pos h]
  · have hne : bodyF b at_ ≠ [] := by simpa using h
    have hb : baseN (bodyF b at_) = 0 := by
      have : ((baseN (bodyF b at_) : Nat) : Int) = 0 := by simpa using hb
      omega
    refine rkind_go b _ (by omega) (bodyF b at_).length 0 2 (by omega) (l2 _ ?_ hne)
    rw [List.drop_zero, point_any]
    unfold kindF
    by_cases hp : 0 ≤ Lib.indexByte (bodyF b at_) 46 ∨ exB (bodyF b at_) ≠ []
    · rw [if_pos (decide_eq_true hp), if_pos ⟨hb, hp.elim .inl (fun h => .inr ((exN_ge _).2 h))⟩]
    · rw [if_neg (by rw [decide_eq_false hp]; decide), if_neg (fun h => hp (h.2.elim .inl (fun h => .inr ((exN_ge _).1 h))))]
  · have hne : bodyF b at_ ≠ [] := by simpa using h
    have hb : baseN (bodyF b at_) ≠ 0 := by
      intro e
      rw [e] at hb
      cases hb
    refine l2 _ ?_ hne
    unfold kindF
    rw [if_neg (fun h => hb h.1)]
/-! ### The laws -/
theorem partV_err (i f x : List UInt8) : 0 ≤ (partV i f x).2 ∧ (partV i f x).2 ≤ 25 := by
  unfold partV
  split
  · simp
  · split
    · simp
    · split <;> simp
theorem floatF_err (s : List UInt8) : 0 ≤ (floatF s).2 ∧ (floatF s).2 ≤ 25 := by
  unfold floatF
  split
  · simp
  · exact partV_err _ _ _
theorem valueF_err (t : Int) (s : List UInt8) : 0 ≤ (valueF t s).2 ∧ (valueF t s).2 ≤ 25 := by
  unfold valueF
  split
  · exact floatF_err s
  · split
    · split
      · simp
      · exact intF_err s
    · simp
theorem scanF_err (b : List UInt8) (at_ : Int) : 0 ≤ (scanF b at_).2.2 ∧ (scanF b at_).2.2 ≤ 25 := by
  unfold scanF
  split
  · simp
  · exact valueF_err _ _
theorem same (t : Option (Nat × Nat) × Int) : (resS t).1 = (resK t).1 ∧ (resS t).2.1 = (resK t).2.1 ∧ (resS t).2.2.1 = (resK t).2.2.1 ∧ (resS t).2.2.2.1 = (resK t).2.2.2.1 := by
  obtain ⟨a, e⟩ := t
  cases a with
  | none => exact ⟨rfl, rfl, rfl, rfl⟩
  | some t => exact ⟨rfl, rfl, rfl, rfl⟩
theorem NumberScans (l0 : List UInt8) (a1 : Int) (_ : l0.length ≤ 140737488351232) (h0 : -9223372036854775808 ≤ a1) (h1 : a1 ≤ 9223372036854775807) : ∃ k, cavillaw09_NumberScans.m k l0 a1 = some true := by
  refine Ev.get (f := fun k => cavillaw09_NumberScans.m k l0 a1) (Ev.succ (f := fun k => cavillaw09_NumberScans.b0 k l0 a1) ?_ (fun k => rfl))
  simp only [cavillaw09_NumberScans.b0]
  have hl := hdn_len 60 (by decide) l0
  have hl' : ((hdn 60 l0).length : Int) ≤ 60 := by rw [hl]; split <;> omega
  have hc := code_ev (scanF (hdn 60 l0) a1).2.2 (scanF_err _ _).1 (scanF_err _ _).2
  exact Ev.gk (hdn_ok 60 (by decide) l0) (Ev.bind (scan_ev (hdn 60 l0) a1 (by omega)) (Ev.bind (rscan_ev (hdn 60 l0) a1 (by omega)) (Ev.tt (beq_self_eq_true _) (Ev.tt (beq_self_eq_true _) (Ev.bind hc (Ev.tt (beq_self_eq_true _) (Ev.bind works_ev Ev.ret)))))))
theorem NumberFloats (l0 : List UInt8) (a1 : Int) (_ : l0.length ≤ 140737488351232) (h0 : -9223372036854775808 ≤ a1) (h1 : a1 ≤ 9223372036854775807) : ∃ k, cavillaw09_NumberFloats.m k l0 a1 = some true := by
  refine Ev.get (f := fun k => cavillaw09_NumberFloats.m k l0 a1) (Ev.succ (f := fun k => cavillaw09_NumberFloats.b0 k l0 a1) ?_ (fun k => rfl))
  simp only [cavillaw09_NumberFloats.b0]
  have hl := hdn_len 60 (by decide) l0
  have hl' : ((hdn 60 l0).length : Int) ≤ 60 := by rw [hl]; split <;> omega
  have hc := code_ev (floatF (hdn 60 l0)).2 (floatF_err _).1 (floatF_err _).2
  have hc2 := code_ev (valueF a1 (hdn 60 l0)).2 (valueF_err _ _).1 (valueF_err _ _).2
  obtain ⟨s1, s2, s3, s4⟩ := same (floatF (hdn 60 l0))
  obtain ⟨v1, v2, v3, v4⟩ := same (valueF a1 (hdn 60 l0))
  have es := resS_err (floatF (hdn 60 l0))
  have ev := resS_err (valueF a1 (hdn 60 l0))
  have ek := resK_err (floatF (hdn 60 l0))
  have ew := resK_err (valueF a1 (hdn 60 l0))
  refine Ev.gk (hdn_ok 60 (by decide) l0) (Ev.bind (float_ev (hdn 60 l0) (by omega)) (Ev.bind (floatof_ev (hdn 60 l0) (by omega)) (Ev.bind (value_ev' a1 (hdn 60 l0) (by omega)) (Ev.bind (rvalue_ev a1 (hdn 60 l0) (by omega)) ?_))))
  rw [s1, s2, s3, s4, v1, v2, v3, v4, es, ev, ek, ew]
  exact Ev.tt (by simp) (Ev.bind hc (Ev.tt (beq_self_eq_true _) (Ev.tt (by simp) (Ev.bind hc2 (Ev.tt (beq_self_eq_true _) (Ev.bind works_ev Ev.ret))))))
end Go.Proofs.YtaakccdfgejgpaaGreatDoor.Pure
