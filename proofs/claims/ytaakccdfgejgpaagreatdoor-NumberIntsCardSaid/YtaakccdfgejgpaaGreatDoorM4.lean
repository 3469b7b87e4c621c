/-
  Chapter 09, plain: the document's numbers; its laws.
-/
import Derived.Test.YtaakccdfgejgpaaGreatDoorM3
namespace Go.Proofs.YtaakccdfgejgpaaGreatDoor.Pure
open Go Abs
set_option linter.unusedVariables false
set_option linter.unusedSimpArgs false

theorem dig_out (v i : Nat) (h : nd v ≤ i) : v / B16 ^ i % B16 = 0 := by
  have : v / B16 ^ i = 0 := Nat.div_eq_of_lt (Nat.lt_of_lt_of_le (nd_hi v) (pow16_le h))
  rw [this, Nat.zero_mod]
theorem rdig_ev (v i : Nat) : Ev (fun k => cavilref07_digit.m k (digs v) (i : Int)) ((v / B16 ^ i % B16 : Nat) : Int) := by
  refine Ev.succ (f := fun k => cavilref07_digit.b0 k (digs v) (i : Int)) ?_ (fun k => rfl)
  simp only [cavilref07_digit.b0]
  rw [digs_len]
  refine Ev.bif (fun h => ?_) (fun h => ?_)
  · have h := of_decide_eq_true h
    rw [Int.toNat_natCast, digs_get v i (by omega)]
    exact Ev.gk (inB_iff.2 (by omega)) Ev.ret
  · have h := of_decide_eq_false h
    rw [dig_out v i (by omega)]
    exact Ev.ret
theorem sum_dig (B a b i : Nat) (hB : 0 < B) : (a / B ^ i % B + b / B ^ i % B + (a % B ^ i + b % B ^ i) / B ^ i) % B = (a + b) / B ^ i % B := by
  have hp : 0 < B ^ i := Nat.pow_pos hB
  have h1 := (sum_step B a b i hB).1
  have h2 := mod_next B (a + b) i
  rw [Nat.add_mod a b (B ^ (i + 1)), Nat.add_mod a b (B ^ i)] at h2
  rw [h2] at h1
  have h3 := Nat.add_left_cancel h1
  exact (Nat.eq_of_mul_eq_mul_right hp h3).symm
theorem i64quo (x : Nat) (h : x < 9223372036854775808) : quoI .i64 (x : Int) 65536 = ((x / B16 : Nat) : Int) := quoN x 65536 (by decide) h
theorem carry_le (B a b i : Nat) (hB : 0 < B) : (a % B ^ i + b % B ^ i) / B ^ i ≤ 1 := by
  have hp : 0 < B ^ i := Nat.pow_pos hB
  have h1 := Nat.mod_lt a hp
  have h2 := Nat.mod_lt b hp
  have : (a % B ^ i + b % B ^ i) / B ^ i < 2 := (Nat.div_lt_iff_lt_mul hp).2 (by omega)
  omega
theorem rplus_go (a b N : Nat) (hN : N ≤ 100000) (ha : a < B16 ^ N) (hb : b < B16 ^ N) : ∀ (m i : Nat), i + m = N + 1 →
    ∃ n, n ≤ N + 1 ∧ a + b < B16 ^ n ∧ Ev (fun k => cavilref07_plus.go k (.l1 (digs a) (digs b) (toB B16 i (a + b)) (((a % B16 ^ i + b % B16 ^ i) / B16 ^ i : Nat) : Int) (i : Int))) (toB B16 n (a + b))
  | m, i, h => by
    have hna := nd_le ha
    have hnb := nd_le hb
    have hc := carry_le B16 a b i (by decide)
    have step : ∀ q, q = decide (i < nd a ∨ i < nd b ∨ 0 < (a % B16 ^ i + b % B16 ^ i) / B16 ^ i) → ∀ n r, (∀ m', m = m' + 1 → n = r → True) → Ev (fun k => cavilref07_plus.go k (.l2 (digs a) (digs b) (toB B16 i (a + b)) (((a % B16 ^ i + b % B16 ^ i) / B16 ^ i : Nat) : Int) (i : Int) q)) (toB B16 n (a + b)) → Ev (fun k => cavilref07_plus.go k (.l1 (digs a) (digs b) (toB B16 i (a + b)) (((a % B16 ^ i + b % B16 ^ i) / B16 ^ i : Nat) : Int) (i : Int))) (toB B16 n (a + b)) := by
      intro q hq n r _ hev
      refine Ev.succ (f := fun k => cavilref07_plus.b1 k (cavilref07_plus.go k) (digs a) (digs b) (toB B16 i (a + b)) _ (i : Int)) ?_ (fun k => rfl)
      simp only [cavilref07_plus.b1]
      rw [digs_len, digs_len]
      refine Ev.bif (fun h => ?_) (fun h => Ev.bif (fun h' => ?_) (fun h' => ?_))
      · rw [decide_eq_true (.inl (by have := of_decide_eq_true h; omega))] at hq
        rw [hq] at hev
        exact hev
      · rw [decide_eq_true (.inr (.inl (by have := of_decide_eq_true h'; omega)))] at hq
        rw [hq] at hev
        exact hev
      · have e : q = decide ((((a % B16 ^ i + b % B16 ^ i) / B16 ^ i : Nat) : Int) > 0) := by
          rw [hq, decide_eq_decide]
          have := of_decide_eq_false h
          have := of_decide_eq_false h'
          omega
        rw [e] at hev
        exact hev
    by_cases hq : i < nd a ∨ i < nd b ∨ 0 < (a % B16 ^ i + b % B16 ^ i) / B16 ^ i
    · have hi : i ≤ N := by
        rcases hq with h | h | h
        · omega
        · omega
        · refine Nat.le_of_not_lt fun hlt => ?_
          have h1 : B16 ^ (N + 1) ≤ B16 ^ i := pow16_le (by omega)
          rw [Nat.pow_succ] at h1
          have h4 : B16 ^ N * 2 ≤ B16 ^ N * B16 := Nat.mul_le_mul_left _ (by decide)
          rw [Nat.div_eq_of_lt] at h
          · omega
          · have h2 := Nat.mod_le a (B16 ^ i)
            have h3 := Nat.mod_le b (B16 ^ i)
            omega
      obtain ⟨m', rfl⟩ : ∃ m', m = m' + 1 := ⟨m - 1, by omega⟩
      obtain ⟨n, hn1, hn2, hev⟩ := rplus_go a b N hN ha hb m' (i + 1) (by omega)
      refine ⟨n, hn1, hn2, step true (decide_eq_true hq).symm n n (fun _ _ _ => trivial) ?_⟩
      refine Ev.succ (f := fun k => cavilref07_plus.b2 k (cavilref07_plus.go k) (digs a) (digs b) (toB B16 i (a + b)) _ (i : Int) true) ?_ (fun k => rfl)
      simp only [cavilref07_plus.b2]
      refine Ev.tt rfl (Ev.bind (rdig_ev a i) (Ev.bind (rdig_ev b i) ?_))
      have d1 : a / B16 ^ i % B16 < 65536 := dg_lt _
      have d2 : b / B16 ^ i % B16 < 65536 := dg_lt _
      have hsd := sum_dig B16 a b i (by decide)
      have hst := (sum_step B16 a b i (by decide)).2
      have happ := toB_app B16 i (a + b)
      generalize a / B16 ^ i % B16 = x at *
      generalize b / B16 ^ i % B16 = y at *
      generalize (a % B16 ^ i + b % B16 ^ i) / B16 ^ i = c at *
      have e1 : wr .i64 (wr .i64 ((x : Int) + (y : Int)) + (c : Int)) = ((x + y + c : Nat) : Int) := by rw [v64 (n := (x : Int) + y) (by omega) (by omega), v64 (by omega) (by omega)]; omega
      have e2 : wr .i64 ((i : Int) + 1) = ((i + 1 : Nat) : Int) := by rw [v64 (by omega) (by omega)]; omega
      rw [hst] at hev
      rw [e1, e2, rem16, i64quo _ (by omega), hsd, ← happ]
      exact Ev.gk (room_iff.2 (by rw [toB_len]; omega)) hev
    · have h1 : nd a ≤ i := by omega
      have h2 : nd b ≤ i := by omega
      have h3 := Nat.lt_of_lt_of_le (nd_hi a) (pow16_le h1)
      have h4 := Nat.lt_of_lt_of_le (nd_hi b) (pow16_le h2)
      have h5 : a + b < B16 ^ i := by
        have h6 : (a % B16 ^ i + b % B16 ^ i) / B16 ^ i = 0 := Nat.eq_zero_of_not_pos (fun h => hq (.inr (.inr h)))
        rw [Nat.mod_eq_of_lt h3, Nat.mod_eq_of_lt h4] at h6
        rcases Nat.div_eq_zero_iff.1 h6 with h | h
        · have := B16_pos i; omega
        · exact h
      refine ⟨i, by omega, h5, step false (decide_eq_false hq).symm i i (fun _ _ _ => trivial) ?_⟩
      refine Ev.succ (f := fun k => cavilref07_plus.b2 k (cavilref07_plus.go k) (digs a) (digs b) (toB B16 i (a + b)) _ (i : Int) false) ?_ (fun k => rfl)
      exact Ev.ff rfl Ev.ret
  termination_by m => m
theorem rplus_ev (a b : Nat) (ha : nd a ≤ 10000) (hb : nd b ≤ 10000) : ∃ n, n ≤ 20000 ∧ a + b < B16 ^ n ∧ Ev (fun k => cavilref07_plus.m k (digs a) (digs b)) (toB B16 n (a + b)) := by
  have h1 := Nat.lt_of_lt_of_le (nd_hi a) (pow16_le ha)
  have h2 := Nat.lt_of_lt_of_le (nd_hi b) (pow16_le hb)
  obtain ⟨n, hn, hlt, hev⟩ := rplus_go a b 10000 (by decide) h1 h2 10001 0 (by decide)
  refine ⟨n, by omega, hlt, ?_⟩
  refine Ev.succ (f := fun k => cavilref07_plus.b0 k (cavilref07_plus.go k) (digs a) (digs b)) ?_ (fun k => rfl)
  rw [Nat.pow_zero, Nat.mod_one, Nat.mod_one] at hev
  exact hev
theorem radd_ev (a b : Nat) (ha : nd a ≤ 10000) (hb : nd b ≤ 10000) : Ev (fun k => cavilref07_Add.m k false (digs a) false (digs b)) (false, digs (a + b)) := by
  refine Ev.succ (f := fun k => cavilref07_Add.b0 k false (digs a) false (digs b)) ?_ (fun k => rfl)
  simp only [cavilref07_Add.b0]
  obtain ⟨n, hn, hlt, hev⟩ := rplus_ev a b ha hb
  refine Ev.tt rfl (Ev.bind hev (Ev.bind (trim_ev n _ false (by omega) hlt) (Ev.ret' ?_)))
  rw [cut_digs n _ hlt]
  rfl
/-! ### Products -/
theorem mul_next (a b i j : Nat) : a % B16 ^ i * b + a / B16 ^ i % B16 * (b % B16 ^ (j + 1)) * B16 ^ i = a % B16 ^ i * b + a / B16 ^ i % B16 * (b % B16 ^ j) * B16 ^ i + a / B16 ^ i % B16 * (b / B16 ^ j % B16) * B16 ^ (i + j) := by
  rw [mod_next B16 b j, Nat.pow_add]
  grind
theorem rmul_in (a b N i : Nat) (hi : i < nd a) (hN : N = nd a + nd b + 1) (hN2 : N ≤ 100000) {r : Bool × List Int} (hnext : Ev (fun k => cavilref07_Mul.go k (.l1 (digs a) (digs b) false false [] false (toB B16 N (a % B16 ^ (i + 1) * b)) ((i + 1 : Nat) : Int))) r) :
    ∀ (m j S c : Nat), j + m = nd b + 1 → c < B16 → S + c * B16 ^ (i + j) = a % B16 ^ i * b + a / B16 ^ i % B16 * (b % B16 ^ j) * B16 ^ i →
    Ev (fun k => cavilref07_Mul.go k (.l2 (digs a) (digs b) false false [] false (toB B16 N S) (i : Int) (c : Int) (j : Int))) r
  | m, j, S, c, h, hc, e => by
    have hbb : ∀ j, nd b ≤ j → b % B16 ^ j = b := fun j hj => Nat.mod_eq_of_lt (Nat.lt_of_lt_of_le (nd_hi b) (pow16_le hj))
    have tot : a % B16 ^ i * b + a / B16 ^ i % B16 * b * B16 ^ i = a % B16 ^ (i + 1) * b := by
      rw [mod_next B16 a i]
      grind
    have lim : a % B16 ^ (i + 1) * b < B16 ^ (i + 1 + nd b) := by
      rw [Nat.pow_add B16 (i + 1) (nd b)]
      exact Nat.mul_lt_mul'' (Nat.mod_lt _ (B16_pos _)) (nd_hi b)
    have fin : nd b ≤ j → c = 0 → Ev (fun k => cavilref07_Mul.go k (.l3 (digs a) (digs b) false false [] false (toB B16 N S) (i : Int) (c : Int) (j : Int) false)) r := by
      intro hj hc0
      subst hc0
      rw [hbb j hj, tot, Nat.zero_mul, Nat.add_zero] at e
      subst e
      refine Ev.succ (f := fun k => cavilref07_Mul.b3 k (cavilref07_Mul.go k) (digs a) (digs b) false false [] false (toB B16 N _) (i : Int) _ (j : Int) false) ?_ (fun k => rfl)
      simp only [cavilref07_Mul.b3]
      have e2 : wr .i64 ((i : Int) + 1) = ((i + 1 : Nat) : Int) := by rw [v64 (by omega) (by omega)]; omega
      rw [e2]
      exact Ev.ff rfl hnext
    have stp : j < nd b ∨ (j = nd b ∧ 0 < c) → Ev (fun k => cavilref07_Mul.go k (.l3 (digs a) (digs b) false false [] false (toB B16 N S) (i : Int) (c : Int) (j : Int) true)) r := by
      intro hj
      obtain ⟨m', rfl⟩ : ∃ m', m = m' + 1 := ⟨m - 1, by omega⟩
      refine Ev.succ (f := fun k => cavilref07_Mul.b3 k (cavilref07_Mul.go k) (digs a) (digs b) false false [] false (toB B16 N S) (i : Int) (c : Int) (j : Int) true) ?_ (fun k => rfl)
      simp only [cavilref07_Mul.b3]
      have e1 : wr .i64 ((i : Int) + (j : Int)) = ((i + j : Nat) : Int) := by rw [v64 (by omega) (by omega)]; omega
      have e2 : wr .i64 ((j : Int) + 1) = ((j + 1 : Nat) : Int) := by rw [v64 (by omega) (by omega)]; omega
      have d1 : a / B16 ^ i % B16 < 65536 := dg_lt _
      have d2 : b / B16 ^ j % B16 < 65536 := dg_lt _
      have d3 : S / B16 ^ (i + j) % B16 < 65536 := dg_lt _
      have hc' : c < 65536 := hc
      rw [e1, Int.toNat_natCast, Int.toNat_natCast, toB_get B16 N S (i + j) (by omega), digs_get a i hi, e2]
      have hs3 := split3 B16 S (i + j) (by decide)
      have hset := toB_set B16 (by decide) N (i + j) (S % B16 ^ (i + j)) (S / B16 ^ (i + j) % B16)
      have hmn := mul_next a b i j
      have hsl := Nat.mod_lt S (B16_pos (i + j))
      have hrec := rmul_in a b N i hi hN hN2 hnext m' (j + 1)
      have hlow : c * B16 ^ (i + j) + S = a % B16 ^ i * b + a / B16 ^ i % B16 * (b % B16 ^ j) * B16 ^ i := by rw [Nat.add_comm]; exact e
      have hrd := rdig_ev b j
      generalize a / B16 ^ i % B16 = x at *
      generalize b / B16 ^ j % B16 = y at *
      generalize hw : S / B16 ^ (i + j) % B16 = w at *
      generalize hh : S / B16 ^ (i + j + 1) = hi' at *
      have hxy : x * y ≤ 65535 * 65535 := Nat.mul_le_mul (by omega) (by omega)
      have e3 : wr .i64 ((x : Int) * (y : Int)) = ((x * y : Nat) : Int) := by rw [mulN, v64 (by omega) (by omega)]
      have e4 : wr .i64 ((w : Int) + ((x * y : Nat) : Int)) = ((w + x * y : Nat) : Int) := by rw [addN, v64 (by omega) (by omega)]
      have e5 : wr .i64 (((w + x * y : Nat) : Int) + (c : Int)) = ((w + x * y + c : Nat) : Int) := by rw [addN, v64 (by omega) (by omega)]
      refine Ev.tt rfl (Ev.gk (inB_iff.2 (by rw [toB_len]; omega)) (Ev.gk (inB_iff.2 (by rw [digs_len]; omega)) (Ev.bind hrd (Ev.gk (inB_iff.2 (by rw [toB_len]; omega)) ?_))))
      rw [e3, e4, e5, rem16, i64quo _ (by omega)]
      have hsx := hset ((w + x * y + c) % B16) hi' (by omega) hsl (by show w < 65536; exact d3) (dg_lt _)
      rw [← hs3] at hsx
      rw [hsx]
      refine hrec _ _ (by omega) ?_ ?_
      · rw [Nat.div_lt_iff_lt_mul (by decide)]
        show w + x * y + c < 65536 * 65536
        omega
      · have hdm := Nat.mod_add_div (w + x * y + c) B16
        generalize (w + x * y + c) % B16 = p at *
        generalize (w + x * y + c) / B16 = q at *
        rw [hmn, ← hlow, show i + (j + 1) = i + j + 1 by omega, Nat.pow_succ]
        conv => rhs; rw [hs3]
        generalize B16 ^ (i + j) = P at *
        generalize S % P = s at *
        have : (p + B16 * q) * P = (w + x * y + c) * P := by rw [hdm]
        grind
    refine Ev.succ (f := fun k => cavilref07_Mul.b2 k (cavilref07_Mul.go k) (digs a) (digs b) false false [] false (toB B16 N S) (i : Int) (c : Int) (j : Int)) ?_ (fun k => rfl)
    simp only [cavilref07_Mul.b2]
    rw [digs_len]
    refine Ev.bif (fun hj => stp (.inl (by have := of_decide_eq_true hj; omega))) (fun hj => ?_)
    have hj := of_decide_eq_false hj
    have hj : nd b ≤ j := by omega
    by_cases hc0 : c = 0
    · rw [show decide ((c : Int) > 0) = false from decide_eq_false (by omega)]
      exact fin hj hc0
    · by_cases hjb : j = nd b
      · rw [show decide ((c : Int) > 0) = true from decide_eq_true (by omega)]
        exact stp (.inr ⟨hjb, by omega⟩)
      · exfalso
        rw [hbb j hj, tot] at e
        have h1 : B16 ^ (i + 1 + nd b) ≤ B16 ^ (i + j) := pow16_le (by omega)
        have h2 : 1 * B16 ^ (i + j) ≤ c * B16 ^ (i + j) := Nat.mul_le_mul_right _ (by omega)
        omega
  termination_by m => m
theorem rmul_go (a b N : Nat) (hN : N = nd a + nd b + 1) (hN2 : N ≤ 100000) : ∀ (m i : Nat), i + m = nd a →
    Ev (fun k => cavilref07_Mul.go k (.l1 (digs a) (digs b) false false [] false (toB B16 N (a % B16 ^ i * b)) (i : Int))) (false, digs (a * b))
  | 0, i, h => by
    obtain rfl : i = nd a := by omega
    rw [Nat.mod_eq_of_lt (nd_hi a)]
    refine Ev.succ (f := fun k => cavilref07_Mul.b1 k (cavilref07_Mul.go k) (digs a) (digs b) false false [] false (toB B16 N (a * b)) (nd a : Int)) ?_ (fun k => rfl)
    simp only [cavilref07_Mul.b1]
    rw [digs_len]
    have hlt : a * b < B16 ^ N := by
      have h1 : a * b < B16 ^ (nd a + nd b) := by
        rw [Nat.pow_add]
        exact Nat.mul_lt_mul'' (nd_hi a) (nd_hi b)
      exact Nat.lt_of_lt_of_le h1 (pow16_le (by omega))
    refine Ev.ff (decide_eq_false (by omega)) (Ev.bind (trim_ev N (a * b) false hN2 hlt) (Ev.ret' ?_))
    rw [cut_digs N _ hlt]
    rfl
  | m + 1, i, h => by
    refine Ev.succ (f := fun k => cavilref07_Mul.b1 k (cavilref07_Mul.go k) (digs a) (digs b) false false [] false (toB B16 N (a % B16 ^ i * b)) (i : Int)) ?_ (fun k => rfl)
    simp only [cavilref07_Mul.b1]
    rw [digs_len]
    refine Ev.tt (decide_eq_true (by omega)) ?_
    exact rmul_in a b N i (by omega) hN hN2 (rmul_go a b N hN hN2 m (i + 1) (by omega)) (nd b + 1) 0 _ 0 (by omega) (by decide) (by rw [Nat.pow_zero, Nat.mod_one]; simp)
theorem rrmul_ev (a b : Nat) (ha : nd a ≤ 10000) (hb : nd b ≤ 10000) : Ev (fun k => cavilref07_Mul.m k false (digs a) false (digs b)) (false, digs (a * b)) := by
  refine Ev.succ (f := fun k => cavilref07_Mul.b0 k (cavilref07_Mul.go k) false (digs a) false (digs b)) ?_ (fun k => rfl)
  simp only [cavilref07_Mul.b0]
  rw [digs_len, digs_len]
  have e1 : wr .i64 (wr .i64 ((nd a : Int) + (nd b : Int)) + 1) = ((nd a + nd b + 1 : Nat) : Int) := by rw [v64 (n := (nd a : Int) + nd b) (by omega) (by omega), v64 (by omega) (by omega)]; omega
  rw [e1, Int.toNat_natCast]
  have := rmul_go a b _ rfl (by omega) (nd a) 0 (by omega)
  rw [Nat.pow_zero, Nat.mod_one, Nat.zero_mul, toB_zero] at this
  refine Ev.gk ?_ this
  rw [show nn ((nd a + nd b + 1 : Nat) : Int) = true from decide_eq_true (by omega), beq_self_eq_true, room_iff.2 (by omega)]
  rfl
/-! ### Small numbers -/
theorem small_go (n : Nat) (hn : n < 9223372036854775808) : ∀ (m j : Nat), n < B16 ^ (j + m) → j ≤ 100 → m ≤ 100 → Ev (fun k => cavilref07_Small.go k (.l1 [] false (toB B16 j n) (n : Int) ((n / B16 ^ j : Nat) : Int))) (false, digs n)
  | m, j, h, hj, hm => by
    refine Ev.succ (f := fun k => cavilref07_Small.b1 k (cavilref07_Small.go k) [] false (toB B16 j n) (n : Int) ((n / B16 ^ j : Nat) : Int)) ?_ (fun k => rfl)
    simp only [cavilref07_Small.b1]
    have hle := Nat.div_le_self n (B16 ^ j)
    by_cases h0 : n / B16 ^ j = 0
    · have hlt : n < B16 ^ j := by
        rcases Nat.div_eq_zero_iff.1 h0 with h | h
        · have := B16_pos j; omega
        · exact h
      rw [decide_eq_false (show ¬ (n : Int) < 0 by omega)]
      refine Ev.ff (decide_eq_false (by omega)) (Ev.bind (trim_ev j n false (by omega) hlt) (Ev.ret' ?_))
      rw [cut_digs j n hlt]
      rfl
    · obtain ⟨m', rfl⟩ : ∃ m', m = m' + 1 := ⟨m - 1, by
        refine (Nat.succ_pred_eq_of_ne_zero fun e => h0 ?_).symm
        subst e
        exact Nat.div_eq_of_lt h⟩
      have hp := Nat.pos_of_ne_zero h0
      have e3 : n / B16 ^ j / B16 = n / B16 ^ (j + 1) := by rw [Nat.div_div_eq_div_mul, ← Nat.pow_succ]
      rw [rem16, i64quo _ (by omega), e3, ← toB_app]
      refine Ev.tt (decide_eq_true (by omega)) (Ev.gk (room_iff.2 (by rw [toB_len]; omega)) ?_)
      by_cases hj100 : j + 1 ≤ 100
      · exact small_go n hn m' (j + 1) (by rw [show j + 1 + m' = j + (m' + 1) by omega]; exact h) hj100 (by omega)
      · exfalso
        have h1 : B16 ^ 4 ≤ B16 ^ j := pow16_le (by omega)
        have h2 : (9223372036854775808 : Nat) ≤ B16 ^ 4 := by decide
        exact h0 (Nat.div_eq_of_lt (by omega))
  termination_by m => m
theorem small_ev (n : Nat) (h : n < 9223372036854775808) : Ev (fun k => cavilref07_Small.m k (n : Int)) (false, digs n) := by
  refine Ev.succ (f := fun k => cavilref07_Small.b0 k (cavilref07_Small.go k) (n : Int)) ?_ (fun k => rfl)
  simp only [cavilref07_Small.b0]
  have := small_go n h 4 0 (Nat.lt_of_lt_of_le h (by decide)) (by decide) (by decide)
  rw [Nat.pow_zero, Nat.div_one] at this
  exact Ev.ff (decide_eq_false (by omega)) this
end Go.Proofs.YtaakccdfgejgpaaGreatDoor.Pure
namespace Go.Proofs.YtaakccdfgejgpaaGreatDoor.Pure
open Go Abs
set_option linter.unusedVariables false
set_option linter.unusedSimpArgs false

/-! ### Words out of digits -/
def cellT (v e w : Nat) : Nat := if 4 * w + 4 ≤ e then 0 else v / B16 ^ (max (4 * w) e) % B16 ^ (4 * w + 4 - max (4 * w) e)
def arrT (v e : Nat) : List Int := (List.range 8).map (fun w => (cellT v e w : Int))
theorem arrT_len (v e : Nat) : (arrT v e).length = 8 := by simp [arrT]
theorem arrT_get (v e w : Nat) (h : w < 8) : (arrT v e).getD w 0 = (cellT v e w : Int) := by
  unfold arrT
  rw [List.getD_eq_getElem?_getD, List.getElem?_map, List.getElem?_range h]
  rfl
theorem list8 {l l' : List Int} (h : l.length = 8) (h' : l'.length = 8) (e : ∀ i, i < 8 → l.getD i 0 = l'.getD i 0) : l = l' := by
  refine List.ext_getElem (by omega) fun i h1 h2 => ?_
  have := e i (by omega)
  rwa [List.getD_eq_getElem?_getD, List.getD_eq_getElem?_getD, List.getElem?_eq_getElem h1, List.getElem?_eq_getElem h2] at this
theorem arrT_zero (v : Nat) : arrT v 0 = toW v := by
  refine list8 (arrT_len _ _) (toW_len _) fun w hw => ?_
  rw [arrT_get v 0 w hw, toW_get v w hw]
  unfold cellT
  rw [if_neg (by omega), show max (4 * w) 0 = 4 * w by omega, show 4 * w + 4 - 4 * w = 4 by omega, w64_16, ← Nat.pow_mul]
theorem arrT_top (v e : Nat) (h : v < B16 ^ e) : arrT v e = List.replicate 8 0 := by
  refine list8 (arrT_len _ _) (by simp) fun w hw => ?_
  rw [arrT_get v e w hw, show (List.replicate 8 (0 : Int)).getD w 0 = 0 by rw [List.getD_eq_getElem?_getD, List.getElem?_replicate]; split <;> rfl]
  unfold cellT
  split
  · rfl
  · rw [Nat.div_eq_of_lt (Nat.lt_of_lt_of_le h (pow16_le (by omega)))]
    rfl
theorem cellT_same (v i w : Nat) (h : w ≠ i / 4) : cellT v (i + 1) w = cellT v i w := by
  unfold cellT
  by_cases h1 : 4 * w + 4 ≤ i
  · rw [if_pos (by omega), if_pos h1]
  · rw [if_neg (by omega), if_neg h1, show max (4 * w) (i + 1) = 4 * w by omega, show max (4 * w) i = 4 * w by omega]
theorem cellT_next (v i : Nat) : cellT v i (i / 4) = cellT v (i + 1) (i / 4) * B16 + v / B16 ^ i % B16 := by
  unfold cellT
  rw [if_neg (by omega), show max (4 * (i / 4)) i = i by omega]
  by_cases h : 4 * (i / 4) + 4 ≤ i + 1
  · rw [if_pos h, show 4 * (i / 4) + 4 - i = 1 by omega, Nat.pow_one, Nat.zero_mul, Nat.zero_add]
  · rw [if_neg h, show max (4 * (i / 4)) (i + 1) = i + 1 by omega, show 4 * (i / 4) + 4 - i = (4 * (i / 4) + 4 - (i + 1)) + 1 by omega, Nat.pow_succ B16 i, ← Nat.div_div_eq_div_mul, Nat.pow_succ, Nat.mul_comm (B16 ^ (4 * (i / 4) + 4 - (i + 1))) B16, Nat.mod_mul]
    generalize v / B16 ^ i / B16 % B16 ^ (4 * (i / 4) + 4 - (i + 1)) = y
    generalize v / B16 ^ i % B16 = x
    show x + 65536 * y = y * 65536 + x
    omega
theorem cellT_lt (v i : Nat) : cellT v (i + 1) (i / 4) < B16 ^ 3 := by
  unfold cellT
  split
  · decide
  · exact Nat.lt_of_lt_of_le (Nat.mod_lt _ (B16_pos _)) (pow16_le (by omega))
theorem to_go (v : Nat) (z : List Int) (hn : nd v ≤ 32) : ∀ (e : Nat), e ≤ nd v → Ev (fun k => cavilref07_To.go k (.l1 (digs v) false false z false (arrT v e) ((e : Int) - 1))) (false, toW v, true)
  | 0, _ => by
    refine Ev.succ (f := fun k => cavilref07_To.b1 k (cavilref07_To.go k) (digs v) false false z false (arrT v 0) ((0 : Nat) - 1)) ?_ (fun k => rfl)
    simp only [cavilref07_To.b1]
    rw [arrT_zero]
    exact Ev.ff (by simp) Ev.ret
  | i + 1, hi => by
    have e0 : ((i + 1 : Nat) : Int) - 1 = i := by omega
    rw [e0]
    refine Ev.succ (f := fun k => cavilref07_To.b1 k (cavilref07_To.go k) (digs v) false false z false (arrT v (i + 1)) (i : Int)) ?_ (fun k => rfl)
    simp only [cavilref07_To.b1]
    have e1 : quoI .i64 (i : Int) 4 = ((i / 4 : Nat) : Int) := quoN i 4 (by decide) (by omega)
    have hc := cellT_lt v i
    have hc : cellT v (i + 1) (i / 4) < 281474976710656 := hc
    have hd : v / B16 ^ i % B16 < 65536 := dg_lt _
    have hnx := cellT_next v i
    rw [e1, Int.toNat_natCast, Int.toNat_natCast, arrT_get v (i + 1) (i / 4) (by omega), digs_get v i (by omega)]
    have hset : (arrT v (i + 1)).set (i / 4) ((cellT v i (i / 4) : Nat) : Int) = arrT v i := by
      refine list8 (by rw [List.length_set, arrT_len]) (arrT_len _ _) fun w hw => ?_
      rw [arrT_get v i w hw, List.getD_eq_getElem?_getD, List.getElem?_set]
      by_cases h : i / 4 = w
      · subst h
        rw [if_pos rfl, arrT_len, if_pos hw]
        rfl
      · rw [if_neg h, ← List.getD_eq_getElem?_getD, arrT_get v (i + 1) w hw, cellT_same v i w (fun e => h e.symm)]
    generalize cellT v (i + 1) (i / 4) = c at *
    generalize v / B16 ^ i % B16 = x at *
    have e2 : wr .u64 ((c : Int) * 65536) = ((c * B16 : Nat) : Int) := by
      rw [show ((c : Int) * 65536) = ((c * 65536 : Nat) : Int) by omega]
      exact u64i (by omega) (by omega)
    have e3 : wr .u64 (x : Int) = (x : Int) := u64i (by omega) (by omega)
    have e4 : wr .u64 (((c * B16 : Nat) : Int) + (x : Int)) = ((cellT v i (i / 4) : Nat) : Int) := by
      rw [hnx, addN]
      have : c * B16 + x < 18446744073709551616 := by show c * 65536 + x < _; omega
      exact u64i (by omega) (by omega)
    rw [e2, e3, e4, hset, v64 (by omega) (by omega)]
    exact Ev.tt (decide_eq_true (by omega)) (Ev.gk (inB_iff.2 (by omega)) (Ev.gk (inB_iff.2 (by rw [digs_len]; omega)) (Ev.gk (inB_iff.2 (by omega)) (to_go v z hn i (by omega)))))
theorem to_ev (v : Nat) (hv : v < M512) : Ev (fun k => cavilref07_To.m k false (digs v)) (false, toW v, true) := by
  refine Ev.succ (f := fun k => cavilref07_To.b0 k (cavilref07_To.go k) false (digs v)) ?_ (fun k => rfl)
  simp only [cavilref07_To.b0]
  have hn := (nd32 v).2 hv
  rw [digs_len, v64 (by omega) (by omega)]
  have := to_go v (List.replicate 8 (0 : Int)) hn (nd v) (Nat.le_refl _)
  rw [arrT_top v _ (nd_hi v)] at this
  exact Ev.ff (decide_eq_false (by omega)) this
/-! ### Texts of numbers -/
theorem nd_mul (a b : Nat) : nd (a * b) ≤ nd a + nd b := nd_le (by rw [Nat.pow_add]; exact Nat.mul_lt_mul'' (nd_hi a) (nd_hi b))
theorem nd_add (a b n : Nat) (ha : nd a ≤ n) (hb : nd b ≤ n) : nd (a + b) ≤ n + 1 := by
  refine nd_le ?_
  have h1 := Nat.lt_of_lt_of_le (nd_hi a) (pow16_le ha)
  have h2 := Nat.lt_of_lt_of_le (nd_hi b) (pow16_le hb)
  rw [Nat.pow_succ]
  have : B16 ^ n * 2 ≤ B16 ^ n * B16 := Nat.mul_le_mul_left _ (by decide)
  omega
theorem nd_one {n : Nat} (h : n < 65536) : nd n ≤ 1 := nd_le (by rw [Nat.pow_one]; exact h)
def resI (t : Nat × Int) : Bool × Int × List Int := (false, t.2, digs t.1)
def resJ : Option Nat → Bool × Int × List Int
  | some v => (false, 0, digs v)
  | none => (false, 9, [])
theorem rparse_acc (s : List UInt8) (b : Nat) (z : List Int) (hb : b ≤ 16) (hs : s.length ≤ 100000) : ∀ (m i v : Nat), i + m = s.length → v < M512 →
    Ev (fun k => cavilref07_Parse.go k (.l3 z false (digs v) false s (b : Int) (i : Int))) (resJ (accN b (s.drop i) v))
  | 0, i, v, h, hv => by
    refine Ev.succ (f := fun k => cavilref07_Parse.b3 k (cavilref07_Parse.go k) z false (digs v) false s (b : Int) (i : Int)) ?_ (fun k => rfl)
    simp only [cavilref07_Parse.b3]
    rw [List.drop_eq_nil_of_le (by omega)]
    exact Ev.ff (decide_eq_false (by omega)) Ev.ret
  | m + 1, i, v, h, hv => by
    refine Ev.succ (f := fun k => cavilref07_Parse.b3 k (cavilref07_Parse.go k) z false (digs v) false s (b : Int) (i : Int)) ?_ (fun k => rfl)
    simp only [cavilref07_Parse.b3]
    have hby : byt s (i : Int) = ((s.getD i 0).toNat : Int) := byt_nat s i
    rw [hby, drop_at s i (by omega)]
    generalize s.getD i 0 = c
    have hc := u8_lt c
    have hh := hexN_hi c
    have n1 := (nd32 v).2 hv
    have n2 : nd b ≤ 1 := nd_one (by omega)
    have n3 : nd (hexN c) ≤ 1 := nd_one (by omega)
    have n4 := nd_mul v b
    have ei : wr .i64 ((i : Int) + 1) = ((i + 1 : Nat) : Int) := by rw [v64 (by omega) (by omega)]; omega
    have hdg := digit_ev (c.toNat : Int) (by omega) (by omega)
    rw [hexN_eq] at hdg
    rw [ei, accN]
    refine Ev.tt (decide_eq_true (by omega)) (Ev.bind (small_ev b (by omega)) (Ev.bind (rrmul_ev v b (by omega) (by omega)) (Ev.gk (inB_iff.2 (by omega)) (Ev.bind hdg (Ev.bind (small_ev (hexN c) (by omega)) (Ev.bind (radd_ev (v * b) (hexN c) (by omega) (by omega)) ?_))))))
    rw [digs_len]
    have h32 := nd32 (v * b + hexN c)
    by_cases hlt : v * b + hexN c < M512
    · rw [if_pos hlt]
      exact Ev.ff (decide_eq_false (by have := h32.2 hlt; omega)) (rparse_acc s b z hb hs m (i + 1) _ (by omega) hlt)
    · rw [if_neg hlt]
      refine Ev.tt (decide_eq_true ?_) Ev.ret
      have : ¬ nd (v * b + hexN c) ≤ 32 := fun h => hlt (h32.1 h)
      omega
theorem rparse_ev (s : List UInt8) (b : Nat) (hb : b = 2 ∨ b = 8 ∨ b = 10 ∨ b = 16) (hs : s.length ≤ 100000) : Ev (fun k => cavilref07_Parse.m k s (b : Int)) (resI (parseN s b)) := by
  have l2 : ∀ (m i : Nat), i + m = s.length → Ev (fun k => cavilref07_Parse.go k (.l2 [] false s (b : Int) (i : Int))) (resI (if (s.drop i).any (fun c => decide (b ≤ hexN c)) then (0, 13) else match accN b s 0 with | some v => (v, 0) | none => (0, 9))) := by
    intro m
    induction m with
    | zero =>
      intro i h
      refine Ev.succ (f := fun k => cavilref07_Parse.b2 k (cavilref07_Parse.go k) [] false s (b : Int) (i : Int)) ?_ (fun k => rfl)
      simp only [cavilref07_Parse.b2]
      rw [List.drop_eq_nil_of_le (by omega)]
      refine Ev.ff (decide_eq_false (by omega)) ?_
      have := rparse_acc s b [] (by omega) hs s.length 0 0 (by omega) (by decide)
      refine this.to ?_
      rw [List.drop_zero]
      cases accN b s 0 with
      | some v => rfl
      | none => rfl
    | succ m ih =>
      intro i h
      refine Ev.succ (f := fun k => cavilref07_Parse.b2 k (cavilref07_Parse.go k) [] false s (b : Int) (i : Int)) ?_ (fun k => rfl)
      simp only [cavilref07_Parse.b2]
      have hd := drop_at s i (by omega)
      have ih := ih (i + 1) (by omega)
      have hby : byt s (i : Int) = ((s.getD i 0).toNat : Int) := byt_nat s i
      rw [hby, hd, List.any_cons]
      generalize s.getD i 0 = c
      have hc := u8_lt c
      have ei : wr .i64 ((i : Int) + 1) = ((i + 1 : Nat) : Int) := by rw [v64 (by omega) (by omega)]; omega
      have hdg := digit_ev (c.toNat : Int) (by omega) (by omega)
      rw [hexN_eq] at hdg
      rw [ei]
      refine Ev.tt (decide_eq_true (by omega)) (Ev.gk (inB_iff.2 (by omega)) (Ev.bind hdg (Ev.bif (fun h => ?_) (fun h => ?_))))
      · have h := of_decide_eq_true h
        rw [decide_eq_true (show b ≤ hexN c by omega), Bool.true_or, if_pos rfl]
        exact Ev.ret
      · have h := of_decide_eq_false h
        rw [decide_eq_false (show ¬ b ≤ hexN c by omega), Bool.false_or]
        exact ih
  have l1 : Ev (fun k => cavilref07_Parse.go k (.l1 [] false s (b : Int) false)) (resI (parseN s b)) := by
    refine Ev.succ (f := fun k => cavilref07_Parse.b1 k (cavilref07_Parse.go k) [] false s (b : Int) false) ?_ (fun k => rfl)
    simp only [cavilref07_Parse.b1]
    unfold parseN
    refine Ev.ff rfl (Ev.bif (fun h => ?_) (fun h => ?_))
    · have : s = [] := by
        have : s.length = 0 := by
          have : (s.length : Int) = 0 := by simpa using h
          omega
        exact List.length_eq_zero_iff.1 this
      rw [if_pos this]
      exact Ev.ret
    · have hne : s ≠ [] := by
        intro e
        subst e
        exact absurd h (by decide)
      rw [if_neg hne]
      exact l2 s.length 0 (by omega)
  refine Ev.succ (f := fun k => cavilref07_Parse.b0 k (cavilref07_Parse.go k) s (b : Int)) ?_ (fun k => rfl)
  simp only [cavilref07_Parse.b0]
  rcases hb with rfl | rfl | rfl | rfl
  · exact Ev.ff rfl l1
  · exact Ev.tt rfl (Ev.ff rfl l1)
  · exact Ev.tt rfl (Ev.tt rfl (Ev.ff rfl l1))
  · exact Ev.tt rfl (Ev.tt rfl (Ev.tt rfl l1))
/-! ### Blanks -/
theorem rhex_ev (c : Int) (h0 : 0 ≤ c) (h1 : c < 256) : Ev (fun k => cavilref09_hex.m k c) (decide (hexv c < 16)) := by
  refine Ev.succ (f := fun k => cavilref09_hex.b0 k c) ?_ (fun k => rfl)
  exact Ev.bind (digit_ev c h0 h1) Ev.ret
theorem rspaced_go (s : List UInt8) (h : Bool) (hs : s.length ≤ 100000) : ∀ (m i : Nat), i + m = s.length → Ev (fun k => cavilref09_spaced.go k (.l1 s h (i : Int))) (spacedL s h m i)
  | 0, i, hi => by
    refine Ev.succ (f := fun k => cavilref09_spaced.b1 k (cavilref09_spaced.go k) s h (i : Int)) ?_ (fun k => rfl)
    simp only [cavilref09_spaced.b1]
    exact Ev.ff (decide_eq_false (by omega)) Ev.ret
  | m + 1, i, hi => by
    refine Ev.succ (f := fun k => cavilref09_spaced.b1 k (cavilref09_spaced.go k) s h (i : Int)) ?_ (fun k => rfl)
    simp only [cavilref09_spaced.b1]
    have e1 : wr .i64 ((i : Int) + 1) = ((i + 1 : Nat) : Int) := by rw [v64 (by omega) (by omega)]; omega
    have ih := rspaced_go s h hs m (i + 1) (by omega)
    rw [e1]
    unfold spacedL
    refine Ev.tt (decide_eq_true (by omega)) (Ev.gk (inB_iff.2 (by omega)) (Ev.bif (fun hc => ?_) (fun hc => ?_)))
    · have hc : byt s (i : Int) ≠ 95 := by simpa using hc
      rw [if_pos hc]
      exact ih
    · have hc : byt s (i : Int) = 95 := by simpa using hc
      rw [if_neg (c := byt s (i : Int) ≠ 95) (by simpa using hc)]
      have l3 : ∀ p q, (p && q) = okU s h i → Ev (fun k => cavilref09_spaced.go k (.l3 s h (i : Int) p q)) (okU s h i && spacedL s h m (i + 1)) := by
        intro p q hpq
        refine Ev.succ (f := fun k => cavilref09_spaced.b3 k (cavilref09_spaced.go k) s h (i : Int) p q) ?_ (fun k => rfl)
        simp only [cavilref09_spaced.b3]
        rw [← hpq, e1]
        cases p with
        | false => exact Ev.tt rfl Ev.ret
        | true =>
          cases q with
          | false => exact Ev.ff rfl (Ev.tt rfl Ev.ret)
          | true => exact Ev.ff rfl (Ev.ff rfl ih)
      have l2 : ∀ q, q = decide (s.length ≤ i + 1 ∨ i = 0) → Ev (fun k => cavilref09_spaced.go k (.l2 s h (i : Int) q)) (okU s h i && spacedL s h m (i + 1)) := by
        intro q hq
        refine Ev.succ (f := fun k => cavilref09_spaced.b2 k (cavilref09_spaced.go k) s h (i : Int) q) ?_ (fun k => rfl)
        simp only [cavilref09_spaced.b2]
        rw [e1]
        refine Ev.bif (fun hh => ?_) (fun hh => ?_)
        · rw [hh] at hq
          have hh := of_decide_eq_true hq.symm
          have : okU s h i = false := by
            unfold okU
            rcases hh with hh | hh
            · rw [decide_eq_false (show ¬ i + 1 < s.length by omega)]; rfl
            · rw [decide_eq_false (show ¬ i ≠ 0 by omega)]; simp
          rw [this]
          exact Ev.ret
        · rw [hh] at hq
          have hh := of_decide_eq_false hq.symm
          have e2 : wr .i64 ((i : Int) - 1) = ((i - 1 : Nat) : Int) := by rw [v64 (by omega) (by omega)]; omega
          have b1 := byt_lo' s ((i - 1 : Nat) : Int)
          have b2 := byt_lo' s ((i + 1 : Nat) : Int)
          have g1 : inB ((i - 1 : Nat) : Int) s.length = true := inB_iff.2 (by omega)
          have g2 : inB ((i + 1 : Nat) : Int) s.length = true := inB_iff.2 (by omega)
          have hok : okU s h i = (((h && decide (i = 2)) || hd h (byt s ((i - 1 : Nat) : Int))) && hd h (byt s ((i + 1 : Nat) : Int))) := by
            unfold okU
            rw [decide_eq_true (show i + 1 < s.length by omega), decide_eq_true (show i ≠ 0 by omega), Bool.true_and, Bool.true_and, Bool.and_comm]
          rw [e2]
          refine Ev.gk g1 (Ev.bind (rdigit_ev _) (Ev.gk g2 (Ev.bind (rdigit_ev _) ?_)))
          cases h with
          | false => exact Ev.ff rfl (l3 _ _ (by rw [hok]; rfl))
          | true =>
            refine Ev.tt rfl (Ev.gk g1 (Ev.bind (rhex_ev _ b1.1 b1.2) (Ev.gk g2 (Ev.bind (rhex_ev _ b2.1 b2.2) (Ev.bif (fun h2 => l3 _ _ ?_) (fun h2 => l3 _ _ ?_))))))
            · have : (i : Int) = 2 := by simpa using h2
              rw [hok, decide_eq_true (show i = 2 by omega)]
              rfl
            · have : ¬ (i : Int) = 2 := by simpa using h2
              rw [hok, decide_eq_false (show ¬ i = 2 by omega)]
              rfl
      refine Ev.bif (fun h1 => l2 _ ?_) (fun h1 => l2 _ ?_)
      · have := of_decide_eq_true h1
        exact (decide_eq_true (.inl (by omega))).symm
      · have := of_decide_eq_false h1
        rw [beq_dec, decide_eq_decide]
        omega
theorem rspaced_ev (s : List UInt8) (h : Bool) (hs : s.length ≤ 100000) : Ev (fun k => cavilref09_spaced.m k s h) (spacedF s h) := by
  refine Ev.succ (f := fun k => cavilref09_spaced.b0 k (cavilref09_spaced.go k) s h) ?_ (fun k => rfl)
  exact rspaced_go s h hs s.length 0 (by omega)
theorem cut_one (s : List UInt8) (i : Nat) (h : i < s.length) : cut s (i : Int) ((i + 1 : Nat) : Int) = [s.getD i 0] := by
  unfold cut
  rw [Int.toNat_natCast, Int.toNat_natCast, List.drop_take, show i + 1 - i = 1 by omega, drop_at s i h]
  rfl
theorem strip_app (a b : List UInt8) : strip (a ++ b) = strip a ++ strip b := List.filter_append ..
theorem take_at (s : List UInt8) (i : Nat) (h : i < s.length) : s.take (i + 1) = s.take i ++ [s.getD i 0] := by
  rw [List.take_add_one, List.getD_eq_getElem?_getD, List.getElem?_eq_getElem h]
  rfl
theorem without_go (s : List UInt8) (hs : s.length ≤ 100000) : ∀ (m i : Nat), i + m = s.length → Ev (fun k => cavilref09_without.go k (.l1 s (strip (s.take i)) (i : Int))) (strip s)
  | 0, i, hi => by
    refine Ev.succ (f := fun k => cavilref09_without.b1 k (cavilref09_without.go k) s (strip (s.take i)) (i : Int)) ?_ (fun k => rfl)
    simp only [cavilref09_without.b1]
    rw [List.take_of_length_le (by omega)]
    exact Ev.ff (decide_eq_false (by omega)) Ev.ret
  | m + 1, i, hi => by
    refine Ev.succ (f := fun k => cavilref09_without.b1 k (cavilref09_without.go k) s (strip (s.take i)) (i : Int)) ?_ (fun k => rfl)
    simp only [cavilref09_without.b1]
    have ei : wr .i64 ((i : Int) + 1) = ((i + 1 : Nat) : Int) := by rw [v64 (by omega) (by omega)]; omega
    have ih := without_go s hs m (i + 1) (by omega)
    rw [take_at s i (by omega), strip_app] at ih
    rw [ei, cut_one s i (by omega)]
    have hby : byt s (i : Int) = ((s.getD i 0).toNat : Int) := byt_nat s i
    rw [hby]
    have hl := strip_le (s.take i)
    have hl2 := List.length_take_le i s
    generalize s.getD i 0 = c at *
    refine Ev.tt (decide_eq_true (by omega)) (Ev.gk (inB_iff.2 (by omega)) (Ev.bif (fun h => ?_) (fun h => ?_)))
    · have h : (c.toNat : Int) ≠ 95 := by simpa using h
      have hc : c ≠ 95 := by intro e; subst e; exact h rfl
      have hs1 : strip [c] = [c] := by simp [strip, hc]
      rw [hs1] at ih
      exact Ev.gk (cutB_iff.2 (by omega)) (Ev.gk (roomS_iff.2 (by simp only [List.length_cons, List.length_nil]; omega)) ih)
    · have h : (c.toNat : Int) = 95 := by simpa using h
      have hc : c = 95 := by
        have : c.toNat = (95 : UInt8).toNat := by show c.toNat = 95; omega
        exact UInt8.toNat_inj.1 this
      subst hc
      rw [show strip [95] = [] from rfl, List.append_nil] at ih
      exact ih
theorem without_ev (s : List UInt8) (hs : s.length ≤ 100000) : Ev (fun k => cavilref09_without.m k s) (strip s) := by
  refine Ev.succ (f := fun k => cavilref09_without.b0 k (cavilref09_without.go k) s) ?_ (fun k => rfl)
  exact without_go s hs s.length 0 (by omega)
theorem intof_ev (s : List UInt8) (hs : s.length ≤ 100000) : Ev (fun k => cavilref09_IntOf.m k s) (resI (intF s)) := by
  refine Ev.succ (f := fun k => cavilref09_IntOf.b0 k (cavilref09_IntOf.go k) s) ?_ (fun k => rfl)
  simp only [cavilref09_IntOf.b0]
  refine Ev.bind (rbase_ev s) ?_
  have ho := base_opts s
  have l2 : ∀ q, q = decide (byt s 0 = 48 ∧ 1 < s.length) → s ≠ [] → Ev (fun k => cavilref09_IntOf.go k (.l2 [] false s q)) (resI (if byt s 0 = 48 ∧ 1 < s.length then parseN (strip (cut s 1 (s.length : Int))) 8 else parseN (strip s) 10)) := by
    intro q hq hne
    refine Ev.succ (f := fun k => cavilref09_IntOf.b2 k (cavilref09_IntOf.go k) [] false s q) ?_ (fun k => rfl)
    simp only [cavilref09_IntOf.b2]
    refine Ev.bif (fun h => ?_) (fun h => ?_)
    · rw [h] at hq
      have hh := of_decide_eq_true hq.symm
      rw [if_pos hh]
      have hc := cut_lenI s 1 s.length (by omega) (by omega) (by omega)
      have hst := strip_le (cut s 1 s.length)
      exact Ev.gk (cutB_iff.2 (by omega)) (Ev.bind (without_ev _ (by omega)) (Ev.bind (rparse_ev _ 8 (by decide) (by omega)) Ev.ret))
    · rw [h] at hq
      rw [if_neg (of_decide_eq_false hq.symm)]
      have hst := strip_le s
      exact Ev.bind (without_ev s hs) (Ev.bind (rparse_ev _ 10 (by decide) (by omega)) Ev.ret)
  have l1 : ∀ q, q = decide (s = [] ∨ spacedF s (decide (0 < baseN s)) = false) → Ev (fun k => cavilref09_IntOf.go k (.l1 [] false s (baseN s : Int) q)) (resI (intF s)) := by
    intro q hq
    refine Ev.succ (f := fun k => cavilref09_IntOf.b1 k (cavilref09_IntOf.go k) [] false s (baseN s : Int) q) ?_ (fun k => rfl)
    simp only [cavilref09_IntOf.b1]
    unfold intF
    refine Ev.bif (fun h => ?_) (fun h => ?_)
    · rw [h] at hq
      rw [if_pos (of_decide_eq_true hq.symm)]
      exact Ev.ret
    · rw [h] at hq
      have hn := of_decide_eq_false hq.symm
      rw [if_neg hn]
      have hne : s ≠ [] := fun e => hn (.inl e)
      have hl : 0 < s.length := List.length_pos_iff.2 hne
      refine Ev.bif (fun hb => ?_) (fun hb => Ev.gk (inB_iff.2 (by omega)) (Ev.bif (fun hz => ?_) (fun hz => ?_)))
      · have hb := of_decide_eq_true hb
        rw [if_pos (by omega)]
        have h2 : 2 ≤ s.length := by
          refine Nat.le_of_not_lt fun hlt => ?_
          have : baseN s = 0 := by unfold baseN; rw [if_pos (.inl hlt)]
          omega
        have hc := cut_lenI s 2 s.length (by omega) (by omega) (by omega)
        have hst := strip_le (cut s 2 s.length)
        exact Ev.gk (cutB_iff.2 (by omega)) (Ev.bind (without_ev _ (by omega)) (Ev.bind (rparse_ev _ (baseN s) (by omega) (by omega)) Ev.ret))
      · have hb := of_decide_eq_false hb
        rw [if_neg (by omega)]
        have hz : byt s 0 = 48 := by simpa using hz
        refine l2 _ ?_ hne
        rw [decide_eq_decide]
        omega
      · have hb := of_decide_eq_false hb
        rw [if_neg (by omega)]
        have hz : ¬ byt s 0 = 48 := by simpa using hz
        refine l2 _ ?_ hne
        rw [decide_eq_false (fun h => hz h.1)]
  have hdb : decide ((baseN s : Int) > 0) = decide (0 < baseN s) := by rw [decide_eq_decide]; omega
  rw [hdb]
  refine Ev.bif (fun h => l1 _ ?_) (fun h => Ev.bind (rspaced_ev s _ hs) (l1 _ ?_))
  · have : s = [] := by simpa using h
    simp [this]
  · have : s ≠ [] := by simpa using h
    simp [this]
/-! ### The law -/
theorem parseN_zero (s : List UInt8) (b : Nat) (h : (parseN s b).2 ≠ 0) : (parseN s b).1 = 0 := by
  unfold parseN at h ⊢
  split
  · rfl
  · rename_i h1
    rw [if_neg h1] at h
    split
    · rfl
    · rename_i h2
      rw [if_neg h2] at h
      split
      · rename_i v hv
        rw [hv] at h
        exact absurd rfl h
      · rfl
theorem intF_zero (s : List UInt8) (h : (intF s).2 ≠ 0) : (intF s).1 = 0 := by
  unfold intF at h ⊢
  split
  · rfl
  · rename_i h1
    rw [if_neg h1] at h
    split
    · rename_i h2
      rw [if_pos h2] at h
      exact parseN_zero _ _ h
    · rename_i h2
      rw [if_neg h2] at h
      split
      · rename_i h3
        rw [if_pos h3] at h
        exact parseN_zero _ _ h
      · rename_i h3
        rw [if_neg h3] at h
        exact parseN_zero _ _ h
theorem is_ev (v : Nat) (hv : v < M512) : Ev (fun k => cavillaw07_Is.m k false (toW v) .nil false (digs v)) 0 := by
  refine Ev.succ (f := fun k => cavillaw07_Is.b0 k (cavillaw07_Is.go k) false (toW v) .nil false (digs v)) ?_ (fun k => rfl)
  simp only [cavillaw07_Is.b0]
  refine Ev.bind (to_ev v hv) (Ev.ff rfl ?_)
  refine Ev.succ (f := fun k => cavillaw07_Is.b1 k (cavillaw07_Is.go k) (digs v) false (toW v) false (toW v) .nil true) ?_ (fun k => rfl)
  simp only [cavillaw07_Is.b1]
  exact Ev.ff (by simp) (Ev.ff rfl (Ev.ff rfl Ev.ret))
theorem NumberInts (l0 : List UInt8) (_ : l0.length ≤ 140737488351232) : ∃ k, cavillaw09_NumberInts.m k l0 = some true := by
  refine Ev.get (f := fun k => cavillaw09_NumberInts.m k l0) (Ev.succ (f := fun k => cavillaw09_NumberInts.b0 k l0) ?_ (fun k => rfl))
  simp only [cavillaw09_NumberInts.b0]
  have hl := hdn_len 200 (by decide) l0
  have hl' : ((hdn 200 l0).length : Int) ≤ 200 := by rw [hl]; split <;> omega
  have hc := code_ev (intF (hdn 200 l0)).2 (intF_err _).1 (intF_err _).2
  have hz := intF_zero (hdn 200 l0)
  have hv := intF_lt (hdn 200 l0)
  refine Ev.gk (hdn_ok 200 (by decide) l0) (Ev.bind (int_ev (hdn 200 l0) (by omega)) (Ev.bind (intof_ev (hdn 200 l0) (by omega)) (Ev.bif (fun h => ?_) (fun h => ?_))))
  · have h : (intF (hdn 200 l0)).2 ≠ 0 := by simpa [resI] using h
    refine Ev.bind hc (Ev.tt (beq_self_eq_true _) (Ev.tt ?_ (Ev.bind works_ev Ev.ret)))
    simp only [resQ]
    rw [hz h, toW_zero]
    rfl
  · have h : (intF (hdn 200 l0)).2 = 0 := by simpa [resI] using h
    have := is_ev _ hv
    simp only [resQ, resI]
    rw [h]
    exact Ev.bind this (Ev.tt rfl (Ev.bind works_ev Ev.ret))
end Go.Proofs.YtaakccdfgejgpaaGreatDoor.Pure
