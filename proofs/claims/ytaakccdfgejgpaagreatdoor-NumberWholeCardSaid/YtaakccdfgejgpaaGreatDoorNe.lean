/-
  Chapter 09, plain: shifts up, quotients, greatest common divisors of sizes.
-/
import Derived.Test.YtaakccdfgejgpaaGreatDoorNd
namespace Go.Proofs.YtaakccdfgejgpaaGreatDoor.Pure
open Go Abs
set_option linter.unusedVariables false
set_option linter.unusedSimpArgs false

theorem quoN (n d : Nat) (hd : 0 < d) (h : n < 9223372036854775808) : quoI .i64 (n : Int) (d : Int) = ((n / d : Nat) : Int) := by
  unfold quoI
  rw [Int.tdiv_eq_ediv_of_nonneg (by omega), ← Int.natCast_ediv]
  have := Nat.div_le_self n d
  generalize n / d = q at *
  exact w64 (by omega) (by omega)
theorem M512_two : M512 = 2 ^ (64 * 8) := by rw [← M512_eq, W64_pow]
theorem lt_pow (v n m : Nat) (h : v < 2 ^ n) (hn : n ≤ m) : v < 2 ^ m := Nat.lt_of_lt_of_le h (Nat.pow_le_pow_right (by decide) hn)
theorem blen512 (a : Nat) (h : a < M512) : blen a ≤ 512 := blen_le_of a (64 * 8) (by rw [← M512_two]; exact h)
theorem remN (n d : Nat) : remI (n : Int) (d : Int) = ((n % d : Nat) : Int) := by
  unfold remI
  rw [Int.tmod_eq_emod_of_nonneg (by omega)]
  simp
theorem orN (A c r : Nat) (hA : A % 2 ^ r = 0) (hc : c < 2 ^ r) (h1 : A < W64) (h2 : c < W64) : Go.bits .or .u64 (A : Int) (c : Int) = ((A + c : Nat) : Int) := by
  rw [u64_or_nat A c h1 h2]
  have h := Nat.mod_add_div A (2 ^ r)
  rw [hA, Nat.zero_add] at h
  have := or_low (A / 2 ^ r) c r hc
  rw [Nat.mul_comm, h] at this
  rw [this]
/-- The top words are there. -/
def tops (V i : Nat) : Nat := V / W64 ^ i * W64 ^ i
theorem tops_set (V i w x : Nat) (hi : i < 8) (hw : w < W64) (hx : x < W64) : (toW (w * W64 ^ i + tops V (i + 1))).set i (x : Int) = toW (x * W64 ^ i + tops V (i + 1)) := by
  have h := toB_set W64 (by decide) 8 i 0 w x (V / W64 ^ (i + 1)) hi (pw i) hw hx
  have e : ∀ y, 0 + (y + W64 * (V / W64 ^ (i + 1))) * W64 ^ i = y * W64 ^ i + tops V (i + 1) := by
    intro y
    unfold tops
    rw [Nat.pow_succ]
    grind
  rw [e, e] at h
  exact h
theorem tops_next (V i : Nat) : V / W64 ^ i % W64 * W64 ^ i + tops V (i + 1) = tops V i := by
  unfold tops
  have h := Nat.mod_add_div (V / W64 ^ i) W64
  rw [Nat.div_div_eq_div_mul, ← Nat.pow_succ] at h
  generalize V / W64 ^ (i + 1) = q at *
  rw [← h, Nat.pow_succ]
  simp only [Nat.add_mul_mod_self_left, Nat.mod_mod]
  grind
theorem up_go (a n : Nat) (z : List Int) (hn : n < 512) (hV : a * 2 ^ n < M512) : ∀ (m i : Nat), i = n / 64 + m → i ≤ 8 →
    Ev (fun k => limb_up.go k (.l1 (toW a) z (toW (tops (a * 2 ^ n) i)) (n : Int) ((i : Int) - 1))) (toW (a * 2 ^ n))
  | 0, i, hi, h8 => by
    refine Ev.succ (f := fun k => limb_up.b1 k (limb_up.go k) _ z _ _ _) ?_ (fun k => rfl)
    simp only [limb_up.b1]
    have q := quoN n 64 (by decide) (by omega)
    rw [show ((64 : Nat) : Int) = 64 from rfl] at q
    rw [q]
    refine Ev.ff (by simp; omega) (Ev.ret' ?_)
    congr 1
    unfold tops
    have e : a * 2 ^ n = a * 2 ^ (n % 64) * W64 ^ i := by
      rw [W64_pow, Nat.mul_assoc, ← Nat.pow_add]
      congr 2
      omega
    rw [e, Nat.mul_div_cancel _ (pw i)]
  | m + 1, i', hi, h8 => by
    obtain ⟨i, rfl⟩ : ∃ i, i' = i + 1 := ⟨i' - 1, by omega⟩
    have e0 : ((i + 1 : Nat) : Int) - 1 = i := by omega
    rw [e0]
    refine Ev.succ (f := fun k => limb_up.b1 k (limb_up.go k) _ z _ _ _) ?_ (fun k => rfl)
    simp only [limb_up.b1, Int.toNat_natCast]
    have q := quoN n 64 (by decide) (by omega)
    have rm := remN n 64
    rw [show ((64 : Nat) : Int) = 64 from rfl] at q rm
    rw [q, rm]
    obtain ⟨j, hj⟩ : ∃ j, i = j + n / 64 := ⟨i - n / 64, by omega⟩
    have ej : wr .i64 ((i : Int) - ((n / 64 : Nat) : Int)) = (j : Int) := by rw [v64 (by omega) (by omega)]; omega
    have ei : wr .i64 ((i : Int) - 1) = (i : Int) - 1 := v64 (by omega) (by omega)
    rw [ej, Int.toNat_natCast, toW_get a j (by omega), shlN _ (n % 64) (by omega)]
    have hr : n % 64 < 64 := Nat.mod_lt _ (by decide)
    have hV' : a * 2 ^ n / W64 ^ i % W64 = a * 2 ^ (n % 64) / W64 ^ j % W64 := by
      have e : a * 2 ^ n = a * 2 ^ (n % 64) * W64 ^ (n / 64) := by
        rw [W64_pow, Nat.mul_assoc, ← Nat.pow_add]
        congr 2
        omega
      rw [e, hj, Nat.pow_add, Nat.mul_comm (W64 ^ j), ← Nat.div_div_eq_div_mul, Nat.mul_div_cancel _ (pw _)]
    obtain ⟨u1, u2, u3⟩ := up_word a (n % 64) j hr
    rw [← hV'] at u1
    have ih := up_go a n z hn hV m i (by omega) (by omega)
    have hA : a / W64 ^ j % W64 * 2 ^ (n % 64) % W64 < W64 := Nat.mod_lt _ (by decide)
    have ht := tops_next (a * 2 ^ n) i
    have hs0 := tops_set (a * 2 ^ n) i 0 _ (by omega) (by decide) hA
    rw [Nat.zero_mul, Nat.zero_add] at hs0
    have hVl := word_lt (a * 2 ^ n) i
    rw [hs0]
    have l2 : ∀ c : Bool, (c = true → 0 < j ∧ 0 < n % 64) → (c = false → a * 2 ^ n / W64 ^ i % W64 = a / W64 ^ j % W64 * 2 ^ (n % 64) % W64) →
        Ev (fun k => limb_up.go k (.l2 (toW a) z (toW (a / W64 ^ j % W64 * 2 ^ (n % 64) % W64 * W64 ^ i + tops (a * 2 ^ n) (i + 1))) (n : Int) (i : Int) c)) (toW (a * 2 ^ n)) := by
      intro c h1 h2
      refine Ev.succ (f := fun k => limb_up.b2 k (limb_up.go k) _ z _ _ _ c) ?_ (fun k => rfl)
      simp only [limb_up.b2, Int.toNat_natCast]
      rw [q, rm, ej, ei]
      refine Ev.bif (fun hc => ?_) (fun hc => ?_)
      · obtain ⟨hj0, hr0⟩ := h1 hc
        rw [if_pos hj0] at u1 u3
        have e1 : wr .i64 ((j : Int) - 1) = ((j - 1 : Nat) : Int) := by rw [v64 (by omega) (by omega)]; omega
        have e2 : wr .i64 (64 - ((n % 64 : Nat) : Int)) = ((64 - n % 64 : Nat) : Int) := by rw [v64 (by omega) (by omega)]; omega
        have e3 : (toW (a / W64 ^ j % W64 * 2 ^ (n % 64) % W64 * W64 ^ i + tops (a * 2 ^ n) (i + 1))).getD i 0 = ((a / W64 ^ j % W64 * 2 ^ (n % 64) % W64 : Nat) : Int) := by
          rw [toW_get _ i (by omega)]
          congr 1
          have h := Nat.mod_add_div (a * 2 ^ n / W64 ^ (i + 1)) 1
          unfold tops
          rw [Nat.pow_succ, ← Nat.mul_assoc, Nat.mul_right_comm, ← Nat.add_mul, Nat.mul_div_cancel _ (pw i), Nat.add_mul_mod_self_right, Nat.mod_eq_of_lt hA]
        have hc2 : a / W64 ^ (j - 1) % W64 / 2 ^ (64 - n % 64) < W64 := Nat.lt_of_le_of_lt (Nat.div_le_self _ _) (word_lt _ _)
        rw [e1, e2, Int.toNat_natCast, toW_get a (j - 1) (by omega), shrN _ _ (by omega), e3, orN _ _ (n % 64) u2 u3 hA hc2, ← u1, tops_set (a * 2 ^ n) i _ _ (by omega) hA hVl, ht]
        exact Ev.gk (inB_iff.2 (by omega)) (Ev.gk (inB_iff.2 (by omega)) (Ev.gk (by simp [nn]) (Ev.gk (inB_iff.2 (by omega)) ih)))
      · rw [← h2 hc, ht]
        exact ih
    refine Ev.tt (by simp; omega) (Ev.gk (inB_iff.2 (by omega)) (Ev.gk (by simp [nn]; omega) (Ev.gk (inB_iff.2 (by omega)) (Ev.bif (fun h => l2 _ (fun hc => ?_) (fun hc => ?_)) (fun h => l2 _ (fun hc => by cases hc) (fun _ => ?_))))))
    · have := of_decide_eq_true h; have := of_decide_eq_true hc; omega
    · have := of_decide_eq_false hc
      rw [u1, if_neg (by omega), Nat.add_zero]
    · have h := of_decide_eq_false h
      have hr0 : n % 64 = 0 := by omega
      rw [u1]
      rw [hr0, Nat.pow_zero] at u3
      rw [hr0]
      rw [hr0] at u1
      omega
theorem up_ev (a n : Nat) (hn : n < 512) (hV : a * 2 ^ n < M512) : Ev (fun k => limb_up.m k (toW a) (n : Int)) (toW (a * 2 ^ n)) := by
  refine Ev.succ (f := fun k => limb_up.b0 k (limb_up.go k) (toW a) (n : Int)) ?_ (fun k => rfl)
  simp only [limb_up.b0]
  have h := up_go a n (List.replicate 8 (0 : Int)) hn hV (8 - n / 64) 8 (by omega) (by decide)
  have : tops (a * 2 ^ n) 8 = 0 := by
    unfold tops
    rw [M512_eq, Nat.div_eq_of_lt hV, Nat.zero_mul]
  rw [this, toW_zero] at h
  exact h
/-! ### Quotients -/
theorem bit_set (Q n : Nat) (hn : n < 512) (hQ : Q % 2 ^ (n + 1) = 0) : (toW Q).set (n / 64) (Go.bits .or .u64 ((toW Q).getD (n / 64) 0) (shlI .u64 1 ((n % 64 : Nat) : Int))) = toW (Q + 2 ^ n) := by
  have hs : n % 64 < 64 := Nat.mod_lt _ (by decide)
  rw [toW_get _ _ (by omega)]
  have e1 : shlI .u64 1 ((n % 64 : Nat) : Int) = ((2 ^ (n % 64) : Nat) : Int) := by
    have := shlN 1 (n % 64) (by omega)
    rw [Nat.one_mul, Nat.mod_eq_of_lt (show 2 ^ (n % 64) < W64 from Nat.pow_lt_pow_right (by decide) hs)] at this
    exact this
  have hd : Q / W64 ^ (n / 64) % W64 % 2 ^ (n % 64 + 1) = 0 := by
    have h := Nat.mod_add_div Q (2 ^ (n + 1))
    rw [hQ, Nat.zero_add] at h
    rw [← h, show n + 1 = 64 * (n / 64) + (n % 64 + 1) by omega, Nat.pow_add, ← W64_pow, Nat.mul_assoc, Nat.mul_div_cancel_left _ (pw _)]
    have hW : W64 = 2 ^ (n % 64 + 1) * 2 ^ (63 - n % 64) := by rw [← Nat.pow_add, show n % 64 + 1 + (63 - n % 64) = 64 by omega]
    rw [hW, Nat.mul_mod_mul_left, Nat.mul_mod_right]
  have hlt : Q / W64 ^ (n / 64) % W64 + 2 ^ (n % 64) < W64 := by
    have hw := word_lt Q (n / 64)
    generalize Q / W64 ^ (n / 64) % W64 = w at *
    have h4 := Nat.mod_add_div w (2 ^ (n % 64 + 1))
    rw [hd, Nat.zero_add] at h4
    have hW : W64 = 2 ^ (n % 64 + 1) * 2 ^ (63 - n % 64) := by rw [← Nat.pow_add, show n % 64 + 1 + (63 - n % 64) = 64 by omega]
    have h5 : w / 2 ^ (n % 64 + 1) < 2 ^ (63 - n % 64) := by rw [Nat.div_lt_iff_lt_mul (Nat.pow_pos (by decide)), Nat.mul_comm, ← hW]; exact hw
    have h6 : 2 ^ (n % 64 + 1) * (w / 2 ^ (n % 64 + 1) + 1) ≤ 2 ^ (n % 64 + 1) * 2 ^ (63 - n % 64) := Nat.mul_le_mul_left _ h5
    rw [← hW, Nat.mul_add, h4, Nat.pow_succ] at h6
    have := Nat.pow_pos (n := n % 64) (show 0 < 2 by decide)
    omega
  rw [e1, orN _ _ (n % 64 + 1) hd (by rw [Nat.pow_succ]; have := Nat.pow_pos (n := n % 64) (show 0 < 2 by decide); omega) (word_lt _ _) (Nat.lt_of_le_of_lt (Nat.le_add_left _ _) hlt)]
  have := toB_add W64 (by decide) 8 (n / 64) Q (2 ^ (n % 64)) (by omega) hlt
  have e2 : 2 ^ (n % 64) * W64 ^ (n / 64) = 2 ^ n := by rw [W64_pow, ← Nat.pow_add]; congr 1; omega
  rw [e2] at this
  exact this
theorem part_go (a b : Nat) (ha : a < M512) (hb : 0 < b) : ∀ (n Q r : Nat), blen b + n ≤ blen a + 1 → a = Q * b + r → r < b * 2 ^ n → Q % 2 ^ n = 0 →
    Ev (fun k => limb_part.go k (.l1 (toW b) (toW Q) (toW r) ((n : Int) - 1))) (toW (a / b), toW (a % b))
  | 0, Q, r, _, he, hr, _ => by
    refine Ev.succ (f := fun k => limb_part.b1 k (limb_part.go k) (toW b) (toW Q) (toW r) _) ?_ (fun k => rfl)
    simp only [limb_part.b1]
    refine Ev.ff (by simp) (Ev.ret' ?_)
    obtain ⟨h1, h2⟩ := dm_uniq (n := a) (r := r) (q := Q) (m := b) (by omega) (by simpa using hr)
    rw [h1, h2]
  | n + 1, Q, r, hn, he, hr, hQ => by
    have e0 : ((n + 1 : Nat) : Int) - 1 = n := by omega
    rw [e0]
    refine Ev.succ (f := fun k => limb_part.b1 k (limb_part.go k) (toW b) (toW Q) (toW r) (n : Int)) ?_ (fun k => rfl)
    simp only [limb_part.b1]
    have h512 : blen a ≤ 512 := blen512 a ha
    have hb1 := blen_lt b
    have hn1 : 1 ≤ blen b := (blen_le b (by omega)).2
    have hV : b * 2 ^ n < M512 := by
      have : b * 2 ^ n < 2 ^ (blen b) * 2 ^ n := Nat.mul_lt_mul_of_pos_right hb1 (Nat.pow_pos (by decide))
      rw [← Nat.pow_add] at this
      obtain ⟨m, hm⟩ : ∃ m, m = 64 * 8 := ⟨_, rfl⟩
      have h2 := M512_two
      rw [← hm] at h2
      rw [h2]
      exact lt_pow _ _ m this (by omega)
    have hrM : r < M512 := by
      have : r ≤ a := by rw [he]; exact Nat.le_add_left _ _
      omega
    have hQn : Q % 2 ^ n = 0 := by
      have h := Nat.mod_mod_of_dvd Q (show 2 ^ n ∣ 2 ^ (n + 1) from ⟨2, by rw [Nat.pow_succ]⟩)
      rw [hQ] at h
      simpa using h.symm
    have ei : wr .i64 ((n : Int) - 1) = (n : Int) - 1 := v64 (by omega) (by omega)
    have q := quoN n 64 (by decide) (by omega)
    have rm := remN n 64
    rw [show ((64 : Nat) : Int) = 64 from rfl] at q rm
    refine Ev.tt (by simp) (Ev.bind (up_ev b n (by omega) hV) (Ev.bind (order_ev _ _ hV hrM) (Ev.bif (fun h => ?_) (fun h => ?_))))
    · have hle : b * 2 ^ n ≤ r := by
        have h := of_decide_eq_true h
        unfold cmpN at h
        split at h
        · omega
        · split at h
          · omega
          · omega
      rw [q, rm, ei, Int.toNat_natCast, bit_set Q n (by omega) hQ]
      refine Ev.bind (minus_ev r _ hrM hle) (Ev.gk (inB_iff.2 (by omega)) (Ev.gk (by simp [nn]; omega) (Ev.gk (inB_iff.2 (by omega)) ?_)))
      refine part_go a b ha hb n (Q + 2 ^ n) (r - b * 2 ^ n) (by omega) ?_ ?_ ?_
      · have : (Q + 2 ^ n) * b = Q * b + b * 2 ^ n := by rw [Nat.add_mul, Nat.mul_comm (2 ^ n)]
        omega
      · rw [Nat.pow_succ, ← Nat.mul_assoc] at hr
        omega
      · rw [Nat.add_mod, hQn]; simp
    · have hlt : r < b * 2 ^ n := by
        have h := of_decide_eq_false h
        unfold cmpN at h
        split at h
        · omega
        · split at h
          · omega
          · omega
      rw [ei]
      exact part_go a b ha hb n Q r (by omega) he hlt hQn
theorem part_ev (a b : Nat) (ha : a < M512) (hbM : b < M512) (hb : 0 < b) : Ev (fun k => limb_part.m k (toW a) (toW b)) (toW (a / b), toW (a % b)) := by
  refine Ev.succ (f := fun k => limb_part.b0 k (limb_part.go k) (toW a) (toW b)) ?_ (fun k => rfl)
  simp only [limb_part.b0]
  have l1 := blen512 a ha
  have l2 := blen512 b hbM
  have ha1 := blen_lt a
  obtain ⟨hb1, hb2⟩ := blen_le b (by omega)
  refine Ev.bind (length_ev a ha) (Ev.bind (length_ev b hbM) ?_)
  rw [v64 (by omega) (by omega), ← toW_zero]
  by_cases h : blen b ≤ blen a
  · have e : (blen a : Int) - blen b = ((blen a - blen b + 1 : Nat) : Int) - 1 := by omega
    rw [e]
    refine part_go a b ha hb (blen a - blen b + 1) 0 a (by omega) (by simp) ?_ (by simp)
    have : 2 ^ (blen b - 1) * 2 ^ (blen a - blen b + 1) ≤ b * 2 ^ (blen a - blen b + 1) := Nat.mul_le_mul_right _ hb1
    rw [← Nat.pow_add, show blen b - 1 + (blen a - blen b + 1) = blen a by omega] at this
    omega
  · refine Ev.succ (f := fun k => limb_part.b1 k (limb_part.go k) (toW b) (toW 0) (toW a) _) ?_ (fun k => rfl)
    simp only [limb_part.b1]
    refine Ev.ff (by simp; omega) (Ev.ret' ?_)
    have hlt : a < b := by
      have : 2 ^ blen a ≤ 2 ^ (blen b - 1) := Nat.pow_le_pow_right (by decide) (by omega)
      omega
    rw [Nat.div_eq_of_lt hlt, Nat.mod_eq_of_lt hlt]
theorem div_ev (a b : Nat) (ha : a < M512) (hbM : b < M512) (hb : 0 < b) : Ev (fun k => limb_Div.m k false (toW a) false (toW b)) (false, toW (a / b), false, toW (a % b), .nil) := by
  refine Ev.succ (f := fun k => limb_Div.b0 k false (toW a) false (toW b)) ?_ (fun k => rfl)
  simp only [limb_Div.b0]
  rw [isZ b hbM]
  refine Ev.ff (by simp; omega) (Ev.bind (part_ev a b ha hbM hb) (Ev.bind (made_ev _) (Ev.bind (made_ev _) Ev.ret)))
theorem gcd_go (o : Bool) (z : List Int) : ∀ (y x : Nat), x < M512 → y < M512 → Ev (fun k => limb_Gcd.go k (.l1 o z (toW x) (toW y))) (false, toW (Nat.gcd x y)) := by
  intro y
  induction y using Nat.strongRecOn with
  | _ y ih =>
    intro x hx hy
    refine Ev.succ (f := fun k => limb_Gcd.b1 k (limb_Gcd.go k) o z (toW x) (toW y)) ?_ (fun k => rfl)
    simp only [limb_Gcd.b1]
    rw [isZ y hy]
    by_cases h : y = 0
    · subst h
      rw [Nat.gcd_zero_right]
      exact Ev.ff rfl (Ev.bind (made_ev x) Ev.ret)
    · refine Ev.tt (by simp [h]) (Ev.bind (part_ev x y hx hy (by omega)) ?_)
      have hlt := Nat.mod_lt x (show 0 < y by omega)
      refine (ih (x % y) hlt y hy (by omega)).to ?_
      rw [Nat.gcd_comm x y, Nat.gcd_rec y x, Nat.gcd_comm]
theorem gcd_ev (a b : Nat) (ha : a < M512) (hb : b < M512) : Ev (fun k => limb_Gcd.m k false (toW a) false (toW b)) (false, toW (Nat.gcd a b)) := by
  refine Ev.succ (f := fun k => limb_Gcd.b0 k (limb_Gcd.go k) false (toW a) false (toW b)) ?_ (fun k => rfl)
  exact gcd_go _ _ b a ha hb
end Go.Proofs.YtaakccdfgejgpaaGreatDoor.Pure
