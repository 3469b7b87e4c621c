/-
  Chapter 09, plain: sums and differences of sizes.
-/
import Derived.Test.YtaakccdfgejgpaaGreatDoorNa
namespace Go.Proofs.YtaakccdfgejgpaaGreatDoor.Pure
open Go Abs
set_option linter.unusedVariables false
set_option linter.unusedSimpArgs false

theorem cmod (n : Nat) : ((n : Int) % 18446744073709551616) = ((n % W64 : Nat) : Int) := by simp [W64]
theorem cdiv (n : Nat) : ((n : Int) / 18446744073709551616) = ((n / W64 : Nat) : Int) := by simp [W64]
/-- A word that was nothing is set. -/
theorem toW_put (S i x : Nat) (hi : i < 8) (hS : S < W64 ^ i) (hx : x < W64) : (toW S).set i (x : Int) = toW (S + x * W64 ^ i) := by
  have := toB_set W64 (by decide) 8 i S 0 x 0 hi hS (by decide) hx
  show (toB W64 8 S).set i (x : Int) = toB W64 8 (S + x * W64 ^ i)
  simpa using this
theorem pw (i : Nat) : 0 < W64 ^ i := Nat.pow_pos (by decide)
theorem plus_go (a b : Nat) (z : List Int) : ∀ (m i : Nat), i + m = 8 →
    Ev (fun k => limb_plus.go k (.l1 (toW a) (toW b) z (toW ((a % W64 ^ i + b % W64 ^ i) % W64 ^ i)) (((a % W64 ^ i + b % W64 ^ i) / W64 ^ i : Nat) : Int) (i : Int))) (toW ((a % W64 ^ 8 + b % W64 ^ 8) % W64 ^ 8), decide ((a % W64 ^ 8 + b % W64 ^ 8) / W64 ^ 8 = 0))
  | 0, i, h => by
    obtain rfl : i = 8 := by omega
    refine Ev.succ (f := fun k => limb_plus.b1 k (limb_plus.go k) _ _ z _ _ _) ?_ (fun k => rfl)
    simp only [limb_plus.b1]
    refine Ev.ff (by simp) (Ev.ret' ?_)
    rw [beq_dec]
    congr 1
    rw [decide_eq_decide]
    omega
  | m + 1, i, h => by
    refine Ev.succ (f := fun k => limb_plus.b1 k (limb_plus.go k) _ _ z _ _ _) ?_ (fun k => rfl)
    simp only [limb_plus.b1, Int.toNat_natCast, toW_get _ i (show i < 8 by omega)]
    rw [v64 (by omega) (by omega)]
    have hp := pw i
    have l1 := Nat.mod_lt a hp
    have l2 := Nat.mod_lt b hp
    obtain ⟨s1, s2⟩ := sum_step W64 a b i (by decide)
    have hc : (a % W64 ^ i + b % W64 ^ i) / W64 ^ i ≤ 1 := by
      have : (a % W64 ^ i + b % W64 ^ i) / W64 ^ i < 2 := by rw [Nat.div_lt_iff_lt_mul hp]; omega
      omega
    have ih := plus_go a b z m (i + 1) (by omega)
    rw [s1, s2] at ih
    rw [← Int.natCast_add, ← Int.natCast_add, cmod, cdiv, toW_put _ i _ (by omega) (Nat.mod_lt _ hp) (Nat.mod_lt _ (by decide))]
    exact Ev.tt (by simp; omega) (Ev.gk (inB_iff.2 (by omega)) (Ev.gk (inB_iff.2 (by omega)) (Ev.gk (decide_eq_true (by exact_mod_cast hc)) (Ev.gk (inB_iff.2 (by omega)) ih))))
theorem plus_ev (a b : Nat) (ha : a < M512) (hb : b < M512) : Ev (fun k => limb_plus.m k (toW a) (toW b)) (toW ((a + b) % M512), decide (a + b < M512)) := by
  refine Ev.succ (f := fun k => limb_plus.b0 k (limb_plus.go k) (toW a) (toW b)) ?_ (fun k => rfl)
  have := plus_go a b (List.replicate 8 (0 : Int)) 8 0 (by decide)
  simp only [Nat.pow_zero, Nat.mod_one, Nat.zero_div, Nat.add_zero, M512_eq, Nat.mod_eq_of_lt ha, Nat.mod_eq_of_lt hb, toW_zero] at this
  refine this.to ?_
  congr 1
  rw [decide_eq_decide, Nat.div_eq_zero_iff]
  have : M512 ≠ 0 := by decide
  omega
/-- A column of a difference. -/
theorem sub_step (a b i : Nat) : let u := a % W64 ^ i; let v := b % W64 ^ i; let c := if u < v then 1 else 0; let x := a / W64 ^ i % W64; let y := b / W64 ^ i % W64
    let c' := if x < y + c then 1 else 0
    (if a % W64 ^ (i + 1) < b % W64 ^ (i + 1) then 1 else 0) = c' ∧ x + c' * W64 - y - c < W64 ∧ y + c ≤ x + c' * W64 ∧
    a % W64 ^ (i + 1) + c' * W64 ^ (i + 1) - b % W64 ^ (i + 1) = (u + c * W64 ^ i - v) + (x + c' * W64 - y - c) * W64 ^ i ∧ u + c * W64 ^ i - v < W64 ^ i := by
  intro u v c x y c'
  have hp := pw i
  have hu : u < W64 ^ i := Nat.mod_lt a hp
  have hv : v < W64 ^ i := Nat.mod_lt b hp
  have hx : x < W64 := word_lt a i
  have hy : y < W64 := word_lt b i
  have h1 : a % W64 ^ (i + 1) = u + x * W64 ^ i := mod_next W64 a i
  have h2 : b % W64 ^ (i + 1) = v + y * W64 ^ i := mod_next W64 b i
  have hc : c = if u < v then 1 else 0 := rfl
  have hc' : c' = if x < y + c then 1 else 0 := rfl
  clear_value u v x y c c'
  rw [h1, h2, Nat.pow_succ]
  generalize W64 ^ i = P at *
  have eW : W64 = 18446744073709551616 := rfl
  by_cases huv : u < v
  · rw [if_pos huv] at hc
    subst hc
    by_cases hxy : x < y + 1
    · rw [if_pos hxy] at hc'
      subst hc'
      have h3 : x * P ≤ y * P := Nat.mul_le_mul_right _ (by omega)
      refine ⟨by rw [if_pos (by omega)], by omega, by omega, ?_, by omega⟩
      have h4 : (x + 1 * W64 - y - 1) * P + (y + 1) * P = (x + W64) * P := by rw [← Nat.add_mul]; congr 1; omega
      rw [Nat.add_mul, Nat.add_mul] at h4
      have h5 : W64 * P = P * W64 := Nat.mul_comm _ _
      omega
    · rw [if_neg hxy] at hc'
      subst hc'
      have h3 : (y + 1) * P ≤ x * P := Nat.mul_le_mul_right _ (by omega)
      rw [Nat.add_mul] at h3
      refine ⟨by rw [if_neg (by omega)], by omega, by omega, ?_, by omega⟩
      have h4 : (x + 0 * W64 - y - 1) * P + (y + 1) * P = x * P := by rw [← Nat.add_mul]; congr 1; omega
      rw [Nat.add_mul] at h4
      omega
  · rw [if_neg huv] at hc
    subst hc
    by_cases hxy : x < y + 0
    · rw [if_pos hxy] at hc'
      subst hc'
      have h3 : (x + 1) * P ≤ y * P := Nat.mul_le_mul_right _ (by omega)
      rw [Nat.add_mul] at h3
      refine ⟨by rw [if_pos (by omega)], by omega, by omega, ?_, by omega⟩
      have h4 : (x + 1 * W64 - y - 0) * P + y * P = (x + W64) * P := by rw [← Nat.add_mul]; congr 1; omega
      rw [Nat.add_mul] at h4
      have h5 : W64 * P = P * W64 := Nat.mul_comm _ _
      omega
    · rw [if_neg hxy] at hc'
      subst hc'
      have h3 : y * P ≤ x * P := Nat.mul_le_mul_right _ (by omega)
      refine ⟨by rw [if_neg (by omega)], by omega, by omega, ?_, by omega⟩
      have h4 : (x + 0 * W64 - y - 0) * P + y * P = x * P := by rw [← Nat.add_mul]; congr 1; omega
      omega
theorem minus_go (a b : Nat) (z : List Int) : ∀ (m i : Nat), i + m = 8 →
    Ev (fun k => limb_minus.go k (.l1 (toW a) (toW b) z (toW (a % W64 ^ i + (if a % W64 ^ i < b % W64 ^ i then 1 else 0) * W64 ^ i - b % W64 ^ i)) ((if a % W64 ^ i < b % W64 ^ i then 1 else 0 : Nat) : Int) (i : Int)))
      (toW (a % W64 ^ 8 + (if a % W64 ^ 8 < b % W64 ^ 8 then 1 else 0) * W64 ^ 8 - b % W64 ^ 8))
  | 0, i, h => by
    obtain rfl : i = 8 := by omega
    refine Ev.succ (f := fun k => limb_minus.b1 k (limb_minus.go k) _ _ z _ _ _) ?_ (fun k => rfl)
    simp only [limb_minus.b1]
    exact Ev.ff (by simp) Ev.ret
  | m + 1, i, h => by
    refine Ev.succ (f := fun k => limb_minus.b1 k (limb_minus.go k) _ _ z _ _ _) ?_ (fun k => rfl)
    simp only [limb_minus.b1, Int.toNat_natCast, toW_get _ i (show i < 8 by omega)]
    rw [v64 (by omega) (by omega)]
    obtain ⟨s1, s2, s3, s4, s5⟩ := sub_step a b i
    have ih := minus_go a b z m (i + 1) (by omega)
    rw [s1, s4] at ih
    have hc1 : (if a % W64 ^ i < b % W64 ^ i then 1 else 0) ≤ 1 := by split <;> omega
    generalize (if a % W64 ^ i < b % W64 ^ i then 1 else 0) = c at *
    have hx := word_lt a i
    have hy := word_lt b i
    generalize a / W64 ^ i % W64 = x at *
    generalize b / W64 ^ i % W64 = y at *
    have e1 : ((x : Int) - (y : Int) - (c : Int)) % 18446744073709551616 = ((x + (if x < y + c then 1 else 0) * W64 - y - c : Nat) : Int) := by
      have eW : W64 = 18446744073709551616 := rfl
      rw [eW] at hx hy s3 ⊢
      by_cases hlt : x < y + c
      · rw [if_pos hlt] at s3 ⊢; omega
      · rw [if_neg hlt] at s3 ⊢; omega
    have e2 : (if (x : Int) < (y : Int) + (c : Int) then (1 : Int) else 0) = ((if x < y + c then 1 else 0 : Nat) : Int) := by
      by_cases hlt : x < y + c
      · rw [if_pos hlt, if_pos (by omega)]; rfl
      · rw [if_neg hlt, if_neg (by omega)]; rfl
    rw [e1, e2, toW_put _ i _ (by omega) s5 s2]
    exact Ev.tt (by simp; omega) (Ev.gk (inB_iff.2 (by omega)) (Ev.gk (inB_iff.2 (by omega)) (Ev.gk (decide_eq_true (by omega)) (Ev.gk (inB_iff.2 (by omega)) ih))))
theorem minus_ev (a b : Nat) (ha : a < M512) (hb : b ≤ a) : Ev (fun k => limb_minus.m k (toW a) (toW b)) (toW (a - b)) := by
  refine Ev.succ (f := fun k => limb_minus.b0 k (limb_minus.go k) (toW a) (toW b)) ?_ (fun k => rfl)
  have := minus_go a b (List.replicate 8 (0 : Int)) 8 0 (by decide)
  simp only [Nat.pow_zero, Nat.mod_one, M512_eq, Nat.mod_eq_of_lt ha, Nat.mod_eq_of_lt (show b < M512 by omega), if_neg (show ¬ a < b by omega)] at this
  show Ev (fun k => limb_minus.go k (.l1 (toW a) (toW b) (List.replicate 8 (0 : Int)) (List.replicate 8 (0 : Int)) 0 0)) (toW (a - b))
  simpa [toW_zero] using this
/-- A number if it fits, and the error's number. -/
def fitN (v : Nat) : Bool × List Int × Er := if v < M512 then (false, toW v, .nil) else (false, List.replicate 8 0, .no 9)
theorem fit_ev (v w : Nat) (c : Bool) (hc : c = decide (v < M512)) (hw : v < M512 → w = v) : Ev (fun k => limb_fit.m k false (toW w) c) (fitN v) := by
  refine Ev.succ (f := fun k => limb_fit.b0 k false (toW w) c) ?_ (fun k => rfl)
  simp only [limb_fit.b0]
  subst hc
  unfold fitN
  by_cases h : v < M512
  · rw [if_pos h, hw h]
    exact Ev.ff (by simp [h]) (Ev.bind (made_ev v) Ev.ret)
  · rw [if_neg h]
    exact Ev.tt (by simp [h]) Ev.ret
theorem add_ev (a b : Nat) (ha : a < M512) (hb : b < M512) : Ev (fun k => limb_Add.m k false (toW a) false (toW b)) (fitN (a + b)) := by
  refine Ev.succ (f := fun k => limb_Add.b0 k false (toW a) false (toW b)) ?_ (fun k => rfl)
  simp only [limb_Add.b0]
  exact Ev.tt rfl (Ev.bind (plus_ev a b ha hb) (Ev.bind (fit_ev (a + b) _ _ rfl (fun h => Nat.mod_eq_of_lt h)) Ev.ret))
end Go.Proofs.YtaakccdfgejgpaaGreatDoor.Pure
