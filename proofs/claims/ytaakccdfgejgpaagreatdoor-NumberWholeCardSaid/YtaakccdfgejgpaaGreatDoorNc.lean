/-
  Chapter 09, plain: products of sizes.
-/
import Derived.Test.YtaakccdfgejgpaaGreatDoorNb
import Derived.Lib.Mul64
namespace Go.Proofs.YtaakccdfgejgpaaGreatDoor.Pure
open Go Abs
set_option linter.unusedVariables false
set_option linter.unusedSimpArgs false

theorem maskN (a : Nat) (ha : a < 18446744073709551616) : Go.bits .and .u64 (a : Int) 4294967295 = ((a % 4294967296 : Nat) : Int) := by
  have h := u64_and_nat a 4294967295 ha (by omega)
  rw [Nat.and_two_pow_sub_one_eq_mod a 32] at h
  exact h
theorem shr32 (a : Nat) : shrI .u64 (a : Int) 32 = ((a / 4294967296 : Nat) : Int) := by
  show (a : Int).fdiv 4294967296 = _
  rw [Int.fdiv_eq_ediv_of_nonneg _ (by decide)]
  omega
theorem wrapN (a : Nat) (ha : a < 18446744073709551616) : wr .u64 (a : Int) = (a : Int) := u64i (by omega) (by omega)
theorem wrapM (a : Nat) : wr .u64 (a : Int) = ((a % W64 : Nat) : Int) := by rw [wru, cmod]
theorem mulN (a b : Nat) : (a : Int) * (b : Int) = ((a * b : Nat) : Int) := (Int.natCast_mul a b).symm
theorem addN (a b : Nat) : (a : Int) + (b : Int) = ((a + b : Nat) : Int) := (Int.natCast_add a b).symm
theorem mul64_ev (x y : Nat) (hx : x < W64) (hy : y < W64) : Ev (fun k => bits_Mul64.m k (x : Int) (y : Int)) (((x * y / W64 : Nat) : Int), ((x * y % W64 : Nat) : Int)) := by
  refine Ev.succ (f := fun k => bits_Mul64.b0 k (x : Int) (y : Int)) ?_ (fun k => rfl)
  simp only [bits_Mul64.b0]
  have hx : x < 18446744073709551616 := hx
  have hy : y < 18446744073709551616 := hy
  obtain ⟨bd, bt, bw, hhi⟩ := Lib.mul64_hi x y hx hy
  have ba := Lib.half_mul_le (a := x / 4294967296) (b := y / 4294967296) (by omega) (by omega)
  have bb := Lib.half_mul_le (a := x / 4294967296) (b := y % 4294967296) (by omega) (by omega)
  have bc := Lib.half_mul_le (a := x % 4294967296) (b := y / 4294967296) (by omega) (by omega)
  have ba' : x / 4294967296 * (y / 4294967296) < 18446744073709551616 := by omega
  have bb' : x / 4294967296 * (y % 4294967296) < 18446744073709551616 := by omega
  have bc' : x % 4294967296 * (y / 4294967296) < 18446744073709551616 := by omega
  have bh1 : x / 4294967296 * (y / 4294967296) + (x / 4294967296 * (y % 4294967296) + x % 4294967296 * (y % 4294967296) / 4294967296) / 4294967296 < 18446744073709551616 := by omega
  have bh : x / 4294967296 * (y / 4294967296) + (x / 4294967296 * (y % 4294967296) + x % 4294967296 * (y % 4294967296) / 4294967296) / 4294967296 + ((x / 4294967296 * (y % 4294967296) + x % 4294967296 * (y % 4294967296) / 4294967296) % 4294967296 + x % 4294967296 * (y / 4294967296)) / 4294967296 < 18446744073709551616 := by omega
  simp only [maskN x hx, maskN y hy, shr32, mulN, addN, wrapN _ bd, wrapN _ bb', wrapN _ bt, maskN _ bt, wrapN _ bc', wrapN _ bw, wrapN _ ba', wrapN _ bh1, wrapN _ bh, wrapM (x * y)]
  rw [hhi]
  exact Ev.ret

def Row (a b i : Nat) (s : List Int) (ok : Bool) : Prop := s.length = 8 ∧ (ok = true → ∃ S, s = toW S ∧ S < M512 ∧ S = a % W64 ^ i * b) ∧ (ok = false → M512 ≤ a * b)
def Col (a b i k : Nat) (s : List Int) (ok : Bool) (c : Int) : Prop := s.length = 8 ∧ (ok = true → ∃ S cn : Nat, s = toW S ∧ c = (cn : Int) ∧ S < M512 ∧ cn < W64 ∧ (i + k ≤ 8 ∨ cn = 0) ∧ S + cn * W64 ^ (i + k) = a % W64 ^ i * b + a / W64 ^ i % W64 * (b % W64 ^ k) * W64 ^ i) ∧ (ok = false → M512 ≤ a * b)
/-- What is done so far is no more than the product. -/
theorem part_le (a b i k : Nat) : a % W64 ^ i * b + a / W64 ^ i % W64 * (b % W64 ^ k) * W64 ^ i ≤ a * b := by
  have h1 := mod_next W64 a i
  have h2 : a % W64 ^ (i + 1) ≤ a := Nat.mod_le _ _
  have h3 : b % W64 ^ k ≤ b := Nat.mod_le _ _
  have h4 : a / W64 ^ i % W64 * (b % W64 ^ k) * W64 ^ i ≤ a / W64 ^ i % W64 * b * W64 ^ i := Nat.mul_le_mul_right _ (Nat.mul_le_mul_left _ h3)
  have h5 : a % W64 ^ (i + 1) * b ≤ a * b := Nat.mul_le_mul_right _ h2
  have h6 : a % W64 ^ (i + 1) * b = a % W64 ^ i * b + a / W64 ^ i % W64 * b * W64 ^ i := by rw [h1]; grind
  omega
theorem part_next (a b i k : Nat) : a % W64 ^ i * b + a / W64 ^ i % W64 * (b % W64 ^ (k + 1)) * W64 ^ i = a % W64 ^ i * b + a / W64 ^ i % W64 * (b % W64 ^ k) * W64 ^ i + a / W64 ^ i % W64 * (b / W64 ^ k % W64) * W64 ^ (i + k) := by
  rw [mod_next W64 b k, Nat.pow_add]
  grind
theorem pow_mono (i : Nat) (h : 8 ≤ i) : M512 ≤ W64 ^ i := by rw [← M512_eq]; exact Nat.pow_le_pow_right (by decide) h
/-- One word of a row. -/
theorem col_step (a b i k : Nat) (S cn : Nat) (hk : i + k < 8) (hS : S < M512) (hc : cn < W64) (e : S + cn * W64 ^ (i + k) = a % W64 ^ i * b + a / W64 ^ i % W64 * (b % W64 ^ k) * W64 ^ i) :
    let x := a / W64 ^ i % W64; let y := b / W64 ^ k % W64; let t := S / W64 ^ (i + k) % W64 + (x * y % W64 + cn) % W64; let c' := x * y / W64 + (x * y % W64 + cn) / W64 + t / W64
    c' < W64 ∧ ∃ S', (toW S).set (i + k) ((t % W64 : Nat) : Int) = toW S' ∧ S' < M512 ∧ S' + c' * W64 ^ (i + (k + 1)) = a % W64 ^ i * b + a / W64 ^ i % W64 * (b % W64 ^ (k + 1)) * W64 ^ i := by
  intro x y t c'
  have hx : x < W64 := word_lt a i
  have hy : y < W64 := word_lt b k
  have hw : S / W64 ^ (i + k) % W64 < W64 := word_lt S (i + k)
  rw [part_next, ← e, show i + (k + 1) = (i + k) + 1 by omega, Nat.pow_succ]
  have hsp := split3 W64 S (i + k) (by decide)
  have hp := pw (i + k)
  have hl := Nat.mod_lt S hp
  have hset := fun z hz => toB_set W64 (by decide) 8 (i + k) (S % W64 ^ (i + k)) (S / W64 ^ (i + k) % W64) z (S / W64 ^ (i + k + 1)) hk hl hw hz
  rw [← hsp] at hset
  have hS8 : S < W64 ^ (i + k + 1) * W64 ^ (7 - (i + k)) := by rw [← Nat.pow_add, show i + k + 1 + (7 - (i + k)) = 8 by omega, M512_eq]; exact hS
  have hh : S / W64 ^ (i + k + 1) < W64 ^ (7 - (i + k)) := by rw [Nat.div_lt_iff_lt_mul (pw _), Nat.mul_comm]; exact hS8
  have hM : M512 = W64 ^ (7 - (i + k)) * (W64 * W64 ^ (i + k)) := by rw [← Nat.pow_succ', ← Nat.pow_add, show 7 - (i + k) + (i + k + 1) = 8 by omega, M512_eq]
  have d1 := Nat.mod_add_div (x * y) W64
  have d2 := Nat.mod_add_div (x * y % W64 + cn) W64
  have d3 := Nat.mod_add_div t W64
  have ht : t = S / W64 ^ (i + k) % W64 + (x * y % W64 + cn) % W64 := rfl
  have hc' : c' = x * y / W64 + (x * y % W64 + cn) / W64 + t / W64 := rfl
  have hxy : x * y ≤ (W64 - 1) * (W64 - 1) := Nat.mul_le_mul (by omega) (by omega)
  have htl := Nat.mod_lt t (show 0 < W64 by decide)
  have hsum : t % W64 + W64 * c' = x * y + cn + S / W64 ^ (i + k) % W64 := by rw [hc']; grind
  have hX : a / W64 ^ i % W64 = x := rfl
  have hY : b / W64 ^ k % W64 = y := rfl
  clear_value x y
  refine ⟨?_, S % W64 ^ (i + k) + (t % W64 + W64 * (S / W64 ^ (i + k + 1))) * W64 ^ (i + k), hset (t % W64) htl, ?_, ?_⟩
  · have : W64 * c' < W64 * W64 := by
      have e1 : (W64 - 1) * (W64 - 1) + W64 + W64 ≤ W64 * W64 + 1 := by decide
      omega
    exact Nat.lt_of_mul_lt_mul_left this
  · rw [hM]
    generalize W64 ^ (i + k) = P at *
    generalize W64 ^ (7 - (i + k)) = Z at *
    generalize S / W64 ^ (i + k + 1) = h at *
    have q1 : (t % W64 + W64 * h + 1) * P ≤ (W64 * (h + 1)) * P := Nat.mul_le_mul_right _ (by rw [Nat.mul_add]; omega)
    have q2 : (h + 1) * (W64 * P) ≤ Z * (W64 * P) := Nat.mul_le_mul_right _ hh
    have q3 : (W64 * (h + 1)) * P = (h + 1) * (W64 * P) := by grind
    rw [Nat.add_mul (t % W64 + W64 * h) 1 P] at q1
    omega
  · have q : (t % W64 + W64 * c') * W64 ^ (i + k) = (x * y + cn + S / W64 ^ (i + k) % W64) * W64 ^ (i + k) := by rw [hsum]
    rw [hX, hY]
    clear hset hS8 hh hM d1 d2 d3 ht hc' hxy htl hsum hS e hX hY
    clear_value t c'
    generalize t % W64 = T at *
    generalize S / W64 ^ (i + k) % W64 = w at *
    generalize S / W64 ^ (i + k + 1) = h at *
    generalize S % W64 ^ (i + k) = l at *
    generalize W64 ^ (i + k) = P at *
    rw [hsp]
    clear hsp
    grind
theorem mul_in (a b i : Nat) (z : List Int) (hi : i < 8) (hb : b < M512) (R : Bool × List Int × Er) (hnext : ∀ s ok, Row a b (i + 1) s ok → Ev (fun k => limb_Mul.go k (.l1 false (toW a) false (toW b) false z s ok (toW a) ((i + 1 : Nat) : Int))) R) :
    ∀ (m k : Nat) (s : List Int) (ok : Bool) (c : Int), k + m = 8 → Col a b i k s ok c → Ev (fun n => limb_Mul.go n (.l2 false (toW a) false (toW b) false z s ok (i : Int) ((a / W64 ^ i % W64 : Nat) : Int) c (toW a) (i : Int) (toW b) (k : Int))) R
  | 0, k, s, ok, c, h, hc => by
    obtain rfl : k = 8 := by omega
    refine Ev.succ (f := fun n => limb_Mul.b2 n (limb_Mul.go n) false (toW a) false (toW b) false z s ok (i : Int) ((a / W64 ^ i % W64 : Nat) : Int) c (toW a) (i : Int) (toW b) ((8 : Nat) : Int)) ?_ (fun k => rfl)
    simp only [limb_Mul.b2]
    have ei : wr .i64 ((i : Int) + 1) = ((i + 1 : Nat) : Int) := by rw [v64 (by omega) (by omega)]; omega
    rw [ei]
    obtain ⟨c1, c2, c3⟩ := hc
    have he : a % W64 ^ i * b + a / W64 ^ i % W64 * (b % W64 ^ 8) * W64 ^ i = a % W64 ^ (i + 1) * b := by
      rw [M512_eq, Nat.mod_eq_of_lt hb, mod_next W64 a i]
      grind
    have hle := part_le a b i 8
    refine Ev.ff (by simp) (Ev.bif (fun ho => ?_) (fun ho => ?_))
    · obtain ⟨S, cn, rfl, rfl, g1, g2, g3, g4⟩ := c2 ho
      refine hnext _ _ ⟨c1, fun hz => ?_, fun hz => ?_⟩
      · have hz : cn = 0 := by simpa using hz
        subst hz
        simp only [Nat.zero_mul, Nat.add_zero] at g4
        exact ⟨S, rfl, g1, by rw [g4, he]⟩
      · have hz : cn ≠ 0 := by simpa using hz
        have h8 : i + 8 ≤ 8 := g3.resolve_right hz
        obtain rfl : i = 0 := by omega
        have : 1 * W64 ^ (0 + 8) ≤ cn * W64 ^ (0 + 8) := Nat.mul_le_mul_right _ (by omega)
        simp only [Nat.zero_add, M512_eq] at this g4 hle
        omega
    · exact hnext s false ⟨c1, fun hz => (by cases hz), fun _ => c3 ho⟩
  | m + 1, k, s, ok, c, h, hc => by
    refine Ev.succ (f := fun n => limb_Mul.b2 n (limb_Mul.go n) false (toW a) false (toW b) false z s ok (i : Int) ((a / W64 ^ i % W64 : Nat) : Int) c (toW a) (i : Int) (toW b) (k : Int)) ?_ (fun k => rfl)
    simp only [limb_Mul.b2, Int.toNat_natCast, toW_get b k (show k < 8 by omega)]
    have ew : wr .i64 ((i : Int) + (k : Int)) = ((i + k : Nat) : Int) := by rw [v64 (by omega) (by omega)]; omega
    have ek : wr .i64 ((k : Int) + 1) = ((k + 1 : Nat) : Int) := by rw [v64 (by omega) (by omega)]; omega
    rw [ew, ek]
    have ih := mul_in a b i z hi hb R hnext m (k + 1)
    have hx := word_lt a i
    have hy := word_lt b k
    obtain ⟨c1, c2, c3⟩ := hc
    refine Ev.tt (by simp; omega) (Ev.gk (inB_iff.2 (by omega)) (Ev.bind (mul64_ev _ _ hx hy) (Ev.bif (fun hg => ?_) (fun hg => ?_))))
    · -- beyond the eighth word
      have hge : 8 ≤ i + k := by have := of_decide_eq_true hg; omega
      have l3 : ∀ o, (o = true → ok = true ∧ a / W64 ^ i % W64 * (b / W64 ^ k % W64) = 0 ∧ c = 0) → (o = false → M512 ≤ a * b) →
          Ev (fun n => limb_Mul.go n (.l3 false (toW a) false (toW b) false z s o (i : Int) ((a / W64 ^ i % W64 : Nat) : Int) (toW a) (i : Int) (toW b) (k : Int))) R := by
        intro o h1 h2
        refine Ev.succ (f := fun n => limb_Mul.b3 n (limb_Mul.go n) false (toW a) false (toW b) false z s o (i : Int) ((a / W64 ^ i % W64 : Nat) : Int) (toW a) (i : Int) (toW b) (k : Int)) ?_ (fun k => rfl)
        simp only [limb_Mul.b3]
        rw [ek]
        refine ih s o 0 (by omega) ⟨c1, fun ho => ?_, h2⟩
        obtain ⟨q1, q2, q3⟩ := h1 ho
        obtain ⟨S, cn, rfl, rfl, g1, g2, g3, g4⟩ := c2 q1
        have hcn : cn = 0 := by omega
        subst hcn
        refine ⟨S, 0, rfl, rfl, g1, by decide, .inr rfl, ?_⟩
        rw [part_next, q2]
        simpa using g4
      have bad : ok = true → (a / W64 ^ i % W64 * (b / W64 ^ k % W64) ≠ 0 ∨ c ≠ 0) → M512 ≤ a * b := by
        intro ho hn
        obtain ⟨S, cn, rfl, rfl, g1, g2, g3, g4⟩ := c2 ho
        have hle := part_le a b i (k + 1)
        rw [part_next] at hle
        have hm := pow_mono (i + k) hge
        rcases hn with hn | hn
        · have : 1 * W64 ^ (i + k) ≤ a / W64 ^ i % W64 * (b / W64 ^ k % W64) * W64 ^ (i + k) := Nat.mul_le_mul_right _ (by omega)
          omega
        · have : 1 * W64 ^ (i + k) ≤ cn * W64 ^ (i + k) := Nat.mul_le_mul_right _ (by omega)
          omega
      have dm := Nat.mod_add_div (a / W64 ^ i % W64 * (b / W64 ^ k % W64)) W64
      refine Ev.bif (fun ho => Ev.bif (fun h1 => Ev.bif (fun h2 => ?_) (fun h2 => ?_)) (fun h1 => ?_)) (fun ho => l3 _ (fun h => by cases h) (fun _ => c3 ho))
      · have h1 : a / W64 ^ i % W64 * (b / W64 ^ k % W64) / W64 = 0 := by
          have := eq_of_beq h1; omega
        have h2 : a / W64 ^ i % W64 * (b / W64 ^ k % W64) % W64 = 0 := by
          have := eq_of_beq h2; omega
        have hz : a / W64 ^ i % W64 * (b / W64 ^ k % W64) = 0 := by rw [← dm, h1, h2]; rfl
        refine l3 _ (fun h => ⟨ho, hz, by simpa using h⟩) (fun h => bad ho (.inr (by simpa using h)))
      · refine l3 _ (fun h => by cases h) (fun _ => bad ho (.inl fun e => ?_))
        rw [e] at h2; simp at h2
      · refine l3 _ (fun h => by cases h) (fun _ => bad ho (.inl fun e => ?_))
        rw [e] at h1; simp at h1
    · have hlt : i + k < 8 := by have := of_decide_eq_false hg; omega
      refine Ev.gk rfl (Ev.gk (inB_iff.2 (by omega)) (Ev.gk rfl (Ev.gk (inB_iff.2 (by omega)) ?_)))
      simp only [Int.toNat_natCast, Int.add_zero]
      refine ih _ ok _ (by omega) ⟨by rw [List.length_set]; exact c1, fun ho => ?_, c3⟩
      obtain ⟨S, cn, rfl, rfl, g1, g2, g3, g4⟩ := c2 ho
      obtain ⟨q1, S', q2, q3, q4⟩ := col_step a b i k S cn hlt g1 g2 g4
      rw [toW_get S (i + k) hlt]
      simp only [addN, cmod, cdiv]
      have hw1 : a / W64 ^ i % W64 * (b / W64 ^ k % W64) / W64 + (a / W64 ^ i % W64 * (b / W64 ^ k % W64) % W64 + cn) / W64 < W64 := Nat.lt_of_le_of_lt (Nat.le_add_right _ _) q1
      rw [wrapN _ hw1, addN, wrapN _ q1]
      exact ⟨S', _, q2, rfl, q3, q1, .inl (by omega), q4⟩
theorem mul_go (a b : Nat) (z : List Int) (hb : b < M512) (ha : a < M512) : ∀ (m i : Nat) (s : List Int) (ok : Bool), i + m = 8 → Row a b i s ok → Ev (fun k => limb_Mul.go k (.l1 false (toW a) false (toW b) false z s ok (toW a) (i : Int))) (fitN (a * b))
  | 0, i, s, ok, h, hr => by
    obtain rfl : i = 8 := by omega
    refine Ev.succ (f := fun n => limb_Mul.b1 n (limb_Mul.go n) false (toW a) false (toW b) false z s ok (toW a) ((8 : Nat) : Int)) ?_ (fun k => rfl)
    simp only [limb_Mul.b1]
    obtain ⟨r1, r2, r3⟩ := hr
    refine Ev.ff (by simp) ?_
    cases ok with
    | true =>
      obtain ⟨S, rfl, g1, g2⟩ := r2 rfl
      rw [M512_eq, Nat.mod_eq_of_lt ha] at g2
      subst g2
      exact Ev.bind (fit_ev (a * b) (a * b) true (by simpa using g1) (fun _ => rfl)) Ev.ret
    | false =>
      have hge := r3 rfl
      have hf : Ev (fun k => limb_fit.m k (!(false == false)) s false) (fitN (a * b)) := by
        refine Ev.succ (f := fun k => limb_fit.b0 k false s false) ?_ (fun k => rfl)
        simp only [limb_fit.b0]
        unfold fitN
        rw [if_neg (by omega)]
        exact Ev.tt rfl Ev.ret
      exact Ev.bind hf Ev.ret
  | m + 1, i, s, ok, h, hr => by
    refine Ev.succ (f := fun n => limb_Mul.b1 n (limb_Mul.go n) false (toW a) false (toW b) false z s ok (toW a) (i : Int)) ?_ (fun k => rfl)
    simp only [limb_Mul.b1, Int.toNat_natCast, toW_get a i (show i < 8 by omega)]
    obtain ⟨r1, r2, r3⟩ := hr
    refine Ev.tt (by simp; omega) (Ev.gk (inB_iff.2 (by omega)) ?_)
    refine mul_in a b i z (by omega) hb _ (fun s' ok' hr' => mul_go a b z hb ha m (i + 1) s' ok' (by omega) hr') 8 0 s ok 0 (by omega) ⟨r1, fun ho => ?_, r3⟩
    obtain ⟨S, rfl, g1, g2⟩ := r2 ho
    refine ⟨S, 0, rfl, rfl, g1, by decide, .inr rfl, ?_⟩
    rw [g2]
    simp [Nat.mod_one]
theorem mul_ev (a b : Nat) (ha : a < M512) (hb : b < M512) : Ev (fun k => limb_Mul.m k false (toW a) false (toW b)) (fitN (a * b)) := by
  refine Ev.succ (f := fun k => limb_Mul.b0 k (limb_Mul.go k) false (toW a) false (toW b)) ?_ (fun k => rfl)
  simp only [limb_Mul.b0]
  refine mul_go a b _ hb ha 8 0 _ true (by decide) ⟨by simp, fun _ => ⟨0, toW_zero.symm, by decide, ?_⟩, fun h => by cases h⟩
  simp [Nat.mod_one]
end Go.Proofs.YtaakccdfgejgpaaGreatDoor.Pure
