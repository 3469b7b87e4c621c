/-
  Chapter 09, plain: bits, shifts, quotients of sizes.
-/
import Derived.Test.YtaakccdfgejgpaaGreatDoorNc
namespace Go.Proofs.YtaakccdfgejgpaaGreatDoor.Pure
open Go Abs
set_option linter.unusedVariables false
set_option linter.unusedSimpArgs false

/-- How many bits a number has. -/
def blen (v : Nat) : Nat := if v = 0 then 0 else v.log2 + 1
theorem blen_lt (v : Nat) : v < 2 ^ blen v := by
  unfold blen
  split
  · omega
  · exact Nat.lt_log2_self
theorem blen_le (v : Nat) (h : v ≠ 0) : 2 ^ (blen v - 1) ≤ v ∧ 1 ≤ blen v := by
  unfold blen
  rw [if_neg h]
  exact ⟨Nat.log2_self_le h, by omega⟩
theorem blen_of (v n : Nat) (h : v < 2 ^ n) (h' : n = 0 ∨ 2 ^ (n - 1) ≤ v) : blen v = n := by
  by_cases hv : v = 0
  · subst hv
    rcases h' with h' | h'
    · rw [h']; rfl
    · have := Nat.pow_pos (n := n - 1) (show 0 < 2 by decide); omega
  · have h1 := blen_lt v
    obtain ⟨h2, h3⟩ := blen_le v hv
    rcases h' with h' | h'
    · subst h'; simp at h; omega
    · have a1 : 2 ^ (blen v - 1) < 2 ^ n := Nat.lt_of_le_of_lt h2 h
      have a2 : 2 ^ (n - 1) < 2 ^ blen v := Nat.lt_of_le_of_lt h' h1
      rw [Nat.pow_lt_pow_iff_right (by decide)] at a1 a2
      omega
theorem blen_shift (v s : Nat) (h : v / 2 ^ s ≠ 0) : blen v = blen (v / 2 ^ s) + s := by
  have h1 := blen_lt (v / 2 ^ s)
  obtain ⟨h2, h3⟩ := blen_le _ h
  refine blen_of v _ ?_ (.inr ?_)
  · rw [Nat.div_lt_iff_lt_mul (Nat.pow_pos (by decide)), ← Nat.pow_add] at h1
    exact h1
  · rw [Nat.le_div_iff_mul_le (Nat.pow_pos (by decide)), ← Nat.pow_add] at h2
    rwa [show blen (v / 2 ^ s) - 1 + s = blen (v / 2 ^ s) + s - 1 by omega] at h2
theorem blen_le_of (v n : Nat) (h : v < 2 ^ n) : blen v ≤ n := by
  by_cases hv : v = 0
  · subst hv; exact Nat.zero_le _
  · obtain ⟨h2, h3⟩ := blen_le v hv
    have := Nat.lt_of_le_of_lt h2 h
    rw [Nat.pow_lt_pow_iff_right (by decide)] at this
    omega
def lenT : List UInt8 := [0, 1, 2, 2, 3, 3, 3, 3, 4, 4, 4, 4, 4, 4, 4, 4, 5, 5, 5, 5, 5, 5, 5, 5, 5, 5, 5, 5, 5, 5, 5, 5] ++ List.replicate 32 6 ++ List.replicate 64 7 ++ List.replicate 128 8
theorem len_tab : (List.range 256).all (fun n => byt lenT ((n : Nat) : Int) == (blen n : Int)) = true := by kernel_rfl
theorem len_at (n : Nat) (h : n < 256) : byt lenT (n : Int) = (blen n : Int) := by
  have := List.all_eq_true.1 len_tab n (by simpa using h)
  simpa using this
theorem shrN (a s : Nat) (hs : s ≤ 64) : shrI .u64 (a : Int) (s : Int) = ((a / 2 ^ s : Nat) : Int) := by
  have e : shrI .u64 (a : Int) (s : Int) = (a : Int).fdiv (2 ^ s) := by
    unfold shrI
    rw [Int.toNat_natCast, show min s (IntKind.bits .u64) = s from Nat.min_eq_left hs]
  rw [e, Int.fdiv_eq_ediv_of_nonneg _ (Int.le_of_lt (Int.pow_pos (by decide)))]
  simp
theorem shlN (a s : Nat) (hs : s ≤ 64) : shlI .u64 (a : Int) (s : Int) = ((a * 2 ^ s % W64 : Nat) : Int) := by
  have e : shlI .u64 (a : Int) (s : Int) = IntKind.u64.wrap ((a : Int) * 2 ^ s) := by
    unfold shlI
    rw [Int.toNat_natCast, show min s (IntKind.bits .u64) = s from Nat.min_eq_left hs]
  rw [e]
  have := wrapM (a * 2 ^ s)
  rw [← this]
  simp
set_option maxRecDepth 100000 in
theorem len64_ev (x : Nat) (hx : x < W64) : Ev (fun k => bits_Len64.m k (x : Int)) (blen x : Int) := by
  have hx : x < 18446744073709551616 := hx
  have l2 : ∀ y n : Nat, y < 65536 → n ≤ 48 → (blen x : Int) = blen y + n → Ev (fun k => bits_Len64.go k (.l2 (y : Int) (n : Int))) (blen x : Int) := by
    intro y n hy hn he
    refine Ev.succ (f := fun k => bits_Len64.b2 k (bits_Len64.go k) (y : Int) (n : Int)) ?_ (fun k => rfl)
    show Ev (fun k => bif (decide ((y : Int) ≥ 256)) then gk (inB (wr .u8 (shrI .u64 (y : Int) 8)) lenT.length) (some (wr .i64 ((wr .i64 ((n : Int) + 8)) + (wr .i64 (byt lenT (wr .u8 (shrI .u64 (y : Int) 8)))))))
      else gk (inB (wr .u8 (y : Int)) lenT.length) (some (wr .i64 ((n : Int) + (wr .i64 (byt lenT (wr .u8 (y : Int)))))))) _
    have w8' : ∀ z : Nat, z < 256 → wr .u8 (z : Int) = (z : Int) := fun z hz => w8 (by omega) (by omega)
    refine Ev.bif (fun h => ?_) (fun h => ?_)
    · have h := of_decide_eq_true h
      have hd : y / 256 < 256 := by omega
      have e1 := shrN y 8 (by decide)
      have hne : y / 2 ^ 8 ≠ 0 := by show y / 256 ≠ 0; omega
      have hb := blen_shift y 8 hne
      have hl := blen_le_of (y / 256) 8 (by omega)
      have hb : blen y = blen (y / 256) + 8 := hb
      show Ev (fun k => gk (inB (wr .u8 (shrI .u64 (y : Int) ((8 : Nat) : Int))) lenT.length) (some (wr .i64 ((wr .i64 ((n : Int) + 8)) + (wr .i64 (byt lenT (wr .u8 (shrI .u64 (y : Int) ((8 : Nat) : Int))))))))) _
      have e2 : y / 2 ^ 8 = y / 256 := rfl
      rw [e1, e2, w8' _ hd, len_at _ hd, v64 (n := (n : Int) + 8) (by omega) (by omega), v64 (n := (blen (y / 256) : Int)) (by omega) (by omega), v64 (by omega) (by omega)]
      exact Ev.gk (inB_iff.2 ⟨by omega, by show ((y / 256 : Nat) : Int) < 256; omega⟩) (Ev.ret' (by omega))
    · have h := of_decide_eq_false h
      have hd : y < 256 := by omega
      have hl := blen_le_of y 8 (by omega)
      show Ev (fun k => gk (inB (wr .u8 (y : Int)) lenT.length) (some (wr .i64 ((n : Int) + (wr .i64 (byt lenT (wr .u8 (y : Int)))))))) _
      rw [w8' _ hd, len_at _ hd, v64 (n := (blen y : Int)) (by omega) (by omega), v64 (by omega) (by omega)]
      exact Ev.gk (inB_iff.2 ⟨by omega, by show (y : Int) < 256; omega⟩) (Ev.ret' (by omega))
  have l1 : ∀ y n : Nat, y < 4294967296 → n ≤ 32 → (blen x : Int) = blen y + n → Ev (fun k => bits_Len64.go k (.l1 (y : Int) (n : Int))) (blen x : Int) := by
    intro y n hy hn he
    refine Ev.succ (f := fun k => bits_Len64.b1 k (bits_Len64.go k) (y : Int) (n : Int)) ?_ (fun k => rfl)
    simp only [bits_Len64.b1]
    refine Ev.bif (fun h => ?_) (fun h => ?_)
    · have h := of_decide_eq_true h
      have e1 : shrI .u64 (y : Int) 16 = ((y / 65536 : Nat) : Int) := shrN y 16 (by decide)
      have hb : blen y = blen (y / 65536) + 16 := blen_shift y 16 (by show y / 65536 ≠ 0; omega)
      have e2 : wr .i64 ((n : Int) + 16) = ((n + 16 : Nat) : Int) := by rw [v64 (by omega) (by omega)]; omega
      rw [e1, e2]
      exact l2 _ _ (by omega) (by omega) (by omega)
    · have h := of_decide_eq_false h
      exact l2 _ _ (by omega) (by omega) he
  refine Ev.succ (f := fun k => bits_Len64.b0 k (bits_Len64.go k) (x : Int)) ?_ (fun k => rfl)
  simp only [bits_Len64.b0]
  refine Ev.bif (fun h => ?_) (fun h => ?_)
  · have h := of_decide_eq_true h
    have e1 : shrI .u64 (x : Int) 32 = ((x / 4294967296 : Nat) : Int) := shrN x 32 (by decide)
    have hb : blen x = blen (x / 4294967296) + 32 := blen_shift x 32 (by show x / 4294967296 ≠ 0; omega)
    rw [e1]
    exact l1 _ 32 (by omega) (by omega) (by omega)
  · have h := of_decide_eq_false h
    exact l1 x 0 (by omega) (by omega) (by omega)
theorem W64_pow (i : Nat) : W64 ^ i = 2 ^ (64 * i) := by
  rw [show W64 = 2 ^ 64 from rfl, ← Nat.pow_mul]
theorem length_go (v : Nat) : ∀ i : Nat, i ≤ 8 → v < W64 ^ i → Ev (fun k => limb_length.go k (.l1 (toW v) ((i : Int) - 1))) (blen v : Int)
  | 0, _, h => by
    have : v = 0 := by simpa using h
    subst this
    refine Ev.succ (f := fun k => limb_length.b1 k (limb_length.go k) (toW 0) _) ?_ (fun k => rfl)
    simp only [limb_length.b1]
    exact Ev.ff (by simp) Ev.ret
  | i + 1, hi, h => by
    have e0 : ((i + 1 : Nat) : Int) - 1 = i := by omega
    rw [e0]
    refine Ev.succ (f := fun k => limb_length.b1 k (limb_length.go k) (toW v) (i : Int)) ?_ (fun k => rfl)
    simp only [limb_length.b1, Int.toNat_natCast, toW_get _ i (show i < 8 by omega)]
    have hd : v / W64 ^ i < W64 := by rw [Nat.div_lt_iff_lt_mul (pw i), ← Nat.pow_succ']; exact h
    have hw : v / W64 ^ i % W64 = v / W64 ^ i := Nat.mod_eq_of_lt hd
    rw [hw]
    have hl := blen_le_of (v / W64 ^ i) 64 hd
    refine Ev.tt (by simp) (Ev.gk (inB_iff.2 (by omega)) (Ev.bif (fun hne => Ev.gk (inB_iff.2 (by omega)) (Ev.bind (len64_ev _ hd) (Ev.ret' ?_))) (fun hz => ?_)))
    · have hne : v / W64 ^ i ≠ 0 := by intro e; rw [e] at hne; simp at hne
      have hb := blen_shift v (64 * i) (by rw [← W64_pow]; exact hne)
      rw [← W64_pow] at hb
      rw [v64 (n := 64 * (i : Int)) (by omega) (by omega), v64 (by omega) (by omega)]
      omega
    · have hz : v / W64 ^ i = 0 := by
        have : ((v / W64 ^ i : Nat) : Int) = 0 := by simpa using hz
        omega
      rw [v64 (by omega) (by omega)]
      refine length_go v i (by omega) ?_
      rw [Nat.div_eq_zero_iff] at hz
      have := pw i
      omega
theorem length_ev (v : Nat) (h : v < M512) : Ev (fun k => limb_length.m k (toW v)) (blen v : Int) := by
  refine Ev.succ (f := fun k => limb_length.b0 k (limb_length.go k) (toW v)) ?_ (fun k => rfl)
  exact length_go v 8 (by decide) (by rw [M512_eq]; exact h)

/-! ### Shifts up -/
/-- A word of a number that is shifted up by fewer bits than a word has. -/
theorem up_word (a r j : Nat) (hr : r < 64) : a * 2 ^ r / W64 ^ j % W64 = a / W64 ^ j % W64 * 2 ^ r % W64 + (if 0 < j then a / W64 ^ (j - 1) % W64 / 2 ^ (64 - r) else 0) ∧
    a / W64 ^ j % W64 * 2 ^ r % W64 % 2 ^ r = 0 ∧ (if 0 < j then a / W64 ^ (j - 1) % W64 / 2 ^ (64 - r) else 0) < 2 ^ r := by
  have hR : 0 < 2 ^ r := Nat.pow_pos (by decide)
  have hT : 0 < 2 ^ (64 - r) := Nat.pow_pos (by decide)
  have hRT : 2 ^ r * 2 ^ (64 - r) = W64 := by rw [← Nat.pow_add, show r + (64 - r) = 64 by omega]
  have hlow : a / W64 ^ j % W64 * 2 ^ r % W64 % 2 ^ r = 0 := by
    rw [← hRT, Nat.mod_mul_right_mod, Nat.mul_mod_left]
  have hc : (if 0 < j then a / W64 ^ (j - 1) % W64 / 2 ^ (64 - r) else 0) < 2 ^ r := by
    split
    · rw [Nat.div_lt_iff_lt_mul hT, hRT]; exact word_lt _ _
    · exact hR
  refine ⟨?_, hlow, hc⟩
  have hq : a * 2 ^ r / W64 ^ j = a / W64 ^ j * 2 ^ r + (if 0 < j then a / W64 ^ (j - 1) % W64 / 2 ^ (64 - r) else 0) := by
    by_cases hj : 0 < j
    · rw [if_pos hj]
      obtain ⟨p, rfl⟩ : ∃ p, j = p + 1 := ⟨j - 1, by omega⟩
      rw [Nat.add_sub_cancel]
      have hsp := split3 W64 a p (by decide)
      have hp := pw p
      have hl := Nat.mod_lt a hp
      generalize hw : a / W64 ^ p % W64 = w at *
      generalize hh : a / W64 ^ (p + 1) = h at *
      generalize a % W64 ^ p = l at *
      have hwd := Nat.mod_add_div w (2 ^ (64 - r))
      have hwl := Nat.mod_lt w hT
      generalize w / 2 ^ (64 - r) = u at *
      generalize w % 2 ^ (64 - r) = t at *
      refine (dm_uniq (r := l * 2 ^ r + t * W64 ^ p * 2 ^ r) (m := W64 ^ (p + 1)) ?_ ?_).2
      · rw [Nat.pow_succ, ← hRT, hsp, ← hwd, ← hRT]
        generalize W64 ^ p = P at *
        generalize 2 ^ r = R at *
        generalize 2 ^ (64 - r) = T at *
        clear hsp hwd hRT hlow hc
        grind
      · rw [Nat.pow_succ]
        have h1 : l * 2 ^ r < W64 ^ p * 2 ^ r := Nat.mul_lt_mul_of_pos_right hl hR
        have h2 : (t + 1) * (W64 ^ p * 2 ^ r) ≤ 2 ^ (64 - r) * (W64 ^ p * 2 ^ r) := Nat.mul_le_mul_right _ hwl
        have h3 : 2 ^ (64 - r) * (W64 ^ p * 2 ^ r) = W64 ^ p * W64 := by rw [← hRT]; grind
        rw [Nat.add_mul, h3, ← Nat.mul_assoc] at h2
        omega
    · obtain rfl : j = 0 := by omega
      simp
  have hm : a / W64 ^ j * 2 ^ r % W64 = a / W64 ^ j % W64 * 2 ^ r % W64 := by rw [Nat.mod_mul_mod]
  rw [hq]
  generalize (if 0 < j then a / W64 ^ (j - 1) % W64 / 2 ^ (64 - r) else 0) = c at *
  rw [← hm] at hlow ⊢
  generalize a / W64 ^ j * 2 ^ r = Y at *
  have h1 := Nat.mod_add_div Y W64
  have h2 := Nat.mod_lt Y (show 0 < W64 by decide)
  have h3 : Y % W64 + 2 ^ r ≤ W64 := by
    have h4 := Nat.mod_add_div (Y % W64) (2 ^ r)
    rw [hlow, Nat.zero_add] at h4
    have h5 : Y % W64 / 2 ^ r < 2 ^ (64 - r) := by rw [Nat.div_lt_iff_lt_mul hR, Nat.mul_comm, hRT]; exact h2
    have h6 : 2 ^ r * (Y % W64 / 2 ^ r + 1) ≤ 2 ^ r * 2 ^ (64 - r) := Nat.mul_le_mul_left _ h5
    rw [hRT, Nat.mul_add] at h6
    omega
  exact (dm_uniq (r := Y % W64 + c) (q := Y / W64) (m := W64) (by rw [Nat.mul_comm (Y / W64)]; omega) (by omega)).1
end Go.Proofs.YtaakccdfgejgpaaGreatDoor.Pure
