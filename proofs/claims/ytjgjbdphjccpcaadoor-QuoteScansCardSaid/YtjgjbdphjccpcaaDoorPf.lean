/-
  Chapter 10, plain: decoding a rune, on both sides.
-/
import Derived.Test.YtjgjbdphjccpcaaDoorPe
namespace Go.Proofs.YtjgjbdphjccpcaaDoor.Pure
open Go Abs
set_option linter.unusedVariables false

def cont (c : Int) : Bool := decide (128 ≤ c) && decide (c < 192)
def v2 (a b : Int) : Int := a % 32 * 64 + b % 64
def v3 (a b c : Int) : Int := (a % 16 * 64 + b % 64) * 64 + c % 64
def v4 (a b c d : Int) : Int := ((a % 8 * 64 + b % 64) * 64 + c % 64) * 64 + d % 64
/-- The rune at the head: its value, its length, the error's number. -/
def decF (s : List UInt8) : Int × Int × Int :=
  let L := s.length; let a := byt s 0; let b := byt s 1; let c := byt s 2; let d := byt s 3
  if L = 0 then (0, 0, 4)
  else if a < 128 then (a, 1, 0)
  else if 2 ≤ L ∧ 192 ≤ a ∧ a < 224 ∧ cont b = true ∧ 128 ≤ v2 a b then (v2 a b, 2, 0)
  else if 3 ≤ L ∧ 224 ≤ a ∧ a < 240 ∧ cont b = true ∧ cont c = true ∧ 2048 ≤ v3 a b c ∧ vld (v3 a b c) = true then (v3 a b c, 3, 0)
  else if 4 ≤ L ∧ 240 ≤ a ∧ a < 248 ∧ cont b = true ∧ cont c = true ∧ cont d = true ∧ 65536 ≤ v4 a b c d ∧ vld (v4 a b c d) = true then (v4 a b c d, 4, 0)
  else (0, 0, 3)
theorem cont_iff (c : Int) : cont c = true ↔ 128 ≤ c ∧ c < 192 := by simp [cont]

/-! ### The reference -/
theorem toU8_eq {x : Int} (h : 0 ≤ x) (h' : x < 256) (a : UInt8) : toU8 x = a ↔ x = (a.toNat : Int) := by
  constructor
  · rintro rfl; exact (toU8_val x h h').symm
  · rintro rfl; exact toU8_byt a
theorem enc_len (x : Int) : (enc x).length = if x < 128 then 1 else if x < 2048 then 2 else if x < 65536 then 3 else 4 := by
  unfold enc
  repeat' split
  all_goals rfl
theorem cut_n (s : List UInt8) (n : Nat) : cut s 0 (n : Int) = s.take n := by simp [cut]
theorem take_eq (s : List UInt8) (n : Nat) (l : List UInt8) (hn : n ≤ s.length) : l = s.take n ↔ l.length = n ∧ ∀ i, i < n → ∀ x, l[i]? = some x → (x.toNat : Int) = byt s (i : Int) := by
  constructor
  · rintro rfl
    refine ⟨by simp; omega, fun i hi x hx => ?_⟩
    rw [List.getElem?_take, if_pos hi] at hx
    unfold byt
    simp [List.getD_eq_getElem?_getD, hx]
  · rintro ⟨h1, h2⟩
    apply List.ext_getElem?
    intro i
    by_cases hi : i < n
    · rw [List.getElem?_take, if_pos hi]
      have hs : i < s.length := by omega
      have hl : i < l.length := by omega
      have := h2 i hi l[i] (List.getElem?_eq_getElem hl)
      rw [List.getElem?_eq_getElem hl, List.getElem?_eq_getElem hs]
      rw [byt_nat s i hs] at this
      have h3 : l[i].toNat = s[i].toNat := by omega
      exact congrArg some (UInt8.toNat_inj.1 h3)
    · rw [List.getElem?_take, if_neg hi]
      exact List.getElem?_eq_none (by omega)
theorem enc1 (s : List UInt8) (v : Int) (hn : 1 ≤ s.length) (h0 : 0 ≤ v) : (enc v = s.take 1) ↔ v < 128 ∧ v = byt s 0 := by
  rw [take_eq s 1 _ hn, enc_len]
  constructor
  · rintro ⟨h1, h2⟩
    have hv : v < 128 := by
      by_cases h : v < 128
      · exact h
      · rw [if_neg h] at h1; split at h1 <;> (try split at h1) <;> omega
    refine ⟨hv, ?_⟩
    have := h2 0 (by decide) (toU8 v) (by unfold enc; rw [if_pos hv]; rfl)
    rwa [toU8_val v h0 (by omega)] at this
  · rintro ⟨h1, h2⟩
    refine ⟨by rw [if_pos h1], fun i hi x hx => ?_⟩
    unfold enc at hx
    rw [if_pos h1] at hx
    have : i = 0 := by omega
    subst this
    cases hx
    rw [toU8_val v h0 (by omega)]
    exact h2
theorem enc2 (s : List UInt8) (v : Int) (hn : 2 ≤ s.length) (h0 : 0 ≤ v) : (enc v = s.take 2) ↔ 128 ≤ v ∧ v < 2048 ∧ 192 + v / 64 = byt s 0 ∧ 128 + v % 64 = byt s 1 := by
  rw [take_eq s 2 _ hn, enc_len]
  constructor
  · rintro ⟨h1, h2⟩
    have hv : 128 ≤ v ∧ v < 2048 := by
      split at h1 <;> (try split at h1) <;> (try split at h1) <;> omega
    have e : enc v = [toU8 (192 + v / 64), toU8 (128 + v % 64)] := by unfold enc; rw [if_neg (by omega), if_pos hv.2]
    rw [e] at h2
    have g0 := h2 0 (by decide) _ rfl
    have g1 := h2 1 (by decide) _ rfl
    rw [toU8_val _ (by omega) (by omega)] at g0 g1
    exact ⟨hv.1, hv.2, g0, g1⟩
  · rintro ⟨h1, h2, h3, h4⟩
    refine ⟨by rw [if_neg (by omega), if_pos h2], fun i hi x hx => ?_⟩
    have e : enc v = [toU8 (192 + v / 64), toU8 (128 + v % 64)] := by unfold enc; rw [if_neg (by omega), if_pos h2]
    rw [e] at hx
    match i, hi, hx with
    | 0, _, hx => cases hx; rw [toU8_val _ (by omega) (by omega)]; exact h3
    | 1, _, hx => cases hx; rw [toU8_val _ (by omega) (by omega)]; exact h4
theorem enc3 (s : List UInt8) (v : Int) (hn : 3 ≤ s.length) (h0 : 0 ≤ v) : (enc v = s.take 3) ↔ 2048 ≤ v ∧ v < 65536 ∧ 224 + v / 4096 = byt s 0 ∧ 128 + v / 64 % 64 = byt s 1 ∧ 128 + v % 64 = byt s 2 := by
  rw [take_eq s 3 _ hn, enc_len]
  constructor
  · rintro ⟨h1, h2⟩
    have hv : 2048 ≤ v ∧ v < 65536 := by
      split at h1 <;> (try split at h1) <;> (try split at h1) <;> omega
    have e : enc v = [toU8 (224 + v / 4096), toU8 (128 + v / 64 % 64), toU8 (128 + v % 64)] := by unfold enc; rw [if_neg (by omega), if_neg (by omega), if_pos hv.2]
    rw [e] at h2
    have g0 := h2 0 (by decide) _ rfl
    have g1 := h2 1 (by decide) _ rfl
    have g2 := h2 2 (by decide) _ rfl
    rw [toU8_val _ (by omega) (by omega)] at g0 g1 g2
    exact ⟨hv.1, hv.2, g0, g1, g2⟩
  · rintro ⟨h1, h2, h3, h4, h5⟩
    refine ⟨by rw [if_neg (by omega), if_neg (by omega), if_pos h2], fun i hi x hx => ?_⟩
    have e : enc v = [toU8 (224 + v / 4096), toU8 (128 + v / 64 % 64), toU8 (128 + v % 64)] := by unfold enc; rw [if_neg (by omega), if_neg (by omega), if_pos h2]
    rw [e] at hx
    match i, hi, hx with
    | 0, _, hx => cases hx; rw [toU8_val _ (by omega) (by omega)]; exact h3
    | 1, _, hx => cases hx; rw [toU8_val _ (by omega) (by omega)]; exact h4
    | 2, _, hx => cases hx; rw [toU8_val _ (by omega) (by omega)]; exact h5
theorem enc4 (s : List UInt8) (v : Int) (hn : 4 ≤ s.length) (h0 : 0 ≤ v) (hm : v ≤ 1114111) : (enc v = s.take 4) ↔ 65536 ≤ v ∧ 240 + v / 262144 = byt s 0 ∧ 128 + v / 4096 % 64 = byt s 1 ∧ 128 + v / 64 % 64 = byt s 2 ∧ 128 + v % 64 = byt s 3 := by
  rw [take_eq s 4 _ hn, enc_len]
  constructor
  · rintro ⟨h1, h2⟩
    have hv : 65536 ≤ v := by
      split at h1 <;> (try split at h1) <;> (try split at h1) <;> omega
    have e : enc v = [toU8 (240 + v / 262144), toU8 (128 + v / 4096 % 64), toU8 (128 + v / 64 % 64), toU8 (128 + v % 64)] := by unfold enc; rw [if_neg (by omega), if_neg (by omega), if_neg (by omega)]
    rw [e] at h2
    have g0 := h2 0 (by decide) _ rfl
    have g1 := h2 1 (by decide) _ rfl
    have g2 := h2 2 (by decide) _ rfl
    have g3 := h2 3 (by decide) _ rfl
    rw [toU8_val _ (by omega) (by omega)] at g0 g1 g2 g3
    exact ⟨hv, g0, g1, g2, g3⟩
  · rintro ⟨h1, h3, h4, h5, h6⟩
    refine ⟨by rw [if_neg (by omega), if_neg (by omega), if_neg (by omega)], fun i hi x hx => ?_⟩
    have e : enc v = [toU8 (240 + v / 262144), toU8 (128 + v / 4096 % 64), toU8 (128 + v / 64 % 64), toU8 (128 + v % 64)] := by unfold enc; rw [if_neg (by omega), if_neg (by omega), if_neg (by omega)]
    rw [e] at hx
    match i, hi, hx with
    | 0, _, hx => cases hx; rw [toU8_val _ (by omega) (by omega)]; exact h3
    | 1, _, hx => cases hx; rw [toU8_val _ (by omega) (by omega)]; exact h4
    | 2, _, hx => cases hx; rw [toU8_val _ (by omega) (by omega)]; exact h5
    | 3, _, hx => cases hx; rw [toU8_val _ (by omega) (by omega)]; exact h6
end Go.Proofs.YtjgjbdphjccpcaaDoor.Pure
