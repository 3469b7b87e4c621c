/-
  Chapter 10, plain: digits, numbers, escapes.
-/
import Derived.Test.YtjgjbdphjccpcaaDoorG1
import Derived.Test.YtjgjbdphjccpcaaDoorEv
namespace Go.Proofs.YtjgjbdphjccpcaaDoor.Pure
open Go Abs
set_option linter.unusedVariables false

def hexv (c : Int) : Int := if 48 ≤ c ∧ c ≤ 57 then c - 48 else if 97 ≤ c ∧ c ≤ 102 then c - 87 else if 65 ≤ c ∧ c ≤ 70 then c - 55 else 99
theorem hexv_lo (c : Int) : 0 ≤ hexv c := by unfold hexv; split <;> (try split) <;> (try split) <;> omega
theorem hexv_hi (c : Int) : hexv c ≤ 99 := by unfold hexv; split <;> (try split) <;> (try split) <;> omega
theorem byte_cases (P : Int → Bool) (h : (List.range 256).all (fun n => P (n : Int)) = true) (c : Int) (h0 : 0 ≤ c) (h1 : c < 256) : P c = true := by
  have := List.all_eq_true.1 h c.toNat (by simp; omega)
  rwa [show ((c.toNat : Nat) : Int) = c by omega] at this
theorem digit_tab (k : Nat) : (List.range 256).all (fun n => cavilref07_Digit.m (k + 20) (n : Int) == some (hexv (n : Int))) = true := by kernel_rfl
theorem digit_ev (c : Int) (h0 : 0 ≤ c) (h1 : c < 256) : Ev (fun k => cavilref07_Digit.m k c) (hexv c) := by
  refine ⟨20, fun k hk => ?_⟩
  obtain ⟨j, rfl⟩ : ∃ j, k = j + 20 := ⟨k - 20, by omega⟩
  have := byte_cases (fun c => cavilref07_Digit.m (j + 20) c == some (hexv c)) (digit_tab j) c h0 h1
  simpa using this
theorem or32_tab : (List.range 256).all (fun n => (let c : Int := n; let o := bits .or .u8 c 32; decide (0 ≤ o ∧ o ≤ 255) && (decide (48 ≤ c ∧ c ≤ 57) || (if 97 ≤ o ∧ o ≤ 102 then decide (hexv c = o - 87) else decide (hexv c = 99))))) = true := by kernel_rfl
theorem or32 (c : Int) (h0 : 0 ≤ c) (h1 : c < 256) : 0 ≤ bits .or .u8 c 32 ∧ bits .or .u8 c 32 ≤ 255 ∧ (¬ (48 ≤ c ∧ c ≤ 57) → if 97 ≤ bits .or .u8 c 32 ∧ bits .or .u8 c 32 ≤ 102 then hexv c = bits .or .u8 c 32 - 87 else hexv c = 99) := by
  have := byte_cases (fun c => (let o := bits .or .u8 c 32; decide (0 ≤ o ∧ o ≤ 255) && (decide (48 ≤ c ∧ c ≤ 57) || (if 97 ≤ o ∧ o ≤ 102 then decide (hexv c = o - 87) else decide (hexv c = 99))))) or32_tab c h0 h1
  simp only [Bool.and_eq_true, decide_eq_true_eq, Bool.or_eq_true] at this
  refine ⟨this.1.1, this.1.2, fun hn => ?_⟩
  rcases this.2 with h | h
  · exact absurd h hn
  · split
    · rename_i hh; rw [if_pos hh] at h; simpa using h
    · rename_i hh; rw [if_neg hh] at h; simpa using h

/-- n digits from i on, read in base b. -/
def num (s : List UInt8) (b : Int) : Nat → Int → Int → Option Int
  | 0, _, v => some v
  | n + 1, i, v => if hexv (byt s i) ≥ b then none else num s b n (i + 1) (v * b + hexv (byt s i))
/-- The same, but too great a number is given up. -/
def numL (s : List UInt8) (b : Int) : Nat → Int → Int → Option Int
  | 0, _, v => some v
  | n + 1, i, v => if hexv (byt s i) ≥ b ∨ v > 134217727 then none else numL s b n (i + 1) (v * b + hexv (byt s i))
theorem num_ge (s : List UInt8) (b : Int) (hb : 1 ≤ b) : ∀ (n : Nat) (i v w : Int), 0 ≤ v → num s b n i v = some w → v ≤ w
  | 0, i, v, w, hv, h => by cases h; exact Int.le_refl _
  | n + 1, i, v, w, hv, h => by
    unfold num at h
    split at h
    · cases h
    · have h0 := hexv_lo (byt s i)
      have h1 : v ≤ v * b := by
        have := Int.mul_le_mul_of_nonneg_left hb hv
        simpa using this
      have := num_ge s b hb n (i + 1) (v * b + hexv (byt s i)) w (by omega) h
      omega
theorem numL_num (s : List UInt8) (b : Int) (hb : 8 ≤ b) : ∀ (n : Nat) (i v : Int), 0 ≤ v → (∀ w, numL s b n i v = some w → num s b n i v = some w) ∧ (numL s b n i v = none → ∀ w, num s b n i v = some w → 1073741824 ≤ w)
  | 0, i, v, hv => ⟨fun w h => h, fun h => by cases h⟩
  | n + 1, i, v, hv => by
    have h0 := hexv_lo (byt s i)
    have hm : 0 ≤ v * b := Int.mul_nonneg hv (by omega)
    have ih := numL_num s b hb n (i + 1) (v * b + hexv (byt s i)) (by omega)
    unfold numL num
    by_cases h1 : hexv (byt s i) ≥ b
    · rw [if_pos (.inl h1), if_pos h1]
      exact ⟨fun w h => (by cases h), fun _ w h => (by cases h)⟩
    · rw [if_neg h1]
      by_cases h2 : v > 134217727
      · rw [if_pos (.inr h2)]
        refine ⟨fun w h => (by cases h), fun _ w h => ?_⟩
        have := num_ge s b (by omega) n (i + 1) _ w (by omega) h
        have h3 : 134217728 * 8 ≤ v * b := Int.mul_le_mul (by omega) hb (by omega) (by omega)
        omega
      · rw [if_neg (by simp only [not_or]; exact ⟨h1, h2⟩)]
        exact ih
theorem number_go (s : List UInt8) (i0 n0 b : Int) (hb : 8 ≤ b ∧ b ≤ 16) (hs : s.length ≤ 100000) (he : 0 ≤ i0 ∧ 0 ≤ n0 ∧ i0 + n0 ≤ (s.length : Int)) : ∀ (n : Nat) (i v : Int), i + n = i0 + n0 → i0 ≤ i → n ≤ 9 → 0 ≤ v → v < 16 ^ (12 - n) → Ev (fun k => cavilref10_number.go k (.l1 s i0 n0 b v i)) ((num s b n i v).getD (-1))
  | n, i, v, hi, hi0, hn, hv, hv' => by
    refine Ev.succ (f := fun k => cavilref10_number.b1 k (cavilref10_number.go k) s i0 n0 b v i) ?_ (fun k => rfl)
    simp only [cavilref10_number.b1]
    have hw : wr .i64 (i0 + n0) = i0 + n0 := w64 (by omega) (by omega)
    rw [hw]
    cases n with
    | zero => exact Ev.ff (by simp; omega) (Ev.ret' rfl)
    | succ n =>
      have hc0 := byt_lo s i
      have hc1 := byt_hi s i
      have h0 := hexv_lo (byt s i)
      have h9 := hexv_hi (byt s i)
      refine Ev.tt (by simp; omega) (Ev.gk (inB_iff.2 (by omega)) (Ev.bind (digit_ev _ hc0 hc1) ?_))
      unfold num
      refine Ev.bif (fun h => ?_) (fun h => ?_)
      · rw [if_pos (of_decide_eq_true h)]
        exact Ev.ret
      · have h' := of_decide_eq_false h
        rw [if_neg h']
        have hp : (16 : Int) ^ (12 - n) = 16 * 16 ^ (12 - (n + 1)) := by
          have : 12 - n = (12 - (n + 1)) + 1 := by omega
          rw [this, Int.pow_succ]; omega
        have hm1 : v * b ≤ v * 16 := Int.mul_le_mul_of_nonneg_left hb.2 hv
        have hm0 : 0 ≤ v * b := Int.mul_nonneg hv (by omega)
        have hp2 : (16 : Int) ^ (12 - n) ≤ 16 ^ 12 := by
          have : (16 : Nat) ^ (12 - n) ≤ 16 ^ 12 := Nat.pow_le_pow_right (by decide) (by omega)
          exact_mod_cast this
        have hp3 : (16 : Int) ^ 12 = 281474976710656 := by decide
        have e1 : wr .i64 (v * b) = v * b := w64 (by omega) (by omega)
        have e2 : wr .i64 (v * b + hexv (byt s i)) = v * b + hexv (byt s i) := w64 (by omega) (by omega)
        have e3 : wr .i64 (i + 1) = i + 1 := w64 (by omega) (by omega)
        rw [e1, e2, e3]
        exact number_go s i0 n0 b hb hs he n (i + 1) _ (by omega) (by omega) (by omega) (by omega) (by omega)
theorem number_ev (s : List UInt8) (i n : Nat) (b : Int) (hb : 8 ≤ b ∧ b ≤ 16) (hs : s.length ≤ 100000) (hi : i ≤ 10) (hn : n ≤ 9) :
    Ev (fun k => cavilref10_number.m k s i n b) (if s.length < i + n then -1 else (num s b n i 0).getD (-1)) := by
  refine Ev.succ (f := fun k => cavilref10_number.b0 k (cavilref10_number.go k) s i n b) ?_ (fun k => rfl)
  simp only [cavilref10_number.b0]
  have hw : wr .i64 ((i : Int) + n) = i + n := w64 (by omega) (by omega)
  rw [hw]
  refine Ev.bif (fun h => ?_) (fun h => ?_)
  · have := of_decide_eq_true h
    rw [if_pos (by omega)]
    exact Ev.ret
  · have := of_decide_eq_false h
    rw [if_neg (by omega)]
    exact number_go s i n b hb hs (by omega) n i 0 (by omega) (by omega) hn (by omega) (Int.pow_pos (by decide))
end Go.Proofs.YtjgjbdphjccpcaaDoor.Pure
