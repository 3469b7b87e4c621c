/-
  Chapter 10, plain: the implementation's digits; runes and their bytes.
-/
import Derived.Test.YtjgjbdphjccpcaaDoorPa
namespace Go.Proofs.YtjgjbdphjccpcaaDoor.Pure
open Go Abs
set_option linter.unusedVariables false

def digR : Option Int → Int × Bool
  | some w => (w, true)
  | none => (0, false)
theorem digits_go (c : List UInt8) (b : Int) (hb : 8 ≤ b ∧ b ≤ 16) (hl : c.length ≤ 9) : ∀ (n : Nat) (i v : Int), i + n = (c.length : Int) → 0 ≤ i → 0 ≤ v → v ≤ 2147483647 → Ev (fun k => quote_digits.go k (.l1 c b v (c.length : Int) i)) (digR (numL c b n i v))
  | n, i, v, hi, hi0, hv, hv' => by
    refine Ev.succ (f := fun k => quote_digits.b1 k (quote_digits.go k) c b v (c.length : Int) i) ?_ (fun k => rfl)
    simp only [quote_digits.b1]
    cases n with
    | zero => exact Ev.ff (by simp; omega) (Ev.ret' rfl)
    | succ n =>
      have hc0 := byt_lo c i
      have hc1 := byt_hi c i
      have h0 := hexv_lo (byt c i)
      have h9 := hexv_hi (byt c i)
      have ho := or32 (byt c i) hc0 hc1
      -- behind the digit's value
      have l5 : ∀ q, q = (decide (hexv (byt c i) ≥ b) || decide (v > 134217727)) → Ev (fun k => quote_digits.go k (.l5 c b v (hexv (byt c i)) (c.length : Int) i q)) (digR (numL c b (n + 1) i v)) := by
        intro q hq
        refine Ev.succ (f := fun k => quote_digits.b5 k (quote_digits.go k) c b v (hexv (byt c i)) (c.length : Int) i q) ?_ (fun k => rfl)
        simp only [quote_digits.b5]
        unfold numL
        refine Ev.bif (fun h => ?_) (fun h => ?_)
        · rw [h] at hq
          have : hexv (byt c i) ≥ b ∨ v > 134217727 := by simpa using hq.symm
          rw [if_pos this]
          exact Ev.ret
        · rw [h] at hq
          have hn : ¬ (hexv (byt c i) ≥ b ∨ v > 134217727) := by simpa using hq.symm
          rw [if_neg hn]
          simp only [not_or] at hn
          have hm1 : v * b ≤ 134217727 * 16 := Int.mul_le_mul (by omega) hb.2 (by omega) (by omega)
          have hm0 : 0 ≤ v * b := Int.mul_nonneg hv (by omega)
          have e1 : wr .i32 (v * b) = v * b := w32 (by omega) (by omega)
          have e2 : wr .i32 (v * b + hexv (byt c i)) = v * b + hexv (byt c i) := w32 (by omega) (by omega)
          have e3 : wr .i64 (i + 1) = i + 1 := w64 (by omega) (by omega)
          rw [e1, e2, e3]
          exact digits_go c b hb hl n (i + 1) _ (by omega) (by omega) (by omega) (by omega)
      have l3 : Ev (fun k => quote_digits.go k (.l3 c b v (hexv (byt c i)) (c.length : Int) i)) (digR (numL c b (n + 1) i v)) := by
        refine Ev.succ (f := fun k => quote_digits.b3 k (quote_digits.go k) c b v (hexv (byt c i)) (c.length : Int) i) ?_ (fun k => rfl)
        simp only [quote_digits.b3]
        refine Ev.bif (fun h => l5 _ (by rw [h]; rfl)) (fun h => l5 _ (by rw [h]; rfl))
      have l4 : ¬ (48 ≤ byt c i ∧ byt c i ≤ 57) → ∀ q, q = (decide (97 ≤ bits .or .u8 (byt c i) 32) && decide (bits .or .u8 (byt c i) 32 ≤ 102)) → Ev (fun k => quote_digits.go k (.l4 c b v (byt c i) 99 (c.length : Int) i q)) (digR (numL c b (n + 1) i v)) := by
        intro hnd q hq
        refine Ev.succ (f := fun k => quote_digits.b4 k (quote_digits.go k) c b v (byt c i) 99 (c.length : Int) i q) ?_ (fun k => rfl)
        simp only [quote_digits.b4]
        have h3 := ho.2.2 hnd
        refine Ev.bif (fun h => ?_) (fun h => ?_)
        · rw [h] at hq
          have hh : 97 ≤ bits .or .u8 (byt c i) 32 ∧ bits .or .u8 (byt c i) 32 ≤ 102 := by simpa using hq.symm
          rw [if_pos hh] at h3
          have e1 : wr .u8 (bits .or .u8 (byt c i) 32 - 97) = bits .or .u8 (byt c i) 32 - 97 := w8 (by omega) (by omega)
          have e2 : wr .i32 (bits .or .u8 (byt c i) 32 - 97) = bits .or .u8 (byt c i) 32 - 97 := w32 (by omega) (by omega)
          have e3 : wr .i32 (bits .or .u8 (byt c i) 32 - 97 + 10) = hexv (byt c i) := by rw [h3]; exact (w32 (by omega) (by omega)).trans (by omega)
          rw [e1, e2, e3]
          exact l3
        · rw [h] at hq
          have hh : ¬ (97 ≤ bits .or .u8 (byt c i) 32 ∧ bits .or .u8 (byt c i) 32 ≤ 102) := by
            intro hh
            simp [hh.1, hh.2] at hq
          rw [if_neg hh] at h3
          rw [h3] at l3
          exact l3
      have l2 : ∀ q, q = (decide (48 ≤ byt c i) && decide (byt c i ≤ 57)) → Ev (fun k => quote_digits.go k (.l2 c b v (byt c i) 99 (c.length : Int) i q)) (digR (numL c b (n + 1) i v)) := by
        intro q hq
        refine Ev.succ (f := fun k => quote_digits.b2 k (quote_digits.go k) c b v (byt c i) 99 (c.length : Int) i q) ?_ (fun k => rfl)
        simp only [quote_digits.b2]
        refine Ev.bif (fun h => ?_) (fun h => ?_)
        · rw [h] at hq
          have hh : 48 ≤ byt c i ∧ byt c i ≤ 57 := by simpa using hq.symm
          have h3 : hexv (byt c i) = byt c i - 48 := by unfold hexv; rw [if_pos hh]
          have e1 : wr .u8 (byt c i - 48) = byt c i - 48 := w8 (by omega) (by omega)
          have e2 : wr .i32 (byt c i - 48) = hexv (byt c i) := by rw [h3]; exact w32 (by omega) (by omega)
          rw [e1, e2]
          exact l3
        · rw [h] at hq
          have hh : ¬ (48 ≤ byt c i ∧ byt c i ≤ 57) := by
            intro hh
            simp [hh.1, hh.2] at hq
          refine Ev.bif (fun h => l4 hh _ ?_) (fun h => l4 hh _ ?_)
          · have : 97 ≤ bits .or .u8 (byt c i) 32 := of_decide_eq_true h
            simp [this]
          · have : ¬ (bits .or .u8 (byt c i) 32 ≥ 97) := of_decide_eq_false h
            have : ¬ (97 ≤ bits .or .u8 (byt c i) 32) := this
            simp [this]
      refine Ev.tt (by simp; omega) (Ev.gk (inB_iff.2 (by omega)) ?_)
      show Ev (fun k => bif decide (byt c i ≥ 48) then _ else _) _
      refine Ev.bif (fun h => l2 _ ?_) (fun h => l2 _ ?_)
      · have : 48 ≤ byt c i := of_decide_eq_true h
        show decide (byt c i ≤ 57) = _
        simp [this]
      · have : ¬ (byt c i ≥ 48) := of_decide_eq_false h
        have : ¬ (48 ≤ byt c i) := this
        simp [this]
theorem numL_cut (s : List UInt8) (b : Int) (i0 : Nat) (m : Int) (hm : (i0 : Int) ≤ m) (hm' : m ≤ (s.length : Int)) : ∀ (n : Nat) (i v : Int), 0 ≤ i → i + n ≤ m - i0 → numL (cut s i0 m) b n i v = numL s b n (i0 + i) v
  | 0, i, v, _, _ => rfl
  | n + 1, i, v, h0, h1 => by
    unfold numL
    rw [cut_byt s i0 m i (by omega) hm hm' h0 (by omega), numL_cut s b i0 m hm hm' n (i + 1) _ (by omega) (by omega)]
    rw [show (i0 : Int) + (i + 1) = i0 + i + 1 by omega]
theorem digits_ev (s : List UInt8) (n : Nat) (b : Int) (hb : 8 ≤ b ∧ b ≤ 16) (hn : n ≤ 9) :
    Ev (fun k => quote_digits.m k s n b) (if s.length < n then (0, false) else digR (numL s b n 0 0)) := by
  refine Ev.succ (f := fun k => quote_digits.b0 k (quote_digits.go k) s n b) ?_ (fun k => rfl)
  simp only [quote_digits.b0]
  refine Ev.bif (fun h => ?_) (fun h => ?_)
  · have := of_decide_eq_true h
    rw [if_pos (by omega)]
    exact Ev.ret
  · have := of_decide_eq_false h
    rw [if_neg (by omega)]
    refine Ev.gk (cutB_iff.2 (by omega)) ?_
    have hl := cut_lenI s 0 n (by omega) (by omega) (by omega)
    have := digits_go (cut s 0 n) b hb (by omega) n 0 0 (by omega) (by omega) (by omega) (by omega)
    have e := numL_cut s b 0 n (by omega) (by omega) n 0 0 (by omega) (by omega)
    simp only [Int.natCast_zero, Int.zero_add] at e
    rwa [e] at this
end Go.Proofs.YtjgjbdphjccpcaaDoor.Pure
