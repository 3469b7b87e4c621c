/-
  Chapter 10, plain: decoding: both sides.
-/
import Derived.Test.YtjgjbdphjccpcaaDoorPg
namespace Go.Proofs.YtjgjbdphjccpcaaDoor.Pure
open Go Abs
set_option linter.unusedVariables false

theorem k1 (s : List UInt8) (hl : 1 ≤ s.length) : (vld (byt s 0) = true ∧ enc (byt s 0) = s.take 1) ↔ byt s 0 < 128 := by
  have h0 := byt_lo s 0
  have h1 := byt_hi s 0
  rw [enc1 s _ hl h0, vld_iff]
  omega
theorem k2 (s : List UInt8) (hl : 2 ≤ s.length) : (vld (v2 (byt s 0) (byt s 1)) = true ∧ enc (v2 (byt s 0) (byt s 1)) = s.take 2) ↔ 192 ≤ byt s 0 ∧ byt s 0 < 224 ∧ cont (byt s 1) = true ∧ 128 ≤ v2 (byt s 0) (byt s 1) := by
  have h0 := byt_lo s 0
  have h1 := byt_hi s 0
  have h2 := byt_lo s 1
  have h3 := byt_hi s 1
  have hv : 0 ≤ v2 (byt s 0) (byt s 1) := by unfold v2; omega
  rw [enc2 s _ hl hv, vld_iff, cont_iff]
  unfold v2
  omega
theorem k3 (s : List UInt8) (hl : 3 ≤ s.length) : (vld (v3 (byt s 0) (byt s 1) (byt s 2)) = true ∧ enc (v3 (byt s 0) (byt s 1) (byt s 2)) = s.take 3) ↔
    224 ≤ byt s 0 ∧ byt s 0 < 240 ∧ cont (byt s 1) = true ∧ cont (byt s 2) = true ∧ 2048 ≤ v3 (byt s 0) (byt s 1) (byt s 2) ∧ vld (v3 (byt s 0) (byt s 1) (byt s 2)) = true := by
  have h0 := byt_lo s 0
  have h1 := byt_hi s 0
  have h2 := byt_lo s 1
  have h3 := byt_hi s 1
  have h4 := byt_lo s 2
  have h5 := byt_hi s 2
  have hv : 0 ≤ v3 (byt s 0) (byt s 1) (byt s 2) := by unfold v3; omega
  rw [enc3 s _ hl hv, cont_iff, cont_iff]
  generalize hw : vld (v3 (byt s 0) (byt s 1) (byt s 2)) = w
  cases w
  · simp
  · simp only [true_and, and_true]
    unfold v3
    omega
theorem k4 (s : List UInt8) (hl : 4 ≤ s.length) : (vld (v4 (byt s 0) (byt s 1) (byt s 2) (byt s 3)) = true ∧ enc (v4 (byt s 0) (byt s 1) (byt s 2) (byt s 3)) = s.take 4) ↔
    240 ≤ byt s 0 ∧ byt s 0 < 248 ∧ cont (byt s 1) = true ∧ cont (byt s 2) = true ∧ cont (byt s 3) = true ∧ 65536 ≤ v4 (byt s 0) (byt s 1) (byt s 2) (byt s 3) ∧ vld (v4 (byt s 0) (byt s 1) (byt s 2) (byt s 3)) = true := by
  have h0 := byt_lo s 0
  have h1 := byt_hi s 0
  have h2 := byt_lo s 1
  have h3 := byt_hi s 1
  have h4 := byt_lo s 2
  have h5 := byt_hi s 2
  have h6 := byt_lo s 3
  have h7 := byt_hi s 3
  have hv : 0 ≤ v4 (byt s 0) (byt s 1) (byt s 2) (byt s 3) := by unfold v4; omega
  generalize hw : vld (v4 (byt s 0) (byt s 1) (byt s 2) (byt s 3)) = w
  cases w
  · simp
  · have := ((vld_iff _).1 hw).2.1
    rw [enc4 s _ hl hv this, cont_iff, cont_iff, cont_iff]
    simp only [true_and, and_true]
    unfold v4 at this ⊢
    omega
theorem refDecode_ev (s : List UInt8) (hs : s.length ≤ 100000) : Ev (fun k => cavilref01_Decode.m k s 0) (decF s) := by
  refine Ev.succ (f := fun k => cavilref01_Decode.b0 k (cavilref01_Decode.go k) s 0) ?_ (fun k => rfl)
  simp only [cavilref01_Decode.b0]
  refine Ev.ff (by decide) (Ev.bif (fun h => ?_) (fun h => ?_))
  · have : s.length = 0 := by have := of_decide_eq_true h; omega
    unfold decF
    simp only [this, if_true]
    exact Ev.ret
  · have h1 : 1 ≤ s.length := by have := of_decide_eq_false h; omega
    have hL0 : ¬ s.length = 0 := by omega
    refine d_n s 1 (by decide) (by decide) hs h1 _ (fun h => ?_) (fun g1 => ?_)
    · have := (k1 s h1).1 h
      unfold decF
      simp only [hL0, if_false, this, if_true]
      rfl
    · have n1 : ¬ byt s 0 < 128 := fun h => g1 ((k1 s h1).2 h)
      by_cases h2 : 2 ≤ s.length
      · refine d_n s 2 (by decide) (by decide) hs h2 _ (fun h => ?_) (fun g2 => ?_)
        · have := (k2 s h2).1 h
          unfold decF
          simp only [hL0, if_false, n1]
          rw [if_pos ⟨h2, this⟩]
          rfl
        · have n2 := fun h => g2 ((k2 s h2).2 h)
          by_cases h3 : 3 ≤ s.length
          · refine d_n s 3 (by decide) (by decide) hs h3 _ (fun h => ?_) (fun g3 => ?_)
            · have := (k3 s h3).1 h
              unfold decF
              simp only [hL0, if_false, n1]
              rw [if_neg (fun h => n2 h.2), if_pos ⟨h3, this⟩]
              rfl
            · have n3 := fun h => g3 ((k3 s h3).2 h)
              by_cases h4 : 4 ≤ s.length
              · refine d_n s 4 (by decide) (by decide) hs h4 _ (fun h => ?_) (fun g4 => ?_)
                · have := (k4 s h4).1 h
                  unfold decF
                  simp only [hL0, if_false, n1]
                  rw [if_neg (fun h => n2 h.2), if_neg (fun h => n3 h.2), if_pos ⟨h4, this⟩]
                  rfl
                · have n4 := fun h => g4 ((k4 s h4).2 h)
                  refine (d_out s _ hs (by decide) (.inl (by decide))).to ?_
                  unfold decF
                  simp only [hL0, if_false, n1]
                  rw [if_neg (fun h => n2 h.2), if_neg (fun h => n3 h.2), if_neg (fun h => n4 h.2)]
              · refine (d_out s _ hs (by decide) (.inr (by show (s.length : Int) < 4; omega))).to ?_
                unfold decF
                simp only [hL0, if_false, n1]
                rw [if_neg (fun h => n2 h.2), if_neg (fun h => n3 h.2), if_neg (fun h => h4 h.1)]
          · refine (d_out s _ hs (by decide) (.inr (by show (s.length : Int) < 3; omega))).to ?_
            unfold decF
            simp only [hL0, if_false, n1]
            rw [if_neg (fun h => n2 h.2), if_neg (fun h => h3 h.1), if_neg (fun h => h3 (by omega))]
      · refine (d_out s _ hs (by decide) (.inr (by show (s.length : Int) < 2; omega))).to ?_
        unfold decF
        simp only [hL0, if_false, n1]
        rw [if_neg (fun h => h2 h.1), if_neg (fun h => h2 (by omega)), if_neg (fun h => h2 (by omega))]
end Go.Proofs.YtjgjbdphjccpcaaDoor.Pure
