/-
  Chapter 10, plain: both sides' ends, scans and writing; the laws QuoteScans, QuoteWrites, QuoteAlone.
-/
import Derived.Test.YtjgjbdphjccpcaaDoorPp
namespace Go.Proofs.YtjgjbdphjccpcaaDoor.Pure
open Go Abs
set_option linter.unusedVariables false
set_option linter.unusedSimpArgs false

theorem v64 {n : Int} (h0 : -9223372036854775808 ≤ n) (h1 : n ≤ 9223372036854775807) : wr .i64 n = n := w64 h0 h1
theorem getD_byt (l : List UInt8) (i : Int) : ((l.getD i.toNat 0).toNat : Int) = byt l i := rfl
theorem refEnd_go (b : List UInt8) (q : Int) (hs : b.length ≤ 100000) (hq10 : q ≠ 10) : ∀ (m : Nat) (i : Int), 0 ≤ i → (b.length : Int) - i ≤ m →
    Ev (fun k => cavilref10_End.go k (.l1 b q i)) (endL b q m i)
  | 0, i, h0, hm => by
    refine Ev.succ (f := fun k => cavilref10_End.b1 k (cavilref10_End.go k) b q i) ?_ (fun k => rfl)
    simp only [cavilref10_End.b1]
    exact Ev.ff (by simp; omega) Ev.ret
  | m + 1, i, h0, hm => by
    refine Ev.succ (f := fun k => cavilref10_End.b1 k (cavilref10_End.go k) b q i) ?_ (fun k => rfl)
    simp only [cavilref10_End.b1, getD_byt]
    by_cases hi : (b.length : Int) ≤ i
    · rw [endL, if_pos hi]
      exact Ev.ff (by simp; omega) Ev.ret
    · have e1 : wr .i64 (i + 1) = i + 1 := w64 (by omega) (by omega)
      have e2 : wr .i64 (i + 1 + 1) = i + 2 := by rw [v64 (by omega) (by omega)]; omega
      have n1 := refEnd_go b q hs hq10 m (i + 1) (by omega) (by omega)
      have n2 := refEnd_go b q hs hq10 m (i + 2) (by omega) (by omega)
      refine Ev.tt (by simp; omega) ?_
      rw [endL, if_neg hi]
      have l2 : ∀ c, c = decide (q ≠ 96 ∧ byt b i = 10) → Ev (fun k => cavilref10_End.go k (.l2 b q i c)) (if byt b i = q then (i + 1, true) else if q ≠ 96 ∧ byt b i = 10 then (i, false) else if q ≠ 96 ∧ byt b i = 92 ∧ i + 1 < (b.length : Int) ∧ byt b (i + 1) ≠ 10 then endL b q m (i + 2) else endL b q m (i + 1)) := by
        intro c hc
        refine Ev.succ (f := fun k => cavilref10_End.b2 k (cavilref10_End.go k) b q i c) ?_ (fun k => rfl)
        simp only [cavilref10_End.b2, getD_byt]
        rw [e1, e2]
        refine Ev.bif (fun h => ?_) (fun h => Ev.gk (inB_iff.2 (by omega)) ?_)
        · rw [h] at hc
          have := of_decide_eq_true hc.symm
          rw [if_neg (by omega), if_pos this]
          exact Ev.ret
        · rw [h] at hc
          have hnl := of_decide_eq_false hc.symm
          refine Ev.bif (fun h => ?_) (fun h => ?_)
          · rw [if_pos (by simpa using h)]
            exact Ev.ret
          · rw [if_neg (by simpa using h), if_neg hnl]
            refine Ev.bif (fun h => Ev.gk (inB_iff.2 (by omega)) (Ev.bif (fun h' => Ev.bif (fun h'' => Ev.gk (inB_iff.2 ?_) (Ev.bif (fun h3 => ?_) (fun h3 => ?_))) (fun h'' => ?_)) (fun h' => ?_))) (fun h => ?_)
            · have := of_decide_eq_true h''; omega
            · have := of_decide_eq_true h''
              rw [if_pos ⟨by simpa using h, by simpa using h', this, by simpa using h3⟩]
              exact n2
            · rw [if_neg (fun x => x.2.2.2 (by simpa using h3))]; exact n1
            · rw [if_neg (fun x => of_decide_eq_false h'' x.2.2.1)]; exact n1
            · rw [if_neg (fun x => by rw [x.2.1] at h'; exact absurd h' (by decide))]; exact n1
            · rw [if_neg (fun x => x.1 (by simpa using h))]; exact n1
      refine Ev.bif (fun h => Ev.gk (inB_iff.2 (by omega)) (l2 _ ?_)) (fun h => l2 _ ?_)
      · have : q ≠ 96 := by simpa using h
        simp [this]
        exact beq_dec _ _
      · have : q = 96 := by simpa using h
        simp [this]
theorem refEnd_ev (b : List UInt8) (at_ : Int) (hs : b.length ≤ 100000) (h0 : 0 ≤ at_) (h1 : at_ < (b.length : Int)) (hq : isQ (byt b at_)) : Ev (fun k => cavilref10_End.m k b at_) (endF b at_) := by
  refine Ev.succ (f := fun k => cavilref10_End.b0 k (cavilref10_End.go k) b at_) ?_ (fun k => rfl)
  simp only [cavilref10_End.b0, getD_byt]
  have e1 : wr .i64 (at_ + 1) = at_ + 1 := w64 (by omega) (by omega)
  rw [e1]
  refine Ev.gk (inB_iff.2 (by omega)) (refEnd_go b _ hs (by rcases hq with h | h | h <;> omega) b.length (at_ + 1) (by omega) (by omega))
theorem closed_go (b : List UInt8) (at_ : Int) (hs : b.length ≤ 100000) (ha : 0 ≤ at_) (h1 : at_ < (b.length : Int)) (hq : byt b at_ ≠ 10 ∧ byt b at_ ≠ 92 ∧ byt b at_ ≠ 96) : ∀ (m : Nat) (i : Int), 0 ≤ i → (b.length : Int) - i ≤ m →
    Ev (fun k => quote_closed.go k (.l1 b at_ i)) (endL b (byt b at_) m i)
  | 0, i, h0, hm => by
    refine Ev.succ (f := fun k => quote_closed.b1 k (quote_closed.go k) b at_ i) ?_ (fun k => rfl)
    simp only [quote_closed.b1]
    exact Ev.ff (by simp; omega) Ev.ret
  | m + 1, i, h0, hm => by
    refine Ev.succ (f := fun k => quote_closed.b1 k (quote_closed.go k) b at_ i) ?_ (fun k => rfl)
    simp only [quote_closed.b1, getD_byt]
    by_cases hi : (b.length : Int) ≤ i
    · rw [endL, if_pos hi]
      exact Ev.ff (by simp; omega) Ev.ret
    · have e1 : wr .i64 (i + 1) = i + 1 := w64 (by omega) (by omega)
      have e2 : wr .i64 (i + 1 + 1) = i + 2 := by rw [v64 (by omega) (by omega)]; omega
      have n1 := closed_go b at_ hs ha h1 hq m (i + 1) (by omega) (by omega)
      have n2 := closed_go b at_ hs ha h1 hq m (i + 2) (by omega) (by omega)
      rw [e1, e2]
      refine Ev.tt (by simp; omega) (Ev.gk (inB_iff.2 (by omega)) (Ev.gk (inB_iff.2 (by omega)) ?_))
      rw [endL, if_neg hi]
      refine Ev.bif (fun h => ?_) (fun h => Ev.bif (fun h' => ?_) (fun h' => Ev.bif (fun h'' => Ev.bif (fun h3 => Ev.gk (inB_iff.2 ?_) (Ev.bif (fun h4 => ?_) (fun h4 => ?_))) (fun h3 => ?_)) (fun h'' => ?_)))
      · rw [if_pos (by simpa using h)]
        exact Ev.ret
      · rw [if_neg (by simpa using h), if_pos ⟨hq.2.2, by simpa using h'⟩]
        exact Ev.ret
      · have := of_decide_eq_true h3; omega
      · rw [if_neg (by simpa using h), if_neg (fun x => by rw [x.2] at h'; exact absurd h' (by decide)), if_pos ⟨hq.2.2, by simpa using h'', of_decide_eq_true h3, by simpa using h4⟩]
        exact n2
      · rw [if_neg (by simpa using h), if_neg (fun x => by rw [x.2] at h'; exact absurd h' (by decide)), if_neg (fun x => x.2.2.2 (by simpa using h4))]
        exact n1
      · rw [if_neg (by simpa using h), if_neg (fun x => by rw [x.2] at h'; exact absurd h' (by decide)), if_neg (fun x => of_decide_eq_false h3 x.2.2.1)]
        exact n1
      · rw [if_neg (by simpa using h), if_neg (fun x => by rw [x.2] at h'; exact absurd h' (by decide)), if_neg (fun x => by rw [x.2.1] at h''; exact absurd h'' (by decide))]
        exact n1
theorem indexByte_cons (b c : UInt8) (l : List UInt8) : Lib.indexByte (b :: l) c = if b = c then 0 else if Lib.indexByte l c = -1 then -1 else Lib.indexByte l c + 1 := by
  rw [Lib.indexByte]
  simp
theorem endL_raw (b : List UInt8) : ∀ (m : Nat) (i : Int), 0 ≤ i → i ≤ (b.length : Int) → (b.length : Int) - i ≤ m →
    endL b 96 m i = if Lib.indexByte (cut b i b.length) 96 < 0 then ((b.length : Int), false) else (i + Lib.indexByte (cut b i b.length) 96 + 1, true)
  | 0, i, h0, h1, hm => by
    rw [cut_nil b i b.length (by omega)]
    rfl
  | m + 1, i, h0, h1, hm => by
    by_cases hi : (b.length : Int) ≤ i
    · rw [endL, if_pos hi, cut_nil b i b.length (by omega)]
      rfl
    · have ih := endL_raw b m (i + 1) (by omega) (by omega) (by omega)
      have hb0 := byt_lo b i
      have hb1 := byt_hi b i
      rw [cut_cons b i b.length h0 (by omega) (by omega)]
      have hg := Lib.indexByte_ge (cut b (i + 1) b.length) 96
      rw [endL, if_neg hi, if_neg (c := (96 : Int) ≠ 96 ∧ _) (fun x => x.1 rfl), if_neg (c := (96 : Int) ≠ 96 ∧ _) (fun x => x.1 rfl), ih]
      rw [indexByte_cons]
      by_cases hq : byt b i = 96
      · rw [if_pos hq, hq, if_pos (show toU8 96 = 96 by decide)]
        simp
      · have : ¬ toU8 (byt b i) = 96 := fun e => hq ((toU8_eq hb0 hb1 96).1 e)
        rw [if_neg hq, if_neg this]
        by_cases hn : Lib.indexByte (cut b (i + 1) b.length) 96 < 0
        · have : Lib.indexByte (cut b (i + 1) b.length) 96 = -1 := by omega
          rw [this]
          simp
        · rw [if_neg hn, if_neg (show ¬ Lib.indexByte (cut b (i + 1) b.length) 96 = -1 by omega), if_neg (by omega)]
          congr 1; omega
theorem closed_ev (b : List UInt8) (at_ : Int) (hs : b.length ≤ 100000) (h0 : 0 ≤ at_) (h1 : at_ < (b.length : Int)) (hq : isQ (byt b at_)) : Ev (fun k => quote_closed.m k b at_) (endF b at_) := by
  refine Ev.succ (f := fun k => quote_closed.b0 k (quote_closed.go k) b at_) ?_ (fun k => rfl)
  simp only [quote_closed.b0, getD_byt]
  have e1 : wr .i64 (at_ + 1) = at_ + 1 := w64 (by omega) (by omega)
  rw [e1]
  unfold endF
  refine Ev.gk (inB_iff.2 (by omega)) (Ev.bif (fun h => Ev.gk (cutB_iff.2 (by omega)) ?_) (fun h => ?_))
  · have hq : byt b at_ = 96 := by simpa using h
    rw [hq, endL_raw b b.length (at_ + 1) (by omega) (by omega) (by omega)]
    refine Ev.bif (fun h => ?_) (fun h => ?_)
    · rw [if_pos (of_decide_eq_true h)]
      exact Ev.ret
    · have h := of_decide_eq_false h
      rw [if_neg h]
      have hl := cut_lenI b (at_ + 1) b.length (by omega) (by omega) (by omega)
      have hi := indexByte_lt (cut b (at_ + 1) b.length) 96
      refine Ev.ret' ?_
      rw [v64 (n := at_ + _) (by omega) (by omega), v64 (by omega) (by omega)]
      congr 1; omega
  · have hq' : byt b at_ ≠ 96 := by simpa using h
    exact closed_go b at_ hs h0 h1 (by rcases hq with h | h | h <;> omega) b.length (at_ + 1) (by omega) (by omega)
theorem refScan_ev (b : List UInt8) (at_ : Int) (hs : b.length ≤ 100000) : Ev (fun k => cavilref10_Scan.m k b at_) (scanF b at_) := by
  refine Ev.succ (f := fun k => cavilref10_Scan.b0 k (cavilref10_Scan.go k) b at_) ?_ (fun k => rfl)
  simp only [cavilref10_Scan.b0, getD_byt]
  have bad : ∀ c, c = true → (at_ < 0 ∨ (b.length : Int) ≤ at_ ∨ ¬ isQ (byt b at_)) → Ev (fun k => cavilref10_Scan.go k (.l1 b at_ c)) (scanF b at_) := by
    rintro c rfl h
    refine Ev.succ (f := fun k => cavilref10_Scan.b1 k (cavilref10_Scan.go k) b at_ true) ?_ (fun k => rfl)
    simp only [cavilref10_Scan.b1]
    unfold scanF
    rw [if_pos h]
    exact Ev.ret
  have good : ∀ c, c = false → 0 ≤ at_ → at_ < (b.length : Int) → isQ (byt b at_) → Ev (fun k => cavilref10_Scan.go k (.l1 b at_ c)) (scanF b at_) := by
    rintro c rfl h0 h1 hq
    have hbd := endF_bd b at_ h0 h1
    refine Ev.succ (f := fun k => cavilref10_Scan.b1 k (cavilref10_Scan.go k) b at_ false) ?_ (fun k => rfl)
    simp only [cavilref10_Scan.b1, getD_byt]
    unfold scanF
    rw [if_neg (by simp only [not_or, Decidable.not_not]; exact ⟨by omega, by omega, hq⟩)]
    have hcl := cut_lenI b at_ (endF b at_).1 (by omega) (by omega) (by omega)
    have l2 : ∀ n : Int, n = (if byt b at_ = 39 then 4 else 5) → Ev (fun k => cavilref10_Scan.go k (.l2 b at_ n)) (n, (endF b at_).1 - at_, if (endF b at_).2 = false then 12 else if n = 4 then (charF (cut b at_ (endF b at_).1)).2 else (textF (cut b at_ (endF b at_).1)).2) := by
      intro n hn
      refine Ev.succ (f := fun k => cavilref10_Scan.b2 k (cavilref10_Scan.go k) b at_ n) ?_ (fun k => rfl)
      simp only [cavilref10_Scan.b2, getD_byt]
      refine Ev.bind (refEnd_ev b at_ hs h0 h1 hq) ?_
      have e1 : wr .i64 ((endF b at_).1 - at_) = (endF b at_).1 - at_ := v64 (by omega) (by omega)
      rw [e1]
      refine Ev.bif (fun h => ?_) (fun h => Ev.bif (fun h' => Ev.gk (cutB_iff.2 (by omega)) ?_) (fun h' => Ev.gk (cutB_iff.2 (by omega)) ?_))
      · rw [if_pos (by simpa using h)]; exact Ev.ret
      · rw [if_neg (by simpa using h), if_pos (by simpa using h')]
        exact Ev.bind (refChar_ev _ (by omega)) Ev.ret
      · rw [if_neg (by simpa using h), if_neg (by simpa using h')]
        exact Ev.bind (refText_ev _ (by omega)) Ev.ret
    refine Ev.ff rfl (Ev.gk (inB_iff.2 (by omega)) (Ev.bif (fun h => ?_) (fun h => ?_)))
    · have h39 : byt b at_ = 39 := by simpa using h
      exact (l2 4 (by simp [h39])).to (by simp [h39])
    · have h39 : ¬ byt b at_ = 39 := by simpa using h
      exact (l2 5 (by simp [h39])).to (by simp [h39])
  refine Ev.bif (fun h => ?_) (fun h => Ev.bif (fun h' => ?_) (fun h' => Ev.gk (inB_iff.2 ?_) (Ev.bif (fun h3 => Ev.gk (inB_iff.2 ?_) (Ev.bif (fun h4 => Ev.gk (inB_iff.2 ?_) ?_) (fun h4 => ?_))) (fun h3 => ?_))))
  · exact bad _ rfl (.inl (of_decide_eq_true h))
  · exact bad _ rfl (.inr (.inl (of_decide_eq_true h')))
  · have := of_decide_eq_false h; have := of_decide_eq_false h'; omega
  · have := of_decide_eq_false h; have := of_decide_eq_false h'; omega
  · have := of_decide_eq_false h; have := of_decide_eq_false h'; omega
  · have := of_decide_eq_false h; have := of_decide_eq_false h'
    have h3 : ¬ byt b at_ = 39 := by simpa using h3
    have h4 : ¬ byt b at_ = 34 := by simpa using h4
    by_cases h5 : byt b at_ = 96
    · exact good _ (by simp [h5]) (by omega) (by omega) (.inr (.inr h5))
    · exact bad _ (by simpa using h5) (.inr (.inr (by unfold isQ; omega)))
  · have := of_decide_eq_false h; have := of_decide_eq_false h'
    exact good _ rfl (by omega) (by omega) (.inr (.inl (by simpa using h4)))
  · have := of_decide_eq_false h; have := of_decide_eq_false h'
    exact good _ rfl (by omega) (by omega) (.inl (by simpa using h3))
theorem scan_ev (b : List UInt8) (at_ : Int) (hs : b.length ≤ 100000) : Ev (fun k => quote_Scan.m k b at_) ((scanF b at_).1, (scanF b at_).2.1, erOf (scanF b at_).2.2) := by
  refine Ev.succ (f := fun k => quote_Scan.b0 k (quote_Scan.go k) b at_) ?_ (fun k => rfl)
  simp only [quote_Scan.b0, getD_byt]
  have bad : ∀ c, c = true → (at_ < 0 ∨ (b.length : Int) ≤ at_) → Ev (fun k => quote_Scan.go k (.l1 b at_ c)) ((scanF b at_).1, (scanF b at_).2.1, erOf (scanF b at_).2.2) := by
    rintro c rfl h
    refine Ev.succ (f := fun k => quote_Scan.b1 k (quote_Scan.go k) b at_ true) ?_ (fun k => rfl)
    simp only [quote_Scan.b1]
    unfold scanF
    rw [if_pos (by rcases h with h | h; exact .inl h; exact .inr (.inl h))]
    exact Ev.ret
  have good : ∀ c, c = false → 0 ≤ at_ → at_ < (b.length : Int) → Ev (fun k => quote_Scan.go k (.l1 b at_ c)) ((scanF b at_).1, (scanF b at_).2.1, erOf (scanF b at_).2.2) := by
    rintro c rfl h0 h1
    have hbd := endF_bd b at_ h0 h1
    refine Ev.succ (f := fun k => quote_Scan.b1 k (quote_Scan.go k) b at_ false) ?_ (fun k => rfl)
    simp only [quote_Scan.b1, getD_byt]
    by_cases hq : isQ (byt b at_)
    · unfold scanF
      rw [if_neg (by simp only [not_or, Decidable.not_not]; exact ⟨by omega, by omega, hq⟩)]
      have hcl := cut_lenI b at_ (endF b at_).1 (by omega) (by omega) (by omega)
      have l2 : ∀ n : Int, n = (if byt b at_ = 39 then 4 else 5) → Ev (fun k => quote_Scan.go k (.l2 b at_ n)) (n, (endF b at_).1 - at_, erOf (if (endF b at_).2 = false then 12 else if n = 4 then (charF (cut b at_ (endF b at_).1)).2 else (textF (cut b at_ (endF b at_).1)).2)) := by
        intro n hn
        refine Ev.succ (f := fun k => quote_Scan.b2 k (quote_Scan.go k) b at_ n) ?_ (fun k => rfl)
        simp only [quote_Scan.b2, getD_byt]
        refine Ev.bind (closed_ev b at_ hs h0 h1 hq) (Ev.gk (cutB_iff.2 (by omega)) ?_)
        have e1 : wr .i64 ((endF b at_).1 - at_) = (endF b at_).1 - at_ := v64 (by omega) (by omega)
        rw [e1]
        refine Ev.bif (fun h => ?_) (fun h => Ev.bif (fun h' => ?_) (fun h' => ?_))
        · rw [if_pos (by simpa using h)]; exact Ev.ret
        · rw [if_neg (by simpa using h), if_pos (by simpa using h')]
          exact Ev.bind (char_ev _ (by omega)) Ev.ret
        · rw [if_neg (by simpa using h), if_neg (by simpa using h')]
          exact Ev.bind (text_ev _ (by omega)) Ev.ret
      refine Ev.ff rfl (Ev.gk (inB_iff.2 (by omega)) (Ev.bif (fun h => ?_) (fun h => Ev.bif (fun h' => ?_) (fun h' => Ev.bif (fun h'' => ?_) (fun h'' => ?_)))))
      · have h39 : byt b at_ = 39 := by simpa using h
        exact (l2 4 (by simp [h39])).to (by simp [h39])
      · have h39 : ¬ byt b at_ = 39 := by simpa using h
        exact (l2 5 (by simp [h39])).to (by simp [h39])
      · have h39 : ¬ byt b at_ = 39 := by simpa using h
        exact (l2 5 (by simp [h39])).to (by simp [h39])
      · exfalso
        have h1 : ¬ byt b at_ = 39 := by simpa using h
        have h2 : ¬ byt b at_ = 34 := by simpa using h'
        have h3 : ¬ byt b at_ = 96 := by simpa using h''
        unfold isQ at hq
        omega
    · have hb : scanF b at_ = (0, 0, 7) := by unfold scanF; rw [if_pos (.inr (.inr hq))]
      rw [hb]
      unfold isQ at hq
      refine Ev.ff rfl (Ev.gk (inB_iff.2 (by omega)) (Ev.ff (by simp; omega) (Ev.ff (by simp; omega) (Ev.ff (by simp; omega) Ev.ret))))
  refine Ev.bif (fun h => ?_) (fun h => ?_)
  · exact bad _ rfl (.inl (of_decide_eq_true h))
  · have := of_decide_eq_false h
    by_cases h' : (b.length : Int) ≤ at_
    · exact bad _ (by simpa using h') (.inr h')
    · exact good _ (by simpa using h') (by omega) (by omega)
/-! ### Writing -/
def hexL : List UInt8 := [48, 49, 50, 51, 52, 53, 54, 55, 56, 57, 97, 98, 99, 100, 101, 102]
theorem hex_tab : (List.range 256).all (fun n => (let c : Int := n; inB (shrI .u8 c 4) hexL.length && inB (Go.bits .and .u8 c 15) hexL.length && byt hexL (shrI .u8 c 4) == hx (c / 16) && byt hexL (Go.bits .and .u8 c 15) == hx (c % 16) &&
  inB (quoI .u8 c 16) hexL.length && inB (remI c 16) hexL.length && byt hexL (quoI .u8 c 16) == hx (c / 16) && byt hexL (remI c 16) == hx (c % 16))) = true := by kernel_rfl
theorem hex_at (c : Int) (h0 : 0 ≤ c) (h1 : c < 256) : (inB (shrI .u8 c 4) hexL.length = true ∧ inB (Go.bits .and .u8 c 15) hexL.length = true ∧ byt hexL (shrI .u8 c 4) = hx (c / 16) ∧ byt hexL (Go.bits .and .u8 c 15) = hx (c % 16)) ∧
    (inB (quoI .u8 c 16) hexL.length = true ∧ inB (remI c 16) hexL.length = true ∧ byt hexL (quoI .u8 c 16) = hx (c / 16) ∧ byt hexL (remI c 16) = hx (c % 16)) := by
  have := byte_cases (fun c => (inB (shrI .u8 c 4) hexL.length && inB (Go.bits .and .u8 c 15) hexL.length && byt hexL (shrI .u8 c 4) == hx (c / 16) && byt hexL (Go.bits .and .u8 c 15) == hx (c % 16) &&
    inB (quoI .u8 c 16) hexL.length && inB (remI c 16) hexL.length && byt hexL (quoI .u8 c 16) == hx (c / 16) && byt hexL (remI c 16) == hx (c % 16))) hex_tab c h0 h1
  simp only [Bool.and_eq_true, beq_iff_eq] at this
  obtain ⟨⟨⟨⟨⟨⟨⟨a, b⟩, c⟩, d⟩, e⟩, f⟩, g⟩, h⟩ := this
  exact ⟨⟨a, b, c, d⟩, ⟨e, f, g, h⟩⟩
theorem drop_at (s : List UInt8) (i : Int) (h0 : 0 ≤ i) (h1 : i < (s.length : Int)) : s.drop i.toNat = toU8 (byt s i) :: s.drop (i + 1).toNat := by
  rw [List.drop_eq_getElem_cons (by omega), show (i + 1).toNat = i.toNat + 1 by omega]
  have hb : byt s i = ((s[i.toNat]'(by omega)).toNat : Int) := by
    unfold byt
    rw [List.getD_eq_getElem?_getD, List.getElem?_eq_getElem (by omega)]
    rfl
  rw [hb, toU8_byt]
theorem wr1_at (x : Int) (h0 : 0 ≤ x) (h1 : x < 256) : wr1 (toU8 x) = if x = 34 ∨ x = 92 then [92, toU8 x] else if 32 ≤ x ∧ x ≤ 126 then [toU8 x] else [92, 120, toU8 (hx (x / 16)), toU8 (hx (x % 16))] := by
  unfold wr1
  rw [toU8_val x h0 h1]
theorem write_go (s : List UInt8) (hs : s.length ≤ 100000) : ∀ (m : Nat) (i : Int) (acc : List UInt8), 0 ≤ i → i + m = (s.length : Int) → (acc.length : Int) ≤ 1 + 4 * i →
    Ev (fun k => quote_Write.go k (.l1 acc s (s.length : Int) i)) (acc ++ wrL (s.drop i.toNat) ++ [34])
  | 0, i, acc, h0, hm, ha => by
    refine Ev.succ (f := fun k => quote_Write.b1 k (quote_Write.go k) acc s (s.length : Int) i) ?_ (fun k => rfl)
    simp only [quote_Write.b1]
    rw [List.drop_eq_nil_of_le (by omega)]
    exact Ev.ff (by simp; omega) (Ev.gk (room_iff.2 (by simp; omega)) (Ev.ret' (by simp [wrL])))
  | m + 1, i, acc, h0, hm, ha => by
    refine Ev.succ (f := fun k => quote_Write.b1 k (quote_Write.go k) acc s (s.length : Int) i) ?_ (fun k => rfl)
    simp only [quote_Write.b1, getD_byt]
    have hb0 := byt_lo s i
    have hb1 := byt_hi s i
    have e1 : wr .i64 (i + 1) = i + 1 := v64 (by omega) (by omega)
    have nx : ∀ l : List UInt8, l.length ≤ 4 → l = wr1 (toU8 (byt s i)) → Ev (fun k => quote_Write.go k (.l1 (acc ++ l) s (s.length : Int) (i + 1))) (acc ++ wrL (s.drop i.toNat) ++ [34]) := by
      intro l hl e
      refine (write_go s hs m (i + 1) (acc ++ l) (by omega) (by omega) (by rw [List.length_append]; omega)).to ?_
      rw [drop_at s i h0 (by omega), wrL, e]
      simp
    have hw := wr1_at (byt s i) hb0 hb1
    obtain ⟨⟨g1, g2, g3, g4⟩, _⟩ := hex_at (byt s i) hb0 hb1
    have l3 : ∀ c, c = decide (32 ≤ byt s i ∧ byt s i ≤ 126) → ¬ (byt s i = 34 ∨ byt s i = 92) → Ev (fun k => quote_Write.go k (.l3 acc s (byt s i) (s.length : Int) i c)) (acc ++ wrL (s.drop i.toNat) ++ [34]) := by
      intro c hc hn
      refine Ev.succ (f := fun k => quote_Write.b3 k (quote_Write.go k) acc s (byt s i) (s.length : Int) i c) ?_ (fun k => rfl)
      simp only [quote_Write.b3, getD_byt]
      rw [e1]
      rw [if_neg hn] at hw
      refine Ev.bif (fun h => ?_) (fun h => ?_)
      · rw [h] at hc
        rw [if_pos (of_decide_eq_true hc.symm)] at hw
        exact Ev.gk (room_iff.2 (by simp; omega)) (nx _ (by simp) hw.symm)
      · rw [h] at hc
        rw [if_neg (of_decide_eq_false hc.symm)] at hw
        refine Ev.gk g1 (Ev.gk g2 (Ev.gk (room_iff.2 (by simp; omega)) (nx _ (by simp) ?_)))
        show [92, 120, toU8 (byt hexL (shrI .u8 (byt s i) 4)), toU8 (byt hexL (Go.bits .and .u8 (byt s i) 15))] = _
        rw [g3, g4, hw]
    have l2 : ∀ c, c = decide (byt s i = 34 ∨ byt s i = 92) → Ev (fun k => quote_Write.go k (.l2 acc s (byt s i) (s.length : Int) i c)) (acc ++ wrL (s.drop i.toNat) ++ [34]) := by
      intro c hc
      refine Ev.succ (f := fun k => quote_Write.b2 k (quote_Write.go k) acc s (byt s i) (s.length : Int) i c) ?_ (fun k => rfl)
      simp only [quote_Write.b2, getD_byt]
      rw [e1]
      refine Ev.bif (fun h => ?_) (fun h => ?_)
      · rw [h] at hc
        rw [if_pos (of_decide_eq_true hc.symm)] at hw
        exact Ev.gk (room_iff.2 (by simp; omega)) (nx _ (by simp) hw.symm)
      · rw [h] at hc
        have hn := of_decide_eq_false hc.symm
        refine Ev.bif (fun h => l3 _ ?_ hn) (fun h => l3 _ ?_ hn)
        · have := of_decide_eq_true h; simp [this]
        · have := of_decide_eq_false h; simp [this]
    refine Ev.tt (by simp; omega) (Ev.gk (inB_iff.2 (by omega)) (Ev.bif (fun h => l2 _ ?_) (fun h => l2 _ ?_)))
    · have : byt s i = 34 := by simpa using h
      simp [this]
    · have : ¬ byt s i = 34 := by simpa using h
      simp [this]
      exact beq_dec _ _
theorem write_ev (s : List UInt8) (hs : s.length ≤ 100000) : Ev (fun k => quote_Write.m k s) (writeF s) := by
  refine Ev.succ (f := fun k => quote_Write.b0 k (quote_Write.go k) s) ?_ (fun k => rfl)
  simp only [quote_Write.b0]
  exact (write_go s hs s.length 0 [34] (by decide) (by omega) (by simp)).to (by simp [writeF])
theorem refWrite_go (s : List UInt8) (hs : s.length ≤ 100000) : ∀ (m : Nat) (i : Int) (acc : List UInt8), 0 ≤ i → i + m = (s.length : Int) → (acc.length : Int) ≤ 1 + 4 * i →
    Ev (fun k => cavilref10_Write.go k (.l1 acc s hexL i)) (acc ++ wrL (s.drop i.toNat) ++ [34])
  | 0, i, acc, h0, hm, ha => by
    refine Ev.succ (f := fun k => cavilref10_Write.b1 k (cavilref10_Write.go k) acc s hexL i) ?_ (fun k => rfl)
    simp only [cavilref10_Write.b1]
    rw [List.drop_eq_nil_of_le (by omega)]
    exact Ev.ff (by simp; omega) (Ev.gk (room_iff.2 (by simp; omega)) (Ev.ret' (by simp [wrL])))
  | m + 1, i, acc, h0, hm, ha => by
    refine Ev.succ (f := fun k => cavilref10_Write.b1 k (cavilref10_Write.go k) acc s hexL i) ?_ (fun k => rfl)
    simp only [cavilref10_Write.b1, getD_byt]
    have hb0 := byt_lo s i
    have hb1 := byt_hi s i
    have e1 : wr .i64 (i + 1) = i + 1 := v64 (by omega) (by omega)
    have nx : ∀ l : List UInt8, l.length ≤ 4 → l = wr1 (toU8 (byt s i)) → Ev (fun k => cavilref10_Write.go k (.l1 (acc ++ l) s hexL (i + 1))) (acc ++ wrL (s.drop i.toNat) ++ [34]) := by
      intro l hl e
      refine (refWrite_go s hs m (i + 1) (acc ++ l) (by omega) (by omega) (by rw [List.length_append]; omega)).to ?_
      rw [drop_at s i h0 (by omega), wrL, e]
      simp
    have hw := wr1_at (byt s i) hb0 hb1
    obtain ⟨_, g1, g2, g3, g4⟩ := hex_at (byt s i) hb0 hb1
    have l3 : ∀ c, c = decide (32 ≤ byt s i ∧ byt s i ≤ 126) → ¬ (byt s i = 34 ∨ byt s i = 92) → Ev (fun k => cavilref10_Write.go k (.l3 acc s hexL i (byt s i) c)) (acc ++ wrL (s.drop i.toNat) ++ [34]) := by
      intro c hc hn
      refine Ev.succ (f := fun k => cavilref10_Write.b3 k (cavilref10_Write.go k) acc s hexL i (byt s i) c) ?_ (fun k => rfl)
      simp only [cavilref10_Write.b3, getD_byt]
      rw [e1]
      rw [if_neg hn] at hw
      refine Ev.bif (fun h => ?_) (fun h => ?_)
      · rw [h] at hc
        rw [if_pos (of_decide_eq_true hc.symm)] at hw
        exact Ev.gk (room_iff.2 (by simp; omega)) (nx _ (by simp) hw.symm)
      · rw [h] at hc
        rw [if_neg (of_decide_eq_false hc.symm)] at hw
        refine Ev.gk g1 (Ev.gk g2 (Ev.gk (room_iff.2 (by simp; omega)) (nx _ (by simp) ?_)))
        rw [g3, g4, hw]
    have l2 : ∀ c, c = decide (byt s i = 34 ∨ byt s i = 92) → Ev (fun k => cavilref10_Write.go k (.l2 acc s hexL i (byt s i) c)) (acc ++ wrL (s.drop i.toNat) ++ [34]) := by
      intro c hc
      refine Ev.succ (f := fun k => cavilref10_Write.b2 k (cavilref10_Write.go k) acc s hexL i (byt s i) c) ?_ (fun k => rfl)
      simp only [cavilref10_Write.b2, getD_byt]
      rw [e1]
      refine Ev.bif (fun h => ?_) (fun h => ?_)
      · rw [h] at hc
        rw [if_pos (of_decide_eq_true hc.symm)] at hw
        exact Ev.gk (room_iff.2 (by simp; omega)) (nx _ (by simp) hw.symm)
      · rw [h] at hc
        have hn := of_decide_eq_false hc.symm
        refine Ev.bif (fun h => l3 _ ?_ hn) (fun h => l3 _ ?_ hn)
        · have := of_decide_eq_true h; simp [this]; omega
        · have := of_decide_eq_false h; simp [this]
    refine Ev.tt (by simp; omega) (Ev.gk (inB_iff.2 (by omega)) (Ev.bif (fun h => l2 _ ?_) (fun h => l2 _ ?_)))
    · have : byt s i = 34 := by simpa using h
      simp [this]
    · have : ¬ byt s i = 34 := by simpa using h
      simp [this]
      exact beq_dec _ _
theorem refWrite_ev (s : List UInt8) (hs : s.length ≤ 100000) : Ev (fun k => cavilref10_Write.m k s) (writeF s) := by
  refine Ev.succ (f := fun k => cavilref10_Write.b0 k (cavilref10_Write.go k) s) ?_ (fun k => rfl)
  simp only [cavilref10_Write.b0]
  exact (refWrite_go s hs s.length 0 [34] (by decide) (by omega) (by simp)).to (by simp [writeF])
/-! ### The laws -/
theorem QuoteScans (l0 : List UInt8) (a1 : Int) (_ : l0.length ≤ 140737488351232) (h0 : -9223372036854775808 ≤ a1) (h1 : a1 ≤ 9223372036854775807) : ∃ k, cavillaw10_QuoteScans.m k l0 a1 = some true := by
  refine Ev.get (f := fun k => cavillaw10_QuoteScans.m k l0 a1) (Ev.succ (f := fun k => cavillaw10_QuoteScans.b0 k l0 a1) ?_ (fun k => rfl))
  simp only [cavillaw10_QuoteScans.b0]
  have hl := hd_len 60 l0
  have hr := scanF_rng (hd 60 l0) a1
  refine Ev.gk (hd_ok 60 l0) ?_
  refine Ev.bind (scan_ev (hd 60 l0) a1 (by omega)) (Ev.bind (refScan_ev (hd 60 l0) a1 (by omega)) ?_)
  exact Ev.tt (beq_self_eq_true _) (Ev.tt (beq_self_eq_true _) (Ev.bind (code_ev _ hr.1 hr.2) (Ev.tt (beq_self_eq_true _) (Ev.bind works_ev Ev.ret))))
theorem QuoteWrites (l0 l1 : List UInt8) (_ : l0.length ≤ 140737488351232) (_ : l1.length ≤ 140737488351232) : ∃ k, cavillaw10_QuoteWrites.m k l0 l1 = some true := by
  refine Ev.get (f := fun k => cavillaw10_QuoteWrites.m k l0 l1) (Ev.succ (f := fun k => cavillaw10_QuoteWrites.b0 k l0 l1) ?_ (fun k => rfl))
  simp only [cavillaw10_QuoteWrites.b0]
  have hl := hd_len 60 l0
  have hl1 := hd_len 20 l1
  have hw := wrL_le (hd 60 l0)
  have hwl : (writeF (hd 60 l0)).length = (wrL (hd 60 l0)).length + 2 := by simp [writeF]
  have ht := text_ev (writeF (hd 60 l0)) (by omega)
  have hs := scan_ev (writeF (hd 60 l0) ++ hd 20 l1) 0 (by rw [List.length_append]; omega)
  rw [textF_write] at ht
  rw [scanF_write] at hs
  refine Ev.gk (hd_ok 60 l0) (Ev.gk (hd_ok 20 l1) (Ev.bind (write_ev (hd 60 l0) (by omega)) (Ev.bind ht (Ev.gk (room_iff.2 ?_) (Ev.bind hs (Ev.bind (refWrite_ev (hd 60 l0) (by omega)) ?_))))))
  · show (writeF (hd 60 l0) ++ hd 20 l1).length < _
    rw [List.length_append]; omega
  exact Ev.tt (beq_self_eq_true _) (Ev.tt (beq_self_eq_true _) (Ev.tt rfl (Ev.tt rfl (Ev.tt (beq_self_eq_true _) (Ev.tt rfl (Ev.bind works_ev Ev.ret))))))
theorem QuoteAlone (l0 : List UInt8) (a1 : Int) (_ : l0.length ≤ 140737488351232) (h0 : 0 ≤ a1) (h1 : a1 ≤ 255) : ∃ k, cavillaw10_QuoteAlone.m k l0 a1 = some true := by
  refine Ev.get (f := fun k => cavillaw10_QuoteAlone.m k l0 a1) (Ev.succ (f := fun k => cavillaw10_QuoteAlone.b0 k (cavillaw10_QuoteAlone.go k) l0 a1) ?_ (fun k => rfl))
  simp only [cavillaw10_QuoteAlone.b0]
  have e0 : wr .i64 a1 = a1 := v64 (by omega) (by omega)
  rw [e0]
  have hl := hd_len 60 l0
  refine Ev.gk (hd_ok 60 l0) (Ev.bind (scan_ev (hd 60 l0) a1 (by omega)) ?_)
  rw [erOf_nil]
  refine Ev.bif (fun h => Ev.bind works_ev Ev.ret) (fun h => ?_)
  have hz : (scanF (hd 60 l0) a1).2.2 = 0 := by simpa using h
  obtain ⟨g1, g2, g3, g4, g5⟩ := scanF_alone (hd 60 l0) a1 hz
  generalize hn : (scanF (hd 60 l0) a1).2.1 = n at *
  have e1 : wr .i64 (a1 + n) = a1 + n := v64 (by omega) (by omega)
  have e2 : wr .i64 (n - 1) = n - 1 := v64 (by omega) (by omega)
  have hc := cut_lenI (hd 60 l0) a1 (a1 + n) (by omega) (by omega) (by omega)
  have hc2 := cut_lenI (cut (hd 60 l0) a1 (a1 + n)) 0 (n - 1) (by omega) (by omega) (by omega)
  rw [e1]
  refine Ev.ff (by simp; omega) ?_
  show Ev (fun k => cavillaw10_QuoteAlone.go k (.l1 l0 (hd 60 l0) a1 (scanF (hd 60 l0) a1).1 n (decide (a1 + n > ((hd 60 l0).length : Int))))) true
  rw [decide_eq_false (show ¬ a1 + n > ((hd 60 l0).length : Int) by omega)]
  refine Ev.succ (f := fun k => cavillaw10_QuoteAlone.b1 k (cavillaw10_QuoteAlone.go k) l0 (hd 60 l0) a1 (scanF (hd 60 l0) a1).1 n false) ?_ (fun k => rfl)
  simp only [cavillaw10_QuoteAlone.b1]
  rw [e0, e1, e2]
  have hs := scan_ev (cut (hd 60 l0) a1 (a1 + n)) 0 (by omega)
  rw [g4] at hs
  refine Ev.ff rfl (Ev.gk (cutB_iff.2 (by omega)) (Ev.bind hs (Ev.gk (cutB_iff.2 (by omega)) (Ev.bind (scan_ev (cut (cut (hd 60 l0) a1 (a1 + n)) 0 (n - 1)) 0 (by omega)) ?_))))
  rw [erOf_nil, erOf_nil]
  exact Ev.tt (beq_self_eq_true _) (Ev.tt (by simp [hn]) (Ev.tt (decide_eq_true hz) (Ev.tt (by simpa using g5) (Ev.bind works_ev Ev.ret))))
end Go.Proofs.YtjgjbdphjccpcaaDoor.Pure
