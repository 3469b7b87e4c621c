/-
  Chapter 10, plain: a character's literal, on both sides.
-/
import Derived.Test.YtjgjbdphjccpcaaDoorPi
namespace Go.Proofs.YtjgjbdphjccpcaaDoor.Pure
open Go Abs
set_option linter.unusedVariables false
set_option linter.unusedSimpArgs false

theorem beq_dec (a b : Int) : (a == b) = decide (a = b) := by rw [Bool.eq_iff_iff]; simp
def isIn (s : List UInt8) (q : Int) : Bool := decide (2 ≤ s.length) && (decide (byt s 0 = q) && decide (byt s ((s.length : Int) - 1) = q))
theorem isIn_iff (s : List UInt8) (q : Int) : isIn s q = true ↔ 2 ≤ s.length ∧ byt s 0 = q ∧ byt s ((s.length : Int) - 1) = q := by simp [isIn]
def body (s : List UInt8) : List UInt8 := cut s 1 ((s.length : Int) - 1)
theorem body_len (s : List UInt8) (h : 2 ≤ s.length) : (body s).length = s.length - 2 := by
  have := cut_lenI s 1 ((s.length : Int) - 1) (by omega) (by omega) (by omega)
  unfold body; omega
theorem body_byt (s : List UInt8) (i : Int) (h0 : 0 ≤ i) (h : i < (s.length : Int) - 2) : byt (body s) i = byt s (1 + i) := cut_byt s 1 ((s.length : Int) - 1) i (by omega) (by omega) (by omega) h0 (by omega)
theorem len1 (s : List UInt8) (hs : s.length ≤ 100000) : wr .i64 ((s.length : Int) - 1) = (s.length : Int) - 1 := w64 (by omega) (by omega)
theorem within_ev (s : List UInt8) (q : Int) (hs : s.length ≤ 100000) : Ev (fun k => quote_within.m k s q) (if isIn s q = true then (body s, true) else ([], false)) := by
  refine Ev.succ (f := fun k => quote_within.b0 k s q) ?_ (fun k => rfl)
  simp only [quote_within.b0]
  rw [len1 s hs]
  refine Ev.bif (fun h => ?_) (fun h => ?_)
  · have := of_decide_eq_true h
    rw [if_neg (by rw [isIn_iff]; omega)]
    exact Ev.ret
  · have := of_decide_eq_false h
    refine Ev.gk (inB_iff.2 (by omega)) (Ev.bif (fun h' => ?_) (fun h' => Ev.gk (inB_iff.2 (by omega)) (Ev.bif (fun h'' => ?_) (fun h'' => Ev.gk (cutB_iff.2 (by omega)) ?_))))
    · have : ¬ byt s 0 = q := by simpa using h'
      rw [if_neg (fun hh => this ((isIn_iff _ _).1 hh).2.1)]
      exact Ev.ret
    · have : ¬ byt s ((s.length : Int) - 1) = q := by simpa using h''
      rw [if_neg (fun hh => this ((isIn_iff _ _).1 hh).2.2)]
      exact Ev.ret
    · rw [if_pos ((isIn_iff _ _).2 ⟨by omega, by simpa using h', by simpa using h''⟩)]
      exact Ev.ret
theorem between_ev (s : List UInt8) (q : Int) (hs : s.length ≤ 100000) : Ev (fun k => cavilref10_between.m k s q) (isIn s q) := by
  refine Ev.succ (f := fun k => cavilref10_between.b0 k s q) ?_ (fun k => rfl)
  simp only [cavilref10_between.b0]
  rw [len1 s hs]
  unfold isIn
  refine Ev.bif (fun h => ?_) (fun h => ?_)
  · have := of_decide_eq_true h
    rw [decide_eq_true (show 2 ≤ s.length by omega)]
    refine Ev.gk (inB_iff.2 (by omega)) (Ev.bif (fun h' => Ev.gk (inB_iff.2 (by omega)) (Ev.ret' ?_)) (fun h' => Ev.ret' ?_))
    · have h' : byt s 0 = q := by simpa using h'
      rw [decide_eq_true h']
      simp only [Bool.true_and]
      exact (beq_dec _ _)
    · have h' : ¬ byt s 0 = q := by simpa using h'
      rw [decide_eq_false h']
      rfl
  · have := of_decide_eq_false h
    rw [decide_eq_false (show ¬ 2 ≤ s.length by omega)]
    exact Ev.ret
theorem esc1F_len (s : List UInt8) (i n : Nat) (b mx : Int) : (esc1F s i n b mx).2.2 ≤ (s.length : Int) ∧ 0 ≤ (esc1F s i n b mx).2.2 := by
  unfold esc1F
  split
  · simp
  · split
    · split <;> simp <;> omega
    · simp
theorem runeR_len (t : Int × Bool × Int) (L : Int) (h : t.2.2 ≤ L ∧ 0 ≤ t.2.2) : (runeR t).2.2 ≤ L ∧ 0 ≤ (runeR t).2.2 := by
  unfold runeR
  split
  · exact h
  · simp; omega
theorem escF_len (s : List UInt8) (q : Int) : (escF s q).2.2 ≤ (s.length : Int) ∧ 0 ≤ (escF s q).2.2 := by
  unfold escF
  split
  · simp
  · split
    · simp; omega
    · split
      · exact esc1F_len _ _ _ _ _
      · split
        · exact runeR_len _ _ (esc1F_len _ _ _ _ _)
        · split
          · exact runeR_len _ _ (esc1F_len _ _ _ _ _)
          · exact esc1F_len _ _ _ _ _
theorem decF_len (s : List UInt8) : (decF s).2.1 ≤ (s.length : Int) ∧ 0 ≤ (decF s).2.1 := by
  unfold decF
  simp only
  split
  · simp
  · split
    · simp; omega
    · split
      · simp; omega
      · split
        · simp; omega
        · split
          · simp; omega
          · simp
/-- A character's literal: its value, the error's number. -/
def charF (s : List UInt8) : Int × Int :=
  if isIn s 39 = false ∨ s.length = 2 ∨ byt s 1 = 39 ∨ byt s 1 = 10 then (0, 8)
  else if byt s 1 = 92 then (if (escF (body s) 39).2.2 = 0 then (0, 14) else if (escF (body s) 39).2.2 < ((body s).length : Int) then (0, 8) else ((escF (body s) 39).1, 0))
  else if (decF (body s)).2.2 ≠ 0 then (0, (decF (body s)).2.2) else if (decF (body s)).2.1 < ((body s).length : Int) then (0, 8) else ((decF (body s)).1, 0)
theorem erOf_nil (n : Int) : (erOf n).isNil = decide (n = 0) := by
  unfold erOf
  split
  · rename_i h; simp [h, Er.isNil]
  · rename_i h; simp [h, Er.isNil]
theorem char_ev (s : List UInt8) (hs : s.length ≤ 100000) : Ev (fun k => quote_Char.m k s) ((charF s).1, erOf (charF s).2) := by
  refine Ev.succ (f := fun k => quote_Char.b0 k (quote_Char.go k) s) ?_ (fun k => rfl)
  simp only [quote_Char.b0]
  refine Ev.bind (within_ev s 39 hs) ?_
  have bad : ∀ x r, r = ((0 : Int), (8 : Int)) → Ev (fun k => quote_Char.go k (.l1 x true)) (r.1, erOf r.2) := by
    rintro x r rfl
    refine Ev.succ (f := fun k => quote_Char.b1 k (quote_Char.go k) x true) ?_ (fun k => rfl)
    simp only [quote_Char.b1]
    exact Ev.tt rfl Ev.ret
  have fin : ∀ x v n r, r = (if n < (x.length : Int) then ((0 : Int), (8 : Int)) else (v, 0)) → Ev (fun k => quote_Char.go k (.l2 x v n)) (r.1, erOf r.2) := by
    rintro x v n r rfl
    refine Ev.succ (f := fun k => quote_Char.b2 k (quote_Char.go k) x v n) ?_ (fun k => rfl)
    simp only [quote_Char.b2]
    refine Ev.bif (fun h => ?_) (fun h => ?_)
    · rw [if_pos (of_decide_eq_true h)]; exact Ev.ret
    · rw [if_neg (of_decide_eq_false h)]; exact Ev.ret
  by_cases hin : isIn s 39 = true
  · rw [if_pos hin]
    obtain ⟨hl, h0, h1⟩ := (isIn_iff _ _).1 hin
    have hbl := body_len s hl
    refine Ev.ff rfl ?_
    by_cases h2 : s.length = 2
    · have hb : body s = [] := List.eq_nil_of_length_eq_zero (by omega)
      rw [hb]
      refine bad _ _ ?_
      unfold charF
      rw [if_pos (.inr (.inl h2))]
    · have hb : (body s == ([] : List UInt8)) = false := by
        apply beq_false_of_ne
        intro e
        have := congrArg List.length e
        rw [hbl] at this
        simp only [List.length_nil] at this
        omega
      rw [hb]
      have hb1 : byt (body s) 0 = byt s 1 := body_byt s 0 (by omega) (by omega)
      refine Ev.succ (f := fun k => quote_Char.b1 k (quote_Char.go k) (body s) false) ?_ (fun k => rfl)
      simp only [quote_Char.b1]
      rw [hb1]
      refine Ev.ff rfl (Ev.gk (inB_iff.2 (by omega)) (Ev.bif (fun h => ?_) (fun h => ?_)))
      · have h92 : byt s 1 = 92 := by simpa using h
        refine Ev.bind (escape_ev (body s) 39 (by omega)) ?_
        unfold charF
        rw [if_neg (by simp only [not_or]; exact ⟨by simp [hin], h2, by omega, by omega⟩), if_pos h92]
        refine Ev.bif (fun h => ?_) (fun h => ?_)
        · rw [if_pos (by simpa using h)]
          exact Ev.ret
        · rw [if_neg (by simpa using h)]
          exact fin _ _ _ _ rfl
      · have h92 : ¬ byt s 1 = 92 := by simpa using h
        have l3 : ∀ q, q = decide (byt s 1 = 39 ∨ byt s 1 = 10) → Ev (fun k => quote_Char.go k (.l3 (body s) q)) ((charF s).1, erOf (charF s).2) := by
          intro q hq
          refine Ev.succ (f := fun k => quote_Char.b3 k (quote_Char.go k) (body s) q) ?_ (fun k => rfl)
          simp only [quote_Char.b3]
          unfold charF
          refine Ev.bif (fun h => ?_) (fun h => ?_)
          · rw [h] at hq
            have : byt s 1 = 39 ∨ byt s 1 = 10 := of_decide_eq_true hq.symm
            rw [if_pos (.inr (.inr this))]
            exact Ev.ret
          · rw [h] at hq
            have : ¬ (byt s 1 = 39 ∨ byt s 1 = 10) := of_decide_eq_false hq.symm
            rw [if_neg (by simp only [not_or]; exact ⟨by simp [hin], h2, by omega, by omega⟩), if_neg h92]
            refine Ev.bind (decode_ev (body s) (by omega)) ?_
            rw [erOf_nil]
            refine Ev.bif (fun h => ?_) (fun h => ?_)
            · have : (decF (body s)).2.2 ≠ 0 := by simpa using h
              rw [if_pos this]
              exact Ev.ret
            · have : ¬ (decF (body s)).2.2 ≠ 0 := by simpa using h
              rw [if_neg this]
              exact fin _ _ _ _ rfl
        refine Ev.bif (fun h => l3 _ ?_) (fun h => l3 _ ?_)
        · have : byt s 1 = 39 := by simpa using h
          simp [this]
        · have : ¬ byt s 1 = 39 := by simpa using h
          simp [this]
          exact beq_dec _ _
  · rw [if_neg hin]
    refine Ev.tt rfl (bad _ _ ?_)
    unfold charF
    rw [if_pos (.inl (by simpa using hin))]
theorem refChar_ev (s : List UInt8) (hs : s.length ≤ 100000) : Ev (fun k => cavilref10_Char.m k s) (charF s) := by
  refine Ev.succ (f := fun k => cavilref10_Char.b0 k (cavilref10_Char.go k) s) ?_ (fun k => rfl)
  simp only [cavilref10_Char.b0]
  refine Ev.bind (between_ev s 39 hs) ?_
  have l1 : ∀ q, q = decide (isIn s 39 = false ∨ s.length = 2 ∨ byt s 1 = 39 ∨ byt s 1 = 10) → Ev (fun k => cavilref10_Char.go k (.l1 s q)) (charF s) := by
    intro q hq
    refine Ev.succ (f := fun k => cavilref10_Char.b1 k (cavilref10_Char.go k) s q) ?_ (fun k => rfl)
    simp only [cavilref10_Char.b1]
    rw [len1 s hs]
    unfold charF
    refine Ev.bif (fun h => ?_) (fun h => ?_)
    · rw [h] at hq
      rw [if_pos (of_decide_eq_true hq.symm)]
      exact Ev.ret
    · rw [h] at hq
      have hn := of_decide_eq_false hq.symm
      rw [if_neg hn]
      simp only [not_or] at hn
      have hin : isIn s 39 = true := by simpa using hn.1
      obtain ⟨hl, h0, h1⟩ := (isIn_iff _ _).1 hin
      have hbl := body_len s hl
      have hb1 : byt (body s) 0 = byt s 1 := body_byt s 0 (by omega) (by omega)
      have el := escF_len (body s) 39
      have dl := decF_len (body s)
      refine Ev.gk (cutB_iff.2 (by omega)) (Ev.gk (inB_iff.2 (by show (0 : Int) ≤ 0 ∧ (0 : Int) < ((body s).length : Int); omega)) ?_)
      show Ev (fun k => bif (byt (body s) 0 == 92) then bindO (cavilref10_Escape.m k (body s) 39) _ else bindO (cavilref01_Decode.m k (body s) 0) _) _
      rw [hb1]
      refine Ev.bif (fun h => ?_) (fun h => ?_)
      · rw [if_pos (by simpa using h)]
        refine Ev.bind (refEscape_ev (body s) 39 (by decide) (by omega)) ?_
        show Ev (fun k => bif ((escF (body s) 39).2.2 == 0) then some ((0 : Int), (14 : Int)) else bif ((escF (body s) 39).2.2 != ((body s).length : Int)) then some (0, 8) else some ((escF (body s) 39).1, 0)) _
        refine Ev.bif (fun h => ?_) (fun h => ?_)
        · rw [if_pos (by simpa using h)]; exact Ev.ret
        · rw [if_neg (by simpa using h)]
          refine Ev.bif (fun h => ?_) (fun h => ?_)
          · have : (escF (body s) 39).2.2 ≠ ((body s).length : Int) := by simpa using h
            rw [if_pos (by omega)]; exact Ev.ret
          · have : (escF (body s) 39).2.2 = ((body s).length : Int) := by simpa using h
            rw [if_neg (by omega)]; exact Ev.ret
      · rw [if_neg (by simpa using h)]
        refine Ev.bind (refDecode_ev (body s) (by omega)) ?_
        show Ev (fun k => bif ((decF (body s)).2.2 != 0) then some ((0 : Int), (decF (body s)).2.2) else bif ((decF (body s)).2.1 != ((body s).length : Int)) then some (0, 8) else some ((decF (body s)).1, 0)) _
        refine Ev.bif (fun h => ?_) (fun h => ?_)
        · rw [if_pos (by simpa using h)]; exact Ev.ret
        · rw [if_neg (by simpa using h)]
          refine Ev.bif (fun h => ?_) (fun h => ?_)
          · have : (decF (body s)).2.1 ≠ ((body s).length : Int) := by simpa using h
            rw [if_pos (by omega)]; exact Ev.ret
          · have : (decF (body s)).2.1 = ((body s).length : Int) := by simpa using h
            rw [if_neg (by omega)]; exact Ev.ret
  refine Ev.bif (fun h => l1 _ ?_) (fun h => ?_)
  · have : isIn s 39 = false := by simpa using h
    simp [this]
  · have hin : isIn s 39 = true := by simpa using h
    obtain ⟨hl, _, _⟩ := (isIn_iff _ _).1 hin
    refine Ev.bif (fun h => l1 _ ?_) (fun h => Ev.gk (inB_iff.2 (by omega)) (Ev.bif (fun h' => l1 _ ?_) (fun h' => Ev.gk (inB_iff.2 (by omega)) (l1 _ ?_))))
    · have : s.length = 2 := by have : (s.length : Int) = 2 := by simpa using h
                                omega
      simp [this]
    · have : byt s 1 = 39 := by simpa using h'
      simp [this]
    · have h2 : ¬ s.length = 2 := by have : ¬ (s.length : Int) = 2 := by simpa using h
                                     omega
      have : ¬ byt s 1 = 39 := by simpa using h'
      simp [this, hin, h2]
      exact beq_dec _ _
end Go.Proofs.YtjgjbdphjccpcaaDoor.Pure
