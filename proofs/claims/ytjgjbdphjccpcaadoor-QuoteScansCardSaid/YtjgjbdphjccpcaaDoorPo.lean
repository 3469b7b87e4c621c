/-
  Chapter 10, plain: where a literal ends; what is scanned.
-/
import Derived.Test.YtjgjbdphjccpcaaDoorPn
namespace Go.Proofs.YtjgjbdphjccpcaaDoor.Pure
open Go Abs
set_option linter.unusedVariables false
set_option linter.unusedSimpArgs false

/-- Where a literal with the quote q ends, from i on. -/
def endL (b : List UInt8) (q : Int) : Nat → Int → Int × Bool
  | 0, _ => ((b.length : Int), false)
  | m + 1, i =>
    if (b.length : Int) ≤ i then ((b.length : Int), false)
    else if byt b i = q then (i + 1, true)
    else if q ≠ 96 ∧ byt b i = 10 then (i, false)
    else if q ≠ 96 ∧ byt b i = 92 ∧ i + 1 < (b.length : Int) ∧ byt b (i + 1) ≠ 10 then endL b q m (i + 2)
    else endL b q m (i + 1)
theorem endL_fuel (b : List UInt8) (q : Int) : ∀ (m m' : Nat) (i : Int), (b.length : Int) - i ≤ m → (b.length : Int) - i ≤ m' → endL b q m i = endL b q m' i
  | 0, 0, i, h, h' => rfl
  | 0, m' + 1, i, h, h' => by unfold endL; rw [if_pos (by omega)]
  | m + 1, 0, i, h, h' => by unfold endL; rw [if_pos (by omega)]
  | m + 1, m' + 1, i, h, h' => by
    unfold endL
    rw [endL_fuel b q m m' (i + 1) (by omega) (by omega), endL_fuel b q m m' (i + 2) (by omega) (by omega)]
theorem endL_bd (b : List UInt8) (q : Int) : ∀ (m : Nat) (i : Int), i ≤ (b.length : Int) → i ≤ (endL b q m i).1 ∧ (endL b q m i).1 ≤ (b.length : Int) ∧ ((endL b q m i).2 = true → i + 1 ≤ (endL b q m i).1)
  | 0, i, h => by simp [endL]; omega
  | m + 1, i, h => by
    have h1 : i < (b.length : Int) → _ := fun hh => endL_bd b q m (i + 1) (by omega)
    have h2 : i + 1 < (b.length : Int) → _ := fun hh => endL_bd b q m (i + 2) (by omega)
    unfold endL
    split
    · simp; omega
    · split
      · simp; omega
      · split
        · simp; omega
        · split
          · rename_i hh; have := h2 hh.2.2.1; refine ⟨by omega, this.2.1, fun e => ?_⟩; have := this.2.2 e; omega
          · have := h1 (by omega); refine ⟨by omega, this.2.1, fun e => ?_⟩; have := this.2.2 e; omega
theorem endL_own (b b' : List UInt8) (q at_ : Int) (h0 : 0 ≤ at_) (hl : at_ + b'.length ≤ (b.length : Int)) (hb : ∀ j : Int, 0 ≤ j → j < (b'.length : Int) → byt b' j = byt b (at_ + j)) :
    ∀ (m : Nat) (i e : Int), 0 ≤ i → endL b q m (at_ + i) = (at_ + e, true) → (e ≤ (b'.length : Int) → endL b' q m i = (e, true)) ∧ ((b'.length : Int) < e → (endL b' q m i).2 = false)
  | 0, i, e, hi, h => by simp [endL] at h
  | m + 1, i, e, hi, h => by
    have hbd := endL_bd b q m (at_ + i + 2)
    have hbd1 := endL_bd b q m (at_ + i + 1)
    unfold endL at h
    split at h
    · simp at h
    · rename_i hn
      have short : (b'.length : Int) ≤ i → endL b' q (m + 1) i = ((b'.length : Int), false) := fun hh => by unfold endL; rw [if_pos hh]
      have short' : (b'.length : Int) ≤ i + 1 → endL b' q m (i + 1) = ((b'.length : Int), false) := fun hh => by
        cases m with
        | zero => rfl
        | succ m => unfold endL; rw [if_pos hh]
      split at h
      · rename_i hq
        have he : at_ + i + 1 = at_ + e := congrArg Prod.fst h
        have he : e = i + 1 := by omega
        subst he
        refine ⟨fun hh => ?_, fun hh => ?_⟩
        · unfold endL
          rw [if_neg (by omega), if_pos (by rw [hb i hi (by omega)]; exact hq)]
        · rw [short (by omega)]
      · rename_i hq
        split at h
        · simp at h
        · rename_i hnl
          split at h
          · rename_i hes
            have e2 : at_ + i + 2 = at_ + (i + 2) := by omega
            have hb2 := hbd (by omega)
            rw [h] at hb2
            have hge := hb2.2.2 rfl
            simp only at hge
            rw [e2] at h
            have ih := endL_own b b' q at_ h0 hl hb m (i + 2) e (by omega) h
            have e3 : at_ + i + 1 = at_ + (i + 1) := by omega
            refine ⟨fun hh => ?_, fun hh => ?_⟩
            · have hi1 := hb i hi (by omega)
              have hi2 := hb (i + 1) (by omega) (by omega)
              unfold endL
              rw [if_neg (by omega), if_neg (by rw [hi1]; exact hq), if_neg (by rw [hi1]; exact hnl), if_pos ⟨hes.1, by rw [hi1]; exact hes.2.1, by omega, by rw [hi2, ← e3]; exact hes.2.2.2⟩]
              exact ih.1 hh
            · by_cases hlt : (b'.length : Int) ≤ i
              · rw [short hlt]
              · have hi1 := hb i hi (by omega)
                unfold endL
                rw [if_neg hlt, if_neg (by rw [hi1]; exact hq), if_neg (by rw [hi1]; exact hnl)]
                by_cases hlt2 : i + 1 < (b'.length : Int)
                · have hi2 := hb (i + 1) (by omega) hlt2
                  rw [if_pos ⟨hes.1, by rw [hi1]; exact hes.2.1, hlt2, by rw [hi2, ← e3]; exact hes.2.2.2⟩]
                  exact ih.2 hh
                · rw [if_neg (fun hx => hlt2 hx.2.2.1), short' (by omega)]
          · rename_i hes
            have e2 : at_ + i + 1 = at_ + (i + 1) := by omega
            rw [e2] at h
            have ih := endL_own b b' q at_ h0 hl hb m (i + 1) e (by omega) h
            by_cases hlt : (b'.length : Int) ≤ i
            · have hb2 := hbd1 (by omega)
              rw [e2, h] at hb2
              have hge := hb2.2.2 rfl
              simp only at hge
              exact ⟨fun hh => by omega, fun hh => by rw [short hlt]⟩
            · have hi1 := hb i hi (by omega)
              have st : endL b' q (m + 1) i = endL b' q m (i + 1) := by
                rw [endL]
                rw [if_neg hlt, if_neg (by rw [hi1]; exact hq), if_neg (by rw [hi1]; exact hnl), if_neg]
                rintro ⟨x1, x2, x3, x4⟩
                have hi2 := hb (i + 1) (by omega) x3
                exact hes ⟨x1, by rw [← hi1]; exact x2, by omega, by rw [e2, ← hi2]; exact x4⟩
              rw [st]
              exact ih
def isQ (c : Int) : Prop := c = 39 ∨ c = 34 ∨ c = 96
instance (c : Int) : Decidable (isQ c) := by unfold isQ; infer_instance
def endF (b : List UInt8) (at_ : Int) : Int × Bool := endL b (byt b at_) b.length (at_ + 1)
/-- A literal at a place: its kind, its size, the error's number. -/
def scanF (b : List UInt8) (at_ : Int) : Int × Int × Int :=
  if at_ < 0 ∨ (b.length : Int) ≤ at_ ∨ ¬ isQ (byt b at_) then (0, 0, 7)
  else (if byt b at_ = 39 then 4 else 5, (endF b at_).1 - at_,
    if (endF b at_).2 = false then 12 else if byt b at_ = 39 then (charF (cut b at_ (endF b at_).1)).2 else (textF (cut b at_ (endF b at_).1)).2)
theorem endF_bd (b : List UInt8) (at_ : Int) (h0 : 0 ≤ at_) (h1 : at_ < (b.length : Int)) : at_ + 1 ≤ (endF b at_).1 ∧ (endF b at_).1 ≤ (b.length : Int) ∧ ((endF b at_).2 = true → at_ + 2 ≤ (endF b at_).1) := by
  have := endL_bd b (byt b at_) b.length (at_ + 1) (by omega)
  unfold endF
  refine ⟨this.1, this.2.1, fun e => ?_⟩
  have := this.2.2 e
  omega
theorem charF_2 (s : List UInt8) : 0 ≤ (charF s).2 ∧ (charF s).2 ≤ 25 := (charF_rng s).2.2
theorem scanF_rng (b : List UInt8) (at_ : Int) : 0 ≤ (scanF b at_).2.2 ∧ (scanF b at_).2.2 ≤ 25 := by
  unfold scanF
  split
  · simp
  · simp only
    split
    · simp
    · split
      · exact charF_2 _
      · exact textF_rng _
/-- What is scanned without an error stands, alone, for itself; without its last byte it is none. -/
theorem scanF_alone (b : List UInt8) (at_ : Int) (h : (scanF b at_).2.2 = 0) :
    2 ≤ (scanF b at_).2.1 ∧ 0 ≤ at_ ∧ at_ + (scanF b at_).2.1 ≤ (b.length : Int) ∧
    scanF (cut b at_ (at_ + (scanF b at_).2.1)) 0 = scanF b at_ ∧
    (scanF (cut (cut b at_ (at_ + (scanF b at_).2.1)) 0 ((scanF b at_).2.1 - 1)) 0).2.2 ≠ 0 := by
  by_cases hb : at_ < 0 ∨ (b.length : Int) ≤ at_ ∨ ¬ isQ (byt b at_)
  · unfold scanF at h
    rw [if_pos hb] at h
    simp at h
  · have hs : scanF b at_ = (if byt b at_ = 39 then 4 else 5, (endF b at_).1 - at_,
      if (endF b at_).2 = false then 12 else if byt b at_ = 39 then (charF (cut b at_ (endF b at_).1)).2 else (textF (cut b at_ (endF b at_).1)).2) := by
      unfold scanF; rw [if_neg hb]
    simp only [not_or, Int.not_lt, Int.not_le, Decidable.not_not] at hb
    obtain ⟨h0, h1, hq⟩ := hb
    have hbd := endF_bd b at_ h0 h1
    rw [hs] at h ⊢
    simp only at h ⊢
    by_cases hok : (endF b at_).2 = false
    · rw [if_pos hok] at h; omega
    · have hok : (endF b at_).2 = true := by simpa using hok
      have h2 := hbd.2.2 hok
      have ee : at_ + ((endF b at_).1 - at_) = (endF b at_).1 := by omega
      rw [ee]
      generalize hE : (endF b at_).1 = E at *
      have hend : endL b (byt b at_) b.length (at_ + 1) = (at_ + (E - at_), true) := by
        have : endF b at_ = (E, true) := by rw [← hE, ← hok]
        unfold endF at this
        rw [this]
        congr 1; omega
      have hcl := cut_lenI b at_ E h0 (by omega) (by omega)
      have own := endL_own b (cut b at_ E) (byt b at_) at_ h0 (by omega) (fun j hj hj' => cut_byt b at_ E j h0 (by omega) (by omega) hj (by omega)) b.length 1 (E - at_) (by decide) hend
      have cc : cut (cut b at_ E) 0 (E - at_ - 1) = cut b at_ (E - 1) := by
        rw [cut_cut b at_ E 0 (E - at_ - 1) h0 (by omega) (by decide) (by omega) (by omega)]
        congr 1 <;> omega
      have hcl2 := cut_lenI b at_ (E - 1) h0 (by omega) (by omega)
      have own2 := endL_own b (cut b at_ (E - 1)) (byt b at_) at_ h0 (by omega) (fun j hj hj' => cut_byt b at_ (E - 1) j h0 (by omega) (by omega) hj (by omega)) b.length 1 (E - at_) (by decide) hend
      have b0 : byt (cut b at_ E) 0 = byt b at_ := by have := cut_byt b at_ E 0 h0 (by omega) (by omega) (by decide) (by omega); rwa [Int.add_zero] at this
      have b02 : byt (cut b at_ (E - 1)) 0 = byt b at_ := by have := cut_byt b at_ (E - 1) 0 h0 (by omega) (by omega) (by decide) (by omega); rwa [Int.add_zero] at this
      have e1 : endF (cut b at_ E) 0 = (E - at_, true) := by
        unfold endF
        rw [b0, endL_fuel _ _ _ b.length _ (by omega) (by omega)]
        exact own.1 (by omega)
      have e2 : (endF (cut b at_ (E - 1)) 0).2 = false := by
        unfold endF
        rw [b02, endL_fuel _ _ _ b.length _ (by omega) (by omega)]
        exact own2.2 (by omega)
      refine ⟨by omega, h0, by omega, ?_, ?_⟩
      · unfold scanF
        have c0 : cut (cut b at_ E) 0 (E - at_) = cut b at_ E := by rw [cut_cut b at_ E 0 (E - at_) h0 (by omega) (by decide) (by omega) (by omega)]; congr 1 <;> omega
        rw [if_neg (by rw [b0]; simp only [not_or, Int.not_lt, Int.not_le, Decidable.not_not]; exact ⟨by omega, by omega, hq⟩), b0, e1]
        simp only [Int.sub_zero, Bool.true_eq_false, if_false, hok]
        rw [c0]
      · rw [cc]
        unfold scanF
        rw [if_neg (by rw [b02]; simp only [not_or, Int.not_lt, Int.not_le, Decidable.not_not]; exact ⟨by omega, by omega, hq⟩)]
        simp only
        rw [if_pos e2]
        decide
end Go.Proofs.YtjgjbdphjccpcaaDoor.Pure
