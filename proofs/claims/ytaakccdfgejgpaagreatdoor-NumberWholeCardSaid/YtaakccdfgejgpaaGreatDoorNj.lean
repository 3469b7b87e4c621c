/-
  Chapter 09, plain: where a literal stands.
-/
import Derived.Test.YtaakccdfgejgpaaGreatDoorNi
namespace Go.Proofs.YtaakccdfgejgpaaGreatDoor.Pure
open Go Abs
set_option linter.unusedVariables false
set_option linter.unusedSimpArgs false

def startB (b : List UInt8) (at_ : Int) : Bool := decide (0 ≤ at_) && (decide (at_ < (b.length : Int)) && (dig (byt b at_) || (decide (byt b at_ = 46) && (decide (at_ + 1 < (b.length : Int)) && dig (byt b (at_ + 1))))))
def signB (b : List UInt8) (at_ : Int) (h : Bool) (e : Int) : Bool := (decide (byt b e = 43) || decide (byt b e = 45)) && (!h && (decide (at_ < e) && (decide (byt b (e - 1) = 101) || decide (byt b (e - 1) = 69))))
def endB (b : List UInt8) (at_ : Int) (h : Bool) : Nat → Int → Int
  | 0, e => e
  | m + 1, e => if (b.length : Int) ≤ e then e else if (isW (byt b e) || signB b at_ h e) = true then endB b at_ h m (e + 1) else e
def hexB (b : List UInt8) (at_ : Int) : Bool := decide (baseN (cut b at_ (b.length : Int)) = 16)
/-- The literal at a place; empty: there is none. -/
def bodyF (b : List UInt8) (at_ : Int) : List UInt8 := if startB b at_ = true then cut b at_ (endB b at_ (hexB b at_) b.length at_) else []
theorem startB_iff (b : List UInt8) (at_ : Int) : startB b at_ = true ↔ 0 ≤ at_ ∧ at_ < (b.length : Int) ∧ (dig (byt b at_) = true ∨ (byt b at_ = 46 ∧ at_ + 1 < (b.length : Int) ∧ dig (byt b (at_ + 1)) = true)) := by simp [startB]
theorem endB_bd (b : List UInt8) (at_ : Int) (h : Bool) : ∀ (m : Nat) (e : Int), e ≤ (b.length : Int) → e ≤ endB b at_ h m e ∧ endB b at_ h m e ≤ (b.length : Int)
  | 0, e, he => ⟨Int.le_refl _, he⟩
  | m + 1, e, he => by
    unfold endB
    split
    · omega
    · split
      · have := endB_bd b at_ h m (e + 1) (by omega); omega
      · omega
theorem endB_stop (b : List UInt8) (at_ : Int) (h : Bool) : ∀ (m : Nat) (e : Int), (b.length : Int) - e ≤ m → endB b at_ h m e < (b.length : Int) → isW (byt b (endB b at_ h m e)) = false
  | 0, e, he, hl => by unfold endB at hl; omega
  | m + 1, e, he, hl => by
    unfold endB at hl ⊢
    by_cases h1 : (b.length : Int) ≤ e
    · rw [if_pos h1] at hl; omega
    · rw [if_neg h1] at hl ⊢
      by_cases h2 : (isW (byt b e) || signB b at_ h e) = true
      · rw [if_pos h2] at hl ⊢
        exact endB_stop b at_ h m (e + 1) (by omega) hl
      · rw [if_neg h2]
        simp only [Bool.or_eq_true, not_or, Bool.not_eq_true] at h2
        exact h2.1
theorem endB_first (b : List UInt8) (at_ : Int) (h : Bool) (hs : startB b at_ = true) : at_ + 1 ≤ endB b at_ h b.length at_ := by
  obtain ⟨h0, h1, h2⟩ := (startB_iff _ _).1 hs
  obtain ⟨m, hm⟩ : ∃ m, b.length = m + 1 := ⟨b.length - 1, by omega⟩
  have hw : isW (byt b at_) = true := by
    unfold isW
    rcases h2 with h2 | h2
    · simp [h2]
    · simp [h2.1]
  rw [hm, endB, if_neg (by omega), hw, Bool.true_or, if_pos rfl]
  exact (endB_bd b at_ h m (at_ + 1) (by omega)).1
theorem base_cut (b : List UInt8) (at_ e : Int) (h0 : 0 ≤ at_) (h1 : at_ + 2 ≤ e) (h2 : e ≤ (b.length : Int)) : baseN (cut b at_ (at_ + 2)) = baseN (cut b at_ (b.length : Int)) := by
  have l1 := cut_lenI b at_ (at_ + 2) h0 (by omega) (by omega)
  have l2 := cut_lenI b at_ b.length h0 (by omega) (by omega)
  unfold baseN
  rw [cut_byt b at_ (at_ + 2) 0 h0 (by omega) (by omega) (by decide) (by omega), cut_byt b at_ (at_ + 2) 1 h0 (by omega) (by omega) (by decide) (by omega), cut_byt b at_ b.length 0 h0 (by omega) (by omega) (by decide) (by omega), cut_byt b at_ b.length 1 h0 (by omega) (by omega) (by decide) (by omega)]
  have e1 : ¬ (cut b at_ (at_ + 2)).length < 2 := by omega
  have e2 : ¬ (cut b at_ b.length).length < 2 := by omega
  simp only [e1, e2, false_or]
theorem body_go (b : List UInt8) (at_ : Int) (hs : b.length ≤ 100000) (hst : startB b at_ = true) : ∀ (m : Nat) (e : Int), at_ ≤ e → e ≤ (b.length : Int) → (b.length : Int) - e ≤ m →
    Ev (fun k => number_body.go k (.l2 b at_ e)) (cut b at_ (endB b at_ (hexB b at_) m e))
  | 0, e, h1, h2, h3 => by
    obtain ⟨h0, _, _⟩ := (startB_iff _ _).1 hst
    refine Ev.succ (f := fun k => number_body.b2 k (number_body.go k) b at_ e) ?_ (fun k => rfl)
    simp only [number_body.b2]
    exact Ev.ff (decide_eq_false (by omega)) (Ev.gk (cutB_iff.2 (by omega)) Ev.ret)
  | m + 1, e, h1, h2, h3 => by
    obtain ⟨h0, hl, hd⟩ := (startB_iff _ _).1 hst
    refine Ev.succ (f := fun k => number_body.b2 k (number_body.go k) b at_ e) ?_ (fun k => rfl)
    simp only [number_body.b2, getD_byt]
    unfold endB
    by_cases hle : (b.length : Int) ≤ e
    · rw [if_pos hle]
      exact Ev.ff (decide_eq_false (by omega)) (Ev.gk (cutB_iff.2 (by omega)) Ev.ret)
    · rw [if_neg hle]
      have hc := byt_lo' b e
      have hp := byt_lo' b (e - 1)
      have e1 : wr .i64 (e + 1) = e + 1 := v64 (by omega) (by omega)
      have e2 : wr .i64 (e - 1) = e - 1 := v64 (by omega) (by omega)
      have e3 : wr .i64 (at_ + 2) = at_ + 2 := v64 (by omega) (by omega)
      have ih := body_go b at_ hs hst m (e + 1) (by omega) (by omega) (by omega)
      rw [e2, e3]
      have l3 : ∀ q, q = signB b at_ (hexB b at_) e → Ev (fun k => number_body.go k (.l3 b at_ e (byt b e) q)) (cut b at_ (if (isW (byt b e) || signB b at_ (hexB b at_) e) = true then endB b at_ (hexB b at_) m (e + 1) else e)) := by
        intro q hq
        refine Ev.succ (f := fun k => number_body.b3 k (number_body.go k) b at_ e (byt b e) q) ?_ (fun k => rfl)
        simp only [number_body.b3]
        rw [← hq, e1]
        refine Ev.bind (word_ev _ hc.1 hc.2) (Ev.bif (fun hw => Ev.bif (fun hh => ?_) (fun hh => ?_)) (fun hw => ?_))
        · have hw : isW (byt b e) = false := by simpa using hw
          have hh : q = false := by simpa using hh
          rw [hw, hh, Bool.false_or, if_neg (by decide)]
          exact Ev.gk (cutB_iff.2 (by omega)) Ev.ret
        · have hh : q = true := by simpa using hh
          rw [hh, Bool.or_true, if_pos rfl]
          exact ih
        · have hw : isW (byt b e) = true := by simpa using hw
          rw [hw, Bool.true_or, if_pos rfl]
          exact ih
      have sgn : (byt b e = 43 ∨ byt b e = 45) → Ev (fun k => bif (decide (e > at_)) then gk (inB (e - 1) b.length) (bif ((Go.bits .or .u8 (byt b (e - 1)) 32) == 101) then gk (cutB at_ (if e < at_ + 2 then e else at_ + 2) b.length) (bindO (number_base.m k (cut b at_ (if e < at_ + 2 then e else at_ + 2))) fun r1 => number_body.go k (.l3 b at_ e (byt b e) (r1 != 16))) else number_body.go k (.l3 b at_ e (byt b e) false)) else number_body.go k (.l3 b at_ e (byt b e) false)) (cut b at_ (if (isW (byt b e) || signB b at_ (hexB b at_) e) = true then endB b at_ (hexB b at_) m (e + 1) else e)) := by
        intro hcc
        have hcb : (decide (byt b e = 43) || decide (byt b e = 45)) = true := by rcases hcc with h | h <;> simp [h]
        have hs1 : signB b at_ (hexB b at_) e = (!hexB b at_ && (decide (at_ < e) && (decide (byt b (e - 1) = 101) || decide (byt b (e - 1) = 69)))) := by
          unfold signB; rw [hcb, Bool.true_and]
        refine Ev.bif (fun hg => Ev.gk (inB_iff.2 (by have := of_decide_eq_true hg; omega)) ?_) (fun hg => l3 _ ?_)
        · have hg := of_decide_eq_true hg
          rw [or_e _ hp.1 hp.2]
          refine Ev.bif (fun he => ?_) (fun he => l3 _ ?_)
          · have hne : e ≠ at_ + 1 := by
              intro hh
              subst hh
              rw [Int.add_sub_cancel] at he
              simp only [Bool.or_eq_true, decide_eq_true_eq] at he
              rcases hd with hd | hd
              · have := (dig_iff _).1 hd; omega
              · omega
            rw [if_neg (by omega)]
            refine Ev.gk (cutB_iff.2 (by omega)) (Ev.bind (base_ev _) (l3 _ ?_))
            rw [hs1, he, decide_eq_true (show at_ < e by omega), base_cut b at_ e h0 (by omega) h2]
            unfold hexB
            simp only [Bool.and_true]
            rw [bne, beq_dec]
            congr 1
            rw [decide_eq_decide]
            omega
          · rw [hs1, he]
            simp
        · have hg := of_decide_eq_false hg
          rw [hs1, decide_eq_false (by omega)]
          simp
      refine Ev.tt (decide_eq_true (by omega)) (Ev.gk (inB_iff.2 (by omega)) (Ev.bif (fun hc => ?_) (fun hc => Ev.bif (fun hc' => ?_) (fun hc' => l3 _ ?_))))
      · exact sgn (.inl (by simpa using hc))
      · exact sgn (.inr (by simpa using hc'))
      · have h1 : ¬ byt b e = 43 := by simpa using hc
        have h2 : ¬ byt b e = 45 := by simpa using hc'
        unfold signB
        simp [h1, h2]
theorem body_ev (b : List UInt8) (at_ : Int) (hs : b.length ≤ 100000) : Ev (fun k => number_body.m k b at_) (bodyF b at_) := by
  have l1 : ∀ q, q = !startB b at_ → Ev (fun k => number_body.go k (.l1 b at_ q)) (bodyF b at_) := by
    intro q hq
    refine Ev.succ (f := fun k => number_body.b1 k (number_body.go k) b at_ q) ?_ (fun k => rfl)
    simp only [number_body.b1]
    unfold bodyF
    refine Ev.bif (fun h => ?_) (fun h => ?_)
    · rw [h] at hq
      have : startB b at_ = false := by simpa using hq.symm
      rw [if_neg (by rw [this]; decide)]
      exact Ev.ret
    · rw [h] at hq
      have hst : startB b at_ = true := by simpa using hq.symm
      obtain ⟨h0, hl, hd⟩ := (startB_iff _ _).1 hst
      rw [if_pos hst]
      exact body_go b at_ hs hst b.length at_ (Int.le_refl _) (by omega) (by omega)
  refine Ev.succ (f := fun k => number_body.b0 k (number_body.go k) b at_) ?_ (fun k => rfl)
  simp only [number_body.b0, getD_byt]
  refine Ev.bif (fun h => l1 _ ?_) (fun h => Ev.bif (fun h' => l1 _ ?_) (fun h' => ?_))
  · have := of_decide_eq_true h
    unfold startB
    rw [decide_eq_false (by omega)]; rfl
  · have := of_decide_eq_true h'
    unfold startB
    rw [decide_eq_false (show ¬ at_ < (b.length : Int) by omega)]; simp
  · have g0 := of_decide_eq_false h
    have g1 := of_decide_eq_false h'
    have e1 : wr .i64 (at_ + 1) = at_ + 1 := v64 (by omega) (by omega)
    have e2 : wr .i64 ((b.length : Int) - 1) = (b.length : Int) - 1 := v64 (by omega) (by omega)
    rw [e1, e2]
    have hs0 : startB b at_ = (dig (byt b at_) || (decide (byt b at_ = 46) && (decide (at_ + 1 < (b.length : Int)) && dig (byt b (at_ + 1))))) := by
      unfold startB
      rw [decide_eq_true (show 0 ≤ at_ by omega), decide_eq_true (show at_ < (b.length : Int) by omega)]
      rfl
    rw [hs0] at l1
    refine Ev.gk (inB_iff.2 (by omega)) (Ev.bind (ndigit_ev _) (Ev.bif (fun hd => Ev.gk (inB_iff.2 (by omega)) (Ev.bif (fun hc => l1 _ ?_) (fun hc => Ev.bif (fun he => l1 _ ?_) (fun he => Ev.gk (inB_iff.2 ?_) (Ev.bind (ndigit_ev _) (l1 _ ?_)))))) (fun hd => l1 _ ?_)))
    · have hd : dig (byt b at_) = false := by simpa using hd
      have hc : byt b at_ ≠ 46 := by simpa using hc
      simp [hd, hc]
    · have hd : dig (byt b at_) = false := by simpa using hd
      have he : at_ = (b.length : Int) - 1 := by simpa using he
      rw [hd, decide_eq_false (show ¬ at_ + 1 < (b.length : Int) by omega)]
      simp
    · have he : ¬ at_ = (b.length : Int) - 1 := by simpa using he
      omega
    · have hd : dig (byt b at_) = false := by simpa using hd
      have hc : byt b at_ = 46 := by simpa using hc
      have he : ¬ at_ = (b.length : Int) - 1 := by simpa using he
      rw [hd, decide_eq_true hc, decide_eq_true (show at_ + 1 < (b.length : Int) by omega)]
      simp
    · have hd : dig (byt b at_) = true := by simpa using hd
      simp [hd]
end Go.Proofs.YtaakccdfgejgpaaGreatDoor.Pure
