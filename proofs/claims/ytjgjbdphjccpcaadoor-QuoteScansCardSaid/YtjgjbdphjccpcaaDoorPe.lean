/-
  Chapter 10, plain: the reference's escapes answer as the implementation's.
-/
import Derived.Test.YtjgjbdphjccpcaaDoorPd
namespace Go.Proofs.YtjgjbdphjccpcaaDoor.Pure
open Go Abs
set_option linter.unusedVariables false

def b2i (b : Bool) : Int := if b then 1 else 0
/-- What the reference says of an escape. -/
def escR (t : Int × Bool × Int) : Int × Int × Int := (t.1, b2i t.2.1, t.2.2)
theorem e_l2 (s : List UInt8) (c : Bool) (hs : s.length ≤ 100000) (hl : 2 ≤ s.length) (r : Int × Int × Int)
    (h1 : c = true → r = (byt s 1, 1, 2))
    (h2 : c = false → r = escR (if byt s 1 = 120 then esc1F s 2 2 16 255 else if byt s 1 = 117 then runeR (esc1F s 2 4 16 1114111) else if byt s 1 = 85 then runeR (esc1F s 2 8 16 1114111) else esc1F s 1 3 8 255)) :
    Ev (fun k => cavilref10_Escape.go k (.l2 s c)) r := by
  refine Ev.succ (f := fun k => cavilref10_Escape.b2 k (cavilref10_Escape.go k) s c) ?_ (fun k => rfl)
  simp only [cavilref10_Escape.b2]
  have hi : inB 1 s.length = true := inB_iff.2 (by omega)
  have hb0 := byt_lo s 1
  have hb1 := byt_hi s 1
  have l3 : ∀ (v : Int) (q : Bool), Ev (fun k => cavilref10_Escape.go k (.l3 v q)) (if q = true then (v, 0, 6) else (0, 0, 0)) := by
    intro v q
    refine Ev.succ (f := fun k => cavilref10_Escape.b3 k (cavilref10_Escape.go k) v q) ?_ (fun k => rfl)
    simp only [cavilref10_Escape.b3]
    cases q <;> exact Ev.ret
  have l4 : ∀ (v : Int) (q : Bool), Ev (fun k => cavilref10_Escape.go k (.l4 v q)) (if q = true then (v, 0, 10) else (0, 0, 0)) := by
    intro v q
    refine Ev.succ (f := fun k => cavilref10_Escape.b4 k (cavilref10_Escape.go k) v q) ?_ (fun k => rfl)
    simp only [cavilref10_Escape.b4]
    cases q <;> exact Ev.ret
  -- a number, seen from both sides
  have key : ∀ (i n : Nat) (b mx : Int), 8 ≤ b → (if s.length < i + n then (-1 : Int) else (num s b n i 0).getD (-1)) = -1 ∧ esc1F s i n b mx = (0, false, 0) ∨
      ∃ w, 0 ≤ w ∧ w < b ^ n ∧ (if s.length < i + n then (-1 : Int) else (num s b n i 0).getD (-1)) = w ∧ ((esc1F s i n b mx = (w, mx == 255, (i : Int) + n) ∧ w ≤ mx) ∨ (esc1F s i n b mx = (0, false, 0) ∧ (w > mx ∨ w ≥ 1073741824))) := by
    intro i n b mx hb
    unfold esc1F
    by_cases hlt : s.length < i + n
    · rw [if_pos hlt, if_pos hlt]; exact .inl ⟨rfl, rfl⟩
    · rw [if_neg hlt, if_neg hlt]
      have hn := numL_num s b hb n i 0 (by omega)
      cases hL : numL s b n i 0 with
      | none =>
        cases hN : num s b n i 0 with
        | none => exact .inl ⟨rfl, rfl⟩
        | some w =>
          have h1 := num_ge s b (by omega) n i 0 w (by omega) hN
          have h2 := num_lt s b (by omega) n i 0 w (by omega) hN
          exact .inr ⟨w, h1, by omega, rfl, .inr ⟨rfl, .inr (hn.2 hL w hN)⟩⟩
      | some v =>
        have hN := hn.1 v hL
        have h1 := num_ge s b (by omega) n i 0 v (by omega) hN
        have h2 := num_lt s b (by omega) n i 0 v (by omega) hN
        rw [hN]
        refine .inr ⟨v, h1, by omega, rfl, ?_⟩
        by_cases hv : v > mx
        · simp only [hv, if_true]; exact .inr ⟨trivial, .inl trivial⟩
        · simp only [hv, if_false]; exact .inl ⟨trivial, by omega⟩
  cases c with
  | true => rw [h1 rfl]; exact Ev.tt rfl (Ev.gk hi (Ev.ret' (by rw [show wr .i64 (byt s 1) = _ from w64 (by omega) (by omega)])))
  | false =>
    rw [h2 rfl]
    refine Ev.ff rfl (Ev.gk hi (Ev.bif (fun h => ?_) (fun h => Ev.gk hi (Ev.bif (fun h' => ?_) (fun h' => Ev.gk hi (Ev.bif (fun h'' => ?_) (fun h'' => ?_)))))))
    · rw [if_pos (by simpa using h)]
      refine Ev.bind (number_ev s 2 2 16 (by decide) hs (by decide) (by decide)) ?_
      rcases key 2 2 16 255 (by decide) with ⟨e1, e2⟩ | ⟨w, w0, w1, e1, ⟨e2, e3⟩ | ⟨e2, e3⟩⟩
      · rw [e1, e2]; exact Ev.ff rfl Ev.ret
      · rw [e1, e2]; exact Ev.tt (by simpa using w0) (Ev.ret' rfl)
      · omega
    · rw [if_neg (by simpa using h), if_pos (by simpa using h')]
      refine Ev.bind (number_ev s 2 4 16 (by decide) hs (by decide) (by decide)) ?_
      rcases key 2 4 16 1114111 (by decide) with ⟨e1, e2⟩ | ⟨w, w0, w1, e1, ⟨e2, e3⟩ | ⟨e2, e3⟩⟩
      · rw [e1, e2]; exact Ev.ff rfl ((l3 _ _).to rfl)
      · rw [e1, e2]
        refine Ev.tt (by simpa using w0) (Ev.bind (rune_ev w) ((l3 _ _).to ?_))
        unfold runeR
        by_cases hv : vld w = true
        · simp [hv, escR, b2i]
        · simp [hv, escR, b2i]
      · rw [e1, e2]
        refine Ev.tt (by simpa using w0) (Ev.bind (rune_ev w) ((l3 _ _).to ?_))
        have hv : ¬ vld w = true := by rw [vld_iff]; omega
        rw [if_neg hv]
        rfl
    · rw [if_neg (by simpa using h), if_neg (by simpa using h'), if_pos (by simpa using h'')]
      refine Ev.bind (number_ev s 2 8 16 (by decide) hs (by decide) (by decide)) ?_
      rcases key 2 8 16 1114111 (by decide) with ⟨e1, e2⟩ | ⟨w, w0, w1, e1, ⟨e2, e3⟩ | ⟨e2, e3⟩⟩
      · rw [e1, e2]; exact Ev.ff rfl ((l4 _ _).to rfl)
      · rw [e1, e2]
        refine Ev.tt (by simpa using w0) (Ev.bind (rune_ev w) ((l4 _ _).to ?_))
        unfold runeR
        by_cases hv : vld w = true
        · simp [hv, escR, b2i]
        · simp [hv, escR, b2i]
      · rw [e1, e2]
        refine Ev.tt (by simpa using w0) (Ev.bind (rune_ev w) ((l4 _ _).to ?_))
        have hv : ¬ vld w = true := by rw [vld_iff]; omega
        rw [if_neg hv]
        rfl
    · rw [if_neg (by simpa using h), if_neg (by simpa using h'), if_neg (by simpa using h'')]
      refine Ev.bind (number_ev s 1 3 8 (by decide) hs (by decide) (by decide)) ?_
      rcases key 1 3 8 255 (by decide) with ⟨e1, e2⟩ | ⟨w, w0, w1, e1, ⟨e2, e3⟩ | ⟨e2, e3⟩⟩
      · rw [e1, e2]; exact Ev.ff rfl Ev.ret
      · rw [e1, e2]; exact Ev.tt (by simpa using w0) (Ev.tt (by simp; omega) (Ev.ret' rfl))
      · rw [e1, e2]; exact Ev.tt (by simpa using w0) (Ev.ff (by simp; omega) (Ev.ret' rfl))
def letE : List UInt8 := [97, 98, 102, 110, 114, 116, 118]
def valE : List Int := [7, 8, 12, 10, 13, 9, 11]
theorem e_step (s : List UInt8) (q : Int) (hl : 2 ≤ s.length) (i : Nat) (hi : i < 7) (r : Int × Int × Int) (h1 : byt letE i = byt s 1 → r = (valE.getD i 0, 1, 2))
    (h2 : byt letE i ≠ byt s 1 → Ev (fun k => cavilref10_Escape.go k (.l1 valE s q letE ((i + 1 : Nat) : Int))) r) : Ev (fun k => cavilref10_Escape.go k (.l1 valE s q letE (i : Int))) r := by
  refine Ev.succ (f := fun k => cavilref10_Escape.b1 k (cavilref10_Escape.go k) valE s q letE i) ?_ (fun k => rfl)
  simp only [cavilref10_Escape.b1]
  have hL : letE.length = 7 := rfl
  have hV : valE.length = 7 := rfl
  refine Ev.tt (by simp [hL]; omega) (Ev.gk (inB_iff.2 (by omega)) (Ev.gk (inB_iff.2 (by omega)) (Ev.bif (fun h => ?_) (fun h => ?_))))
  · rw [h1 (by simpa using h)]
    exact Ev.gk (inB_iff.2 (by omega)) (Ev.ret' (by rw [Int.toNat_natCast]))
  · have e : wr .i64 ((i : Int) + 1) = ((i + 1 : Nat) : Int) := (w64 (by omega) (by omega)).trans (by omega)
    rw [e]
    exact h2 (by simpa using h)
theorem refEscape_ev (s : List UInt8) (q : Int) (hq : 0 < q) (hs : s.length ≤ 100000) : Ev (fun k => cavilref10_Escape.m k s q) (escR (escF s q)) := by
  refine Ev.succ (f := fun k => cavilref10_Escape.b0 k (cavilref10_Escape.go k) s q) ?_ (fun k => rfl)
  simp only [cavilref10_Escape.b0]
  refine Ev.bif (fun h => ?_) (fun h => ?_)
  · have := of_decide_eq_true h
    unfold escF
    rw [if_pos (by omega)]
    exact Ev.ret
  · have := of_decide_eq_false h
    have hl : 2 ≤ s.length := by omega
    have hlt : ¬ s.length < 2 := by omega
    show Ev (fun k => cavilref10_Escape.go k (.l1 valE s q letE ((0 : Nat) : Int))) _
    have t0 : byt letE (0 : Nat) = 97 := by decide
    have t1 : byt letE (1 : Nat) = 98 := by decide
    have t2 : byt letE (2 : Nat) = 102 := by decide
    have t3 : byt letE (3 : Nat) = 110 := by decide
    have t4 : byt letE (4 : Nat) = 114 := by decide
    have t5 : byt letE (5 : Nat) = 116 := by decide
    have t6 : byt letE (6 : Nat) = 118 := by decide
    refine e_step s q hl 0 (by decide) _ (fun h => ?_) (fun h0 => e_step s q hl 1 (by decide) _ (fun h => ?_) (fun h1 => e_step s q hl 2 (by decide) _ (fun h => ?_) (fun h2 => e_step s q hl 3 (by decide) _ (fun h => ?_) (fun h3 => e_step s q hl 4 (by decide) _ (fun h => ?_) (fun h4 => e_step s q hl 5 (by decide) _ (fun h => ?_) (fun h5 => e_step s q hl 6 (by decide) _ (fun h => ?_) (fun h6 => ?_)))))))
    · rw [t0] at h; unfold escF; rw [if_neg hlt, ← h]; rfl
    · rw [t1] at h; unfold escF; rw [if_neg hlt, ← h]; rfl
    · rw [t2] at h; unfold escF; rw [if_neg hlt, ← h]; rfl
    · rw [t3] at h; unfold escF; rw [if_neg hlt, ← h]; rfl
    · rw [t4] at h; unfold escF; rw [if_neg hlt, ← h]; rfl
    · rw [t5] at h; unfold escF; rw [if_neg hlt, ← h]; rfl
    · rw [t6] at h; unfold escF; rw [if_neg hlt, ← h]; rfl
    · rw [t0] at h0; rw [t1] at h1; rw [t2] at h2; rw [t3] at h3; rw [t4] at h4; rw [t5] at h5; rw [t6] at h6
      have hF : simF (byt s 1) q = if byt s 1 = 92 ∨ byt s 1 = q then byt s 1 else 0 := by
        unfold simF
        rw [if_neg (by omega), if_neg (by omega), if_neg (by omega), if_neg (by omega), if_neg (by omega), if_neg (by omega), if_neg (by omega)]
      refine Ev.succ (f := fun k => cavilref10_Escape.b1 k (cavilref10_Escape.go k) valE s q letE (7 : Nat)) ?_ (fun k => rfl)
      simp only [cavilref10_Escape.b1]
      have hi : inB 1 s.length = true := inB_iff.2 (by omega)
      refine Ev.ff (by simp [letE]) (Ev.gk hi (Ev.bif (fun h => ?_) (fun h => ?_)))
      · have h92 : byt s 1 = 92 := by simpa using h
        refine e_l2 s true hs hl _ (fun _ => ?_) (fun h => by cases h)
        unfold escF
        have hS : simF (byt s 1) q = byt s 1 := by rw [hF, if_pos (Or.inl h92)]
        rw [if_neg hlt, hS, if_pos (by omega)]
        rfl
      · have h92 : ¬ byt s 1 = 92 := by simpa using h
        refine Ev.gk hi ?_
        by_cases hc : byt s 1 = q
        · rw [show (byt s 1 == q) = true by simpa using hc]
          refine e_l2 s true hs hl _ (fun _ => ?_) (fun h => by cases h)
          unfold escF
          have hS : simF (byt s 1) q = byt s 1 := by rw [hF, if_pos (Or.inr hc)]
          rw [if_neg hlt, hS, if_pos (by omega)]
          rfl
        · rw [show (byt s 1 == q) = false by simpa using hc]
          refine e_l2 s false hs hl _ (fun h => by cases h) (fun _ => ?_)
          unfold escF
          have hS : simF (byt s 1) q = 0 := by rw [hF, if_neg (by omega)]
          rw [if_neg hlt, if_neg (by omega)]
end Go.Proofs.YtjgjbdphjccpcaaDoor.Pure
