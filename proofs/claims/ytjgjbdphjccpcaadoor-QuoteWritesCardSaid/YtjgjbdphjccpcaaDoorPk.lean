/-
  Chapter 10, plain: an interpreted string's literal, on both sides.
-/
import Derived.Test.YtjgjbdphjccpcaaDoorPj
namespace Go.Proofs.YtjgjbdphjccpcaaDoor.Pure
open Go Abs
set_option linter.unusedVariables false
set_option linter.unusedSimpArgs false

def rest (x : List UInt8) (p : Int) : List UInt8 := cut x p (x.length : Int)
def escB (t : Int × Bool × Int) : List UInt8 := if t.2.1 = true then [toU8 (wr .u8 t.1)] else enc t.1
/-- A string's body read from p on. -/
def textL (x : List UInt8) : Nat → Int → List UInt8 → List UInt8 × Int
  | 0, _, acc => (acc, 0)
  | m + 1, p, acc =>
    if p ≥ (x.length : Int) then (acc, 0)
    else if byt x p = 34 ∨ byt x p = 10 then ([], 8)
    else if byt x p = 92 then
      if (escF (rest x p) 34).2.2 = 0 then ([], 14) else textL x m (p + (escF (rest x p) 34).2.2) (acc ++ escB (escF (rest x p) 34))
    else textL x m (p + 1) (acc ++ [toU8 (byt x p)])
theorem escF_vld (s : List UInt8) (q : Int) (h : (escF s q).2.2 ≠ 0) (h' : (escF s q).2.1 = false) : vld (escF s q).1 = true := by
  have e1 : ∀ (i n : Nat) (b : Int), (esc1F s i n b 255).2.2 ≠ 0 → (esc1F s i n b 255).2.1 = true := by
    intro i n b
    unfold esc1F
    split
    · intro h; exact absurd rfl h
    · split
      · split
        · intro h; exact absurd rfl h
        · intro _; rfl
      · intro h; exact absurd rfl h
  have e2 : ∀ t, (runeR t).2.2 ≠ 0 → vld (runeR t).1 = true := by
    intro t
    unfold runeR
    split
    · intro _; assumption
    · intro h; exact absurd rfl h
  unfold escF at h h' ⊢
  split
  · rename_i g; rw [if_pos g] at h; exact absurd rfl h
  · rename_i g
    rw [if_neg g] at h h'
    split
    · rename_i g; rw [if_pos g] at h'; cases h'
    · rename_i g
      rw [if_neg g] at h h'
      split
      · rename_i g; rw [if_pos g] at h h'; rw [e1 _ _ _ h] at h'; cases h'
      · rename_i g
        rw [if_neg g] at h h'
        split
        · rename_i g; rw [if_pos g] at h h'; exact e2 _ h
        · rename_i g
          rw [if_neg g] at h h'
          split
          · rename_i g; rw [if_pos g] at h h'; exact e2 _ h
          · rename_i g; rw [if_neg g] at h h'; rw [e1 _ _ _ h] at h'; cases h'
theorem enc_le (x : Int) : (enc x).length ≤ 4 := by rw [enc_len]; repeat' split
                                                    all_goals omega
theorem escB_le (t : Int × Bool × Int) : (escB t).length ≤ 4 := by
  unfold escB
  split
  · simp
  · exact enc_le _
theorem rest_len (x : List UInt8) (p : Int) (h0 : 0 ≤ p) (h1 : p ≤ (x.length : Int)) : ((rest x p).length : Int) = x.length - p := cut_lenI x p _ h0 h1 (by omega)
theorem text_go (x : List UInt8) (hx : x.length ≤ 100000) : ∀ (m : Nat) (p : Int) (acc : List UInt8), 0 ≤ p → p ≤ (x.length : Int) → (x.length : Int) - p ≤ m → (acc.length : Int) ≤ 4 * p →
    Ev (fun k => quote_Text.go k (.l1 acc x p)) ((textL x m p acc).1, erOf (textL x m p acc).2)
  | 0, p, acc, h0, h1, hm, ha => by
    refine Ev.succ (f := fun k => quote_Text.b1 k (quote_Text.go k) acc x p) ?_ (fun k => rfl)
    simp only [quote_Text.b1]
    exact Ev.ff (by simp; omega) Ev.ret
  | m + 1, p, acc, h0, h1, hm, ha => by
    refine Ev.succ (f := fun k => quote_Text.b1 k (quote_Text.go k) acc x p) ?_ (fun k => rfl)
    simp only [quote_Text.b1]
    have hb := byt_lo x p
    have hb' := byt_hi x p
    refine Ev.bif (fun h => ?_) (fun h => ?_)
    · have hp := of_decide_eq_true h
      have hr := rest_len x p h0 h1
      have hel := escF_len (rest x p) 34
      have l2 : ∀ q, q = decide (byt x p = 34 ∨ byt x p = 10) → Ev (fun k => quote_Text.go k (.l2 acc x p (byt x p) q)) ((textL x (m + 1) p acc).1, erOf (textL x (m + 1) p acc).2) := by
        intro q hq
        refine Ev.succ (f := fun k => quote_Text.b2 k (quote_Text.go k) acc x p (byt x p) q) ?_ (fun k => rfl)
        simp only [quote_Text.b2]
        unfold textL
        rw [if_neg (by omega)]
        refine Ev.bif (fun h => ?_) (fun h => ?_)
        · rw [h] at hq
          rw [if_pos (of_decide_eq_true hq.symm)]
          exact Ev.ret
        · rw [h] at hq
          rw [if_neg (of_decide_eq_false hq.symm)]
          refine Ev.bif (fun h => ?_) (fun h => ?_)
          · rw [if_pos (by simpa using h)]
            refine Ev.gk (cutB_iff.2 (by omega)) (Ev.bind (escape_ev (rest x p) 34 (by omega)) ?_)
            refine Ev.bif (fun h => ?_) (fun h => ?_)
            · rw [if_pos (by simpa using h)]
              exact Ev.ret
            · have hz : (escF (rest x p) 34).2.2 ≠ 0 := by simpa using h
              rw [if_neg hz]
              have e1 : wr .i64 (p + (escF (rest x p) 34).2.2) = p + (escF (rest x p) 34).2.2 := w64 (by omega) (by omega)
              rw [e1]
              have hB := escB_le (escF (rest x p) 34)
              have hB2 : (escB (escF (rest x p) 34)).length ≤ 4 * (escF (rest x p) 34).2.2 := by omega
              refine Ev.bind (encode_ev _) (Ev.bif (fun h => ?_) (fun h => ?_))
              · have eB : escB (escF (rest x p) 34) = [toU8 (wr .u8 (escF (rest x p) 34).1)] := by unfold escB; rw [if_pos h]
                rw [← eB]
                refine Ev.gk (room_iff.2 (by rw [List.length_append]; omega)) ?_
                exact text_go x hx m _ _ (by omega) (by omega) (by omega) (by rw [List.length_append]; omega)
              · have hv := escF_vld _ _ hz h
                have eB : escB (escF (rest x p) 34) = (encR (escF (rest x p) 34).1).2 := by unfold escB encR; rw [if_neg (by rw [h]; decide), if_pos hv]
                rw [← eB]
                refine Ev.gk (room_iff.2 (by rw [List.length_append]; omega)) ?_
                exact text_go x hx m _ _ (by omega) (by omega) (by omega) (by rw [List.length_append]; omega)
          · rw [if_neg (by simpa using h)]
            have e1 : wr .i64 (p + 1) = p + 1 := w64 (by omega) (by omega)
            rw [e1]
            refine Ev.gk (inB_iff.2 (by omega)) (Ev.gk (room_iff.2 (by simp; omega)) ?_)
            exact text_go x hx m _ _ (by omega) (by omega) (by omega) (by simp; omega)
      refine Ev.gk (inB_iff.2 (by omega)) (Ev.bif (fun h => l2 _ ?_) (fun h => l2 _ ?_))
      · have : byt x p = 34 := by simpa using h
        simp [this]
      · have : ¬ byt x p = 34 := by simpa using h
        simp [this]
        exact beq_dec _ _
    · have hp := of_decide_eq_false h
      unfold textL
      rw [if_pos (by omega)]
      exact Ev.ret
theorem refText_go (x : List UInt8) (hx : x.length ≤ 100000) : ∀ (m : Nat) (p : Int) (acc : List UInt8), 0 ≤ p → p ≤ (x.length : Int) → (x.length : Int) - p ≤ m → (acc.length : Int) ≤ 4 * p →
    Ev (fun k => cavilref10_Text.go k (.l2 acc x p)) (textL x m p acc)
  | 0, p, acc, h0, h1, hm, ha => by
    refine Ev.succ (f := fun k => cavilref10_Text.b2 k (cavilref10_Text.go k) acc x p) ?_ (fun k => rfl)
    simp only [cavilref10_Text.b2]
    exact Ev.ff (by simp; omega) Ev.ret
  | m + 1, p, acc, h0, h1, hm, ha => by
    refine Ev.succ (f := fun k => cavilref10_Text.b2 k (cavilref10_Text.go k) acc x p) ?_ (fun k => rfl)
    simp only [cavilref10_Text.b2]
    have hb := byt_lo x p
    have hb' := byt_hi x p
    refine Ev.bif (fun h => ?_) (fun h => ?_)
    · have hp := of_decide_eq_true h
      have hr := rest_len x p h0 h1
      have hel := escF_len (rest x p) 34
      have l3 : ∀ q, q = decide (byt x p = 34 ∨ byt x p = 10) → Ev (fun k => cavilref10_Text.go k (.l3 acc x p q)) (textL x (m + 1) p acc) := by
        intro q hq
        refine Ev.succ (f := fun k => cavilref10_Text.b3 k (cavilref10_Text.go k) acc x p q) ?_ (fun k => rfl)
        simp only [cavilref10_Text.b3]
        unfold textL
        rw [if_neg (by omega)]
        have e1 : wr .i64 (p + 1) = p + 1 := w64 (by omega) (by omega)
        rw [e1]
        refine Ev.bif (fun h => ?_) (fun h => Ev.gk (inB_iff.2 (by omega)) ?_)
        · rw [h] at hq
          rw [if_pos (of_decide_eq_true hq.symm)]
          exact Ev.ret
        · rw [h] at hq
          rw [if_neg (of_decide_eq_false hq.symm)]
          refine Ev.bif (fun h => ?_) (fun h => ?_)
          · rw [if_neg (by simpa using h)]
            have ec : cut x p (p + 1) = [toU8 (byt x p)] := by
              have hl := cut_lenI x p (p + 1) (by omega) (by omega) (by omega)
              have hb0 := cut_byt x p (p + 1) 0 (by omega) (by omega) (by omega) (by omega) (by omega)
              match hc : cut x p (p + 1), hl with
              | [a], _ =>
                rw [hc] at hb0
                simp only [Int.add_zero] at hb0
                rw [← hb0]
                show [a] = [toU8 ((a.toNat : Nat) : Int)]
                rw [toU8_byt]
              | [], hl => simp at hl; omega
              | _ :: _ :: _, hl => simp at hl; omega
            rw [ec]
            refine Ev.gk (cutB_iff.2 (by omega)) (Ev.gk (roomS_iff.2 (by simp; omega)) ?_)
            exact refText_go x hx m _ _ (by omega) (by omega) (by omega) (by simp; omega)
          · rw [if_pos (by simpa using h)]
            refine Ev.gk (cutB_iff.2 (by omega)) (Ev.bind (refEscape_ev (rest x p) 34 (by decide) (by omega)) ?_)
            show Ev (fun k => bif ((escF (rest x p) 34).2.2 == 0) then some (([] : List UInt8), (14 : Int)) else bif (b2i (escF (rest x p) 34).2.1 == 1) then
              gk (roomS acc ([toU8 (wr .u8 (escF (rest x p) 34).1)] : List UInt8)) (cavilref10_Text.go k (.l2 (acc ++ ([toU8 (wr .u8 (escF (rest x p) 34).1)] : List UInt8)) x (wr .i64 (p + (escF (rest x p) 34).2.2))))
              else bindO (cavilref01_Bytes.m k (escF (rest x p) 34).1) fun r2 => gk (roomS acc r2) (cavilref10_Text.go k (.l2 (acc ++ r2) x (wr .i64 (p + (escF (rest x p) 34).2.2))))) _
            refine Ev.bif (fun h => ?_) (fun h => ?_)
            · rw [if_pos (by simpa using h)]
              exact Ev.ret
            · have hz : (escF (rest x p) 34).2.2 ≠ 0 := by simpa using h
              rw [if_neg hz]
              have e1 : wr .i64 (p + (escF (rest x p) 34).2.2) = p + (escF (rest x p) 34).2.2 := w64 (by omega) (by omega)
              rw [e1]
              have hB := escB_le (escF (rest x p) 34)
              have hB2 : (escB (escF (rest x p) 34)).length ≤ 4 * (escF (rest x p) 34).2.2 := by omega
              by_cases hraw : (escF (rest x p) 34).2.1 = true
              · have eB : escB (escF (rest x p) 34) = [toU8 (wr .u8 (escF (rest x p) 34).1)] := by unfold escB; rw [if_pos hraw]
                rw [← eB]
                refine Ev.tt (by rw [hraw]; rfl) (Ev.gk (roomS_iff.2 (by omega)) ?_)
                exact refText_go x hx m _ _ (by omega) (by omega) (by omega) (by rw [List.length_append]; omega)
              · have hraw' : (escF (rest x p) 34).2.1 = false := by simpa using hraw
                have hv := escF_vld _ _ hz hraw'
                obtain ⟨g0, g1, _⟩ := (vld_iff _).1 hv
                have eB : escB (escF (rest x p) 34) = enc (escF (rest x p) 34).1 := by unfold escB; rw [if_neg hraw]
                refine Ev.ff (by rw [hraw']; rfl) (Ev.bind (bytes_ev _ g0 g1) ?_)
                rw [← eB]
                refine Ev.gk (roomS_iff.2 (by omega)) ?_
                exact refText_go x hx m _ _ (by omega) (by omega) (by omega) (by rw [List.length_append]; omega)
      refine Ev.gk (inB_iff.2 (by omega)) (Ev.bif (fun h => l3 _ ?_) (fun h => Ev.gk (inB_iff.2 (by omega)) (l3 _ ?_)))
      · have : byt x p = 34 := by simpa using h
        simp [this]
      · have : ¬ byt x p = 34 := by simpa using h
        simp [this]
        exact beq_dec _ _
    · have hp := of_decide_eq_false h
      unfold textL
      rw [if_pos (by omega)]
      exact Ev.ret
end Go.Proofs.YtjgjbdphjccpcaaDoor.Pure
