/-
  Chapter 10, plain: what is written is read back.
-/
import Derived.Test.YtjgjbdphjccpcaaDoorPo
namespace Go.Proofs.YtjgjbdphjccpcaaDoor.Pure
open Go Abs
set_option linter.unusedVariables false
set_option linter.unusedSimpArgs false

def hx (d : Int) : Int := if d < 10 then 48 + d else 87 + d
def wr1 (c : UInt8) : List UInt8 :=
  if (c.toNat : Int) = 34 ∨ (c.toNat : Int) = 92 then [92, c] else if 32 ≤ (c.toNat : Int) ∧ (c.toNat : Int) ≤ 126 then [c] else [92, 120, toU8 (hx ((c.toNat : Int) / 16)), toU8 (hx ((c.toNat : Int) % 16))]
def wrL : List UInt8 → List UInt8
  | [] => []
  | c :: s => wr1 c ++ wrL s
def writeF (s : List UInt8) : List UInt8 := 34 :: (wrL s ++ [34])
theorem wr1_le (c : UInt8) : (wr1 c).length ≤ 4 ∧ 1 ≤ (wr1 c).length := by unfold wr1; split <;> (try split) <;> simp
theorem wrL_le : ∀ s : List UInt8, (wrL s).length ≤ 4 * s.length
  | [] => by simp [wrL]
  | c :: s => by have := wrL_le s; have := wr1_le c; simp only [wrL, List.length_append, List.length_cons]; omega
theorem wrL_app : ∀ s t : List UInt8, wrL (s ++ t) = wrL s ++ wrL t
  | [], t => rfl
  | c :: s, t => by simp only [List.cons_append, wrL, wrL_app s t, List.append_assoc]
theorem hx_rng (d : Int) (h0 : 0 ≤ d) (h1 : d < 16) : 48 ≤ hx d ∧ hx d ≤ 102 ∧ hx d ≠ 92 := by unfold hx; split <;> omega
theorem hexv_hx (d : Int) (h0 : 0 ≤ d) (h1 : d < 16) : hexv (hx d) = d := by
  unfold hx hexv
  split
  · rw [if_pos (by omega)]; omega
  · rw [if_neg (by omega), if_pos (by omega)]; omega
theorem escF_simple (s : List UInt8) (hl : 2 ≤ s.length) (h : byt s 1 = 34 ∨ byt s 1 = 92) : escF s 34 = (byt s 1, true, 2) := by
  have e : simF (byt s 1) 34 = byt s 1 := by rcases h with h | h <;> rw [h] <;> decide
  unfold escF
  rw [if_neg (by omega), e, if_pos (by omega)]
theorem escF_hex (s : List UInt8) (n : Int) (hl : 4 ≤ s.length) (h0 : 0 ≤ n) (h1 : n < 256) (hx1 : byt s 1 = 120) (hx2 : byt s 2 = hx (n / 16)) (hx3 : byt s 3 = hx (n % 16)) : escF s 34 = (n, true, 4) := by
  unfold escF
  rw [if_neg (by omega), hx1, if_neg (by decide), if_pos rfl]
  unfold esc1F
  rw [if_neg (by omega)]
  have e1 := hexv_hx (n / 16) (by omega) (by omega)
  have e2 := hexv_hx (n % 16) (by omega) (by omega)
  have : numL s 16 2 ((2 : Nat) : Int) 0 = some n := by
    show numL s 16 2 2 0 = some n
    unfold numL
    rw [hx2, e1, if_neg (by omega)]
    unfold numL
    rw [show (2 : Int) + 1 = 3 by rfl, hx3, e2, if_neg (by omega)]
    unfold numL
    congr 1; omega
  rw [this]
  simp only
  rw [if_neg (by omega)]
  rfl
theorem rest_eq (x : List UInt8) (p : Int) : rest x p = x.drop p.toNat := by simp [rest, cut]
theorem byt_drop (x : List UInt8) (p j : Int) (h0 : 0 ≤ p) (hj : 0 ≤ j) : byt x (p + j) = byt (x.drop p.toNat) j := by
  unfold byt
  rw [List.getD_eq_getElem?_getD, List.getD_eq_getElem?_getD, List.getElem?_drop, show (p + j).toNat = p.toNat + j.toNat by omega]
theorem drop_more (x : List UInt8) (p : Int) (l r : List UInt8) (h0 : 0 ≤ p) (h : x.drop p.toNat = l ++ r) : x.drop (p + l.length).toNat = r := by
  rw [show (p + l.length).toNat = p.toNat + l.length by omega, ← List.drop_drop, h, List.drop_left]
theorem byt_toU8 (x : Int) (l : List UInt8) (i : Nat) (h0 : 0 ≤ x) (h1 : x < 256) (h : l[i]? = some (toU8 x)) : byt l (i : Int) = x := by
  unfold byt
  rw [List.getD_eq_getElem?_getD, show ((i : Nat) : Int).toNat = i by omega, h]
  exact toU8_val x h0 h1
theorem wr1_first (c : UInt8) (t : List UInt8) : (byt (wr1 c ++ t) 0 = 92 ∧ ¬ (byt (wr1 c ++ t) 0 = 34 ∨ byt (wr1 c ++ t) 0 = 10)) ∨ (wr1 c = [c] ∧ byt (wr1 c ++ t) 0 = (c.toNat : Int) ∧ 32 ≤ (c.toNat : Int) ∧ (c.toNat : Int) ≤ 126 ∧ (c.toNat : Int) ≠ 34 ∧ (c.toNat : Int) ≠ 92) := by
  unfold wr1
  split
  · left; refine ⟨rfl, ?_⟩; show ¬ ((92 : Int) = 34 ∨ (92 : Int) = 10); decide
  · split
    · right; rename_i h1 h2; exact ⟨rfl, rfl, h2.1, h2.2, fun h => h1 (.inl h), fun h => h1 (.inr h)⟩
    · left; refine ⟨rfl, ?_⟩; show ¬ ((92 : Int) = 34 ∨ (92 : Int) = 10); decide
theorem escF_wr1 (c : UInt8) (t : List UInt8) (h : byt (wr1 c ++ t) 0 = 92) : escF (wr1 c ++ t) 34 = ((c.toNat : Int), true, ((wr1 c).length : Int)) := by
  have hc := u8_lt c
  rcases wr1_first c t with h' | h'
  · unfold wr1 at h ⊢
    split
    · rename_i hh
      have e1 : byt ([92, c] ++ t) 1 = (c.toNat : Int) := rfl
      rw [escF_simple _ (by simp) (by rw [e1]; exact hh), e1]
      rfl
    · rename_i hh
      split
      · rename_i h2
        rw [if_neg hh, if_pos h2] at h
        have : (c.toNat : Int) = 92 := h
        exact absurd (.inr this) hh
      · have r1 := hx_rng ((c.toNat : Int) / 16) (by omega) (by omega)
        have r2 := hx_rng ((c.toNat : Int) % 16) (by omega) (by omega)
        refine escF_hex _ (c.toNat : Int) (by simp) (by omega) (by omega) rfl ?_ ?_
        · exact byt_toU8 _ _ 2 (by omega) (by omega) rfl
        · exact byt_toU8 _ _ 3 (by omega) (by omega) rfl
  · rw [h'.2.1] at h
    exact absurd h h'.2.2.2.2.2
theorem textL_wrL (x : List UInt8) : ∀ (s : List UInt8) (p : Int) (acc : List UInt8) (m : Nat), 0 ≤ p → x.drop p.toNat = wrL s → (wrL s).length ≤ m → textL x m p acc = (acc ++ s, 0)
  | [], p, acc, m, h0, h, hm => by
    have : x.length ≤ p.toNat := by simpa [wrL, List.drop_eq_nil_iff] using h
    cases m with
    | zero => simp [textL]
    | succ m => unfold textL; rw [if_pos (by omega)]; simp
  | c :: s, p, acc, m, h0, h, hm => by
    have hw := wr1_le c
    have hlen : x.length - p.toNat = (wr1 c).length + (wrL s).length := by
      have := congrArg List.length h
      simpa [wrL] using this
    rw [wrL] at h hm
    rw [List.length_append] at hm
    obtain ⟨m, rfl⟩ : ∃ k, m = k + 1 := ⟨m - 1, by omega⟩
    have hb : byt x p = byt (wr1 c ++ wrL s) 0 := by have := byt_drop x p 0 h0 (by decide); rwa [Int.add_zero, h] at this
    have hd := drop_more x p (wr1 c) (wrL s) h0 h
    unfold textL
    rw [if_neg (by omega), hb]
    rcases wr1_first c (wrL s) with h' | h'
    · rw [if_neg h'.2, if_pos h'.1, rest_eq, h, escF_wr1 c _ h'.1]
      simp only
      rw [if_neg (by omega)]
      have ee : escB ((c.toNat : Int), true, ((wr1 c).length : Int)) = [c] := by
        unfold escB
        rw [if_pos rfl]
        have hc := u8_lt c
        rw [show wr .u8 (c.toNat : Int) = (c.toNat : Int) from w8 (by omega) (by omega), toU8_byt]
      rw [ee, textL_wrL x s _ _ m (by omega) hd (by omega)]
      simp
    · obtain ⟨e1, e2, e3, e4, e5, e6⟩ := h'
      rw [e2, if_neg (by omega), if_neg e6, toU8_byt]
      rw [e1] at hd
      have hd : x.drop (p + 1).toNat = wrL s := hd
      rw [textL_wrL x s _ _ m (by omega) hd (by omega)]
      simp
theorem endL_wr1 (b : List UInt8) (c : UInt8) (t : List UInt8) (i : Int) (m : Nat) (h0 : 0 ≤ i) (h : b.drop i.toNat = wr1 c ++ t) (hm : (wr1 c).length + 1 ≤ m) :
    ∃ m' : Nat, m ≤ m' + (wr1 c).length ∧ endL b 34 m i = endL b 34 m' (i + (wr1 c).length) := by
  have hw := wr1_le c
  have hlen : b.length - i.toNat = (wr1 c).length + t.length := by
    have := congrArg List.length h
    simpa using this
  have hb0 : byt b i = byt (wr1 c ++ t) 0 := by have := byt_drop b i 0 h0 (by decide); rwa [Int.add_zero, h] at this
  have hb1 : byt b (i + 1) = byt (wr1 c ++ t) 1 := by have := byt_drop b i 1 h0 (by decide); rwa [h] at this
  have hb2 : byt b (i + 1 + 1) = byt (wr1 c ++ t) 2 := by have := byt_drop b i 2 h0 (by decide); rw [h] at this; rw [show i + 1 + 1 = i + 2 by omega, this]
  have hb3 : byt b (i + 1 + 1 + 1) = byt (wr1 c ++ t) 3 := by have := byt_drop b i 3 h0 (by decide); rw [h] at this; rw [show i + 1 + 1 + 1 = i + 3 by omega, this]
  have hc := u8_lt c
  obtain ⟨m, rfl⟩ : ∃ k, m = k + 1 := ⟨m - 1, by omega⟩
  unfold wr1 at hb0 hb1 hb2 hb3 hm hlen ⊢
  split
  · rename_i hh
    rw [if_pos hh] at hb0 hb1 hm hlen
    have hb0 : byt b i = 92 := hb0
    have hb1 : byt b (i + 1) = (c.toNat : Int) := hb1
    simp only [List.length_cons, List.length_nil] at hm hlen ⊢
    refine ⟨m, by omega, ?_⟩
    rw [endL, if_neg (by omega), if_neg (by omega), if_neg (by omega), if_pos (by omega)]
    rfl
  · rename_i hh
    split
    · rename_i h2
      rw [if_neg hh, if_pos h2] at hb0 hm hlen
      have hb0 : byt b i = (c.toNat : Int) := hb0
      simp only [List.length_cons, List.length_nil] at hm hlen ⊢
      refine ⟨m, by omega, ?_⟩
      rw [endL, if_neg (by omega), if_neg (by omega), if_neg (by omega), if_neg (by omega)]
      rfl
    · rename_i h2
      rw [if_neg hh, if_neg h2] at hb0 hb1 hb2 hb3 hm hlen
      have r1 := hx_rng ((c.toNat : Int) / 16) (by omega) (by omega)
      have r2 := hx_rng ((c.toNat : Int) % 16) (by omega) (by omega)
      have hb0 : byt b i = 92 := hb0
      have hb1 : byt b (i + 1) = 120 := hb1
      have hb2 : byt b (i + 1 + 1) = hx ((c.toNat : Int) / 16) := hb2.trans (byt_toU8 _ _ 2 (by omega) (by omega) rfl)
      have hb3 : byt b (i + 1 + 1 + 1) = hx ((c.toNat : Int) % 16) := hb3.trans (byt_toU8 _ _ 3 (by omega) (by omega) rfl)
      simp only [List.length_cons, List.length_nil] at hm hlen ⊢
      obtain ⟨m, rfl⟩ : ∃ k, m = k + 2 := ⟨m - 2, by omega⟩
      refine ⟨m, by omega, ?_⟩
      have e2 : i + 2 = i + 1 + 1 := by omega
      have e4 : i + ((0 + 1 + 1 + 1 + 1 : Nat) : Int) = i + 1 + 1 + 1 + 1 := by omega
      rw [endL, if_neg (by omega), if_neg (by omega), if_neg (by omega), if_pos (by omega), e2, endL, if_neg (by omega), if_neg (by omega), if_neg (by omega), if_neg (by omega), endL, if_neg (by omega), if_neg (by omega), if_neg (by omega), if_neg (by omega), e4]
theorem endL_wrL (b t : List UInt8) : ∀ (s : List UInt8) (i : Int) (m : Nat), 0 ≤ i → b.drop i.toNat = wrL s ++ 34 :: t → (wrL s).length + 1 ≤ m → endL b 34 m i = (i + (wrL s).length + 1, true)
  | [], i, m, h0, h, hm => by
    have hlen : b.length - i.toNat = t.length + 1 := by
      have := congrArg List.length h
      simpa [wrL] using this
    have hb0 : byt b i = 34 := by have := byt_drop b i 0 h0 (by decide); rw [Int.add_zero, h] at this; exact this
    obtain ⟨m, rfl⟩ : ∃ k, m = k + 1 := ⟨m - 1, by omega⟩
    rw [endL, if_neg (by omega), if_pos hb0]
    simp [wrL]
  | c :: s, i, m, h0, h, hm => by
    have hw := wr1_le c
    rw [wrL, List.append_assoc] at h
    rw [wrL, List.length_append] at hm ⊢
    obtain ⟨m', hm', e⟩ := endL_wr1 b c (wrL s ++ 34 :: t) i m h0 h (by omega)
    rw [e, endL_wrL b t s _ m' (by omega) (drop_more b i _ _ h0 h) (by omega)]
    congr 1
    omega
theorem textF_write (s : List UInt8) : textF (writeF s) = (s, 0) := by
  have hl : (writeF s).length = (wrL s).length + 2 := by simp [writeF]
  have b0 : byt (writeF s) 0 = 34 := rfl
  have bl : byt (writeF s) (((writeF s).length : Int) - 1) = 34 := by
    have : ((writeF s).length : Int) - 1 = ((wrL s).length + 1 : Nat) := by omega
    rw [this]
    exact byt_toU8 34 _ _ (by decide) (by decide) (by simp [writeF]; rfl)
  have hb : body (writeF s) = wrL s := by
    unfold body cut
    rw [show (((writeF s).length : Int) - 1).toNat = (wrL s).length + 1 by omega]
    simp [writeF]
  unfold textF
  rw [if_neg (by rw [isIn_iff, b0]; omega), if_pos (by rw [isIn_iff]; exact ⟨by omega, b0, bl⟩), hb]
  exact textL_wrL (wrL s) s 0 [] _ (by decide) rfl (Nat.le_refl _)
theorem scanF_write (s t : List UInt8) : scanF (writeF s ++ t) 0 = (5, ((writeF s).length : Int), 0) := by
  have hl : (writeF s).length = (wrL s).length + 2 := by simp [writeF]
  have b0 : byt (writeF s ++ t) 0 = 34 := rfl
  have he : endF (writeF s ++ t) 0 = (((writeF s).length : Int), true) := by
    unfold endF
    rw [b0, endL_wrL (writeF s ++ t) t s (0 + 1) _ (by decide) (by simp [writeF]) (by simp [writeF])]
    congr 1; omega
  have hc : cut (writeF s ++ t) 0 ((writeF s).length : Int) = writeF s := by simp [cut]
  unfold scanF
  rw [if_neg (by rw [b0, List.length_append]; unfold isQ; omega), b0, he]
  simp only
  rw [hc, textF_write]
  simp
end Go.Proofs.YtjgjbdphjccpcaaDoor.Pure
