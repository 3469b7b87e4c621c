/-
  Chapter 09, plain: texts of numbers, and numbers of texts.
-/
import Derived.Test.YtaakccdfgejgpaaGreatDoorNf
namespace Go.Proofs.YtaakccdfgejgpaaGreatDoor.Pure
open Go Abs
set_option linter.unusedVariables false
set_option linter.unusedSimpArgs false

/-- The words from the i-th on are divided by ten. -/
def divL (v i : Nat) : Nat := v % W64 ^ i + v / W64 ^ i / 10 * W64 ^ i
theorem divL_set (v i : Nat) (hi : i < 8) : (toW (divL v (i + 1))).getD i 0 = ((v / W64 ^ i % W64 : Nat) : Int) ∧
    (toW (divL v (i + 1))).set i (((v / W64 ^ (i + 1) % 10 : Nat) : Int) * 18446744073709551616 + ((v / W64 ^ i % W64 : Nat) : Int)) = (toW (divL v (i + 1))).set i (((v / W64 ^ (i + 1) % 10 : Nat) : Int) * 18446744073709551616 + ((v / W64 ^ i % W64 : Nat) : Int)) ∧
    (toW (divL v (i + 1))).set i ((((v / W64 ^ (i + 1) % 10 : Nat) : Int) * 18446744073709551616 + ((v / W64 ^ i % W64 : Nat) : Int)) / 10) = toW (divL v i) ∧
    (((v / W64 ^ (i + 1) % 10 : Nat) : Int) * 18446744073709551616 + ((v / W64 ^ i % W64 : Nat) : Int)) % 10 = ((v / W64 ^ i % 10 : Nat) : Int) := by
  have hp := pw i
  have hw := word_lt v i
  have hl := Nat.mod_lt v hp
  have hm := mod_next W64 v i
  have hd : v / W64 ^ i = v / W64 ^ i % W64 + W64 * (v / W64 ^ (i + 1)) := by
    have := Nat.mod_add_div (v / W64 ^ i) W64
    rw [Nat.div_div_eq_div_mul, ← Nat.pow_succ] at this
    exact this.symm
  have eW : W64 = 18446744073709551616 := rfl
  have h10 := Nat.mod_add_div (v / W64 ^ (i + 1)) 10
  have hr := Nat.mod_lt (v / W64 ^ (i + 1)) (show 0 < 10 by decide)
  have e1 : divL v (i + 1) = v % W64 ^ i + (v / W64 ^ i % W64 + W64 * (v / W64 ^ (i + 1) / 10)) * W64 ^ i := by
    unfold divL
    rw [hm, Nat.pow_succ, Nat.add_mul]
    grind
  have hx : (v / W64 ^ (i + 1) % 10 * W64 + v / W64 ^ i % W64) / 10 < W64 := by
    rw [eW] at hw ⊢; omega
  have hq : (v / W64 ^ (i + 1) % 10 * W64 + v / W64 ^ i % W64) / 10 + W64 * (v / W64 ^ (i + 1) / 10) = v / W64 ^ i / 10 ∧ (v / W64 ^ (i + 1) % 10 * W64 + v / W64 ^ i % W64) % 10 = v / W64 ^ i % 10 := by
    generalize v / W64 ^ i % W64 = w at *
    generalize v / W64 ^ (i + 1) = h at *
    rw [hd, eW]
    omega
  have hs := toB_set W64 (by decide) 8 i (v % W64 ^ i) (v / W64 ^ i % W64) _ (v / W64 ^ (i + 1) / 10) hi hl hw hx
  rw [← e1, hq.1] at hs
  have c1 : (((v / W64 ^ (i + 1) % 10 : Nat) : Int) * 18446744073709551616 + ((v / W64 ^ i % W64 : Nat) : Int)) = ((v / W64 ^ (i + 1) % 10 * W64 + v / W64 ^ i % W64 : Nat) : Int) := by rw [eW]; simp
  refine ⟨?_, rfl, ?_, ?_⟩
  · rw [toW_get _ i hi, e1, Nat.add_mul_div_right _ _ hp, Nat.div_eq_of_lt hl, Nat.zero_add, Nat.add_mul_mod_self_left, Nat.mod_mod]
  · rw [c1, show ((v / W64 ^ (i + 1) % 10 * W64 + v / W64 ^ i % W64 : Nat) : Int) / 10 = (((v / W64 ^ (i + 1) % 10 * W64 + v / W64 ^ i % W64) / 10 : Nat) : Int) from (Int.natCast_ediv _ 10).symm]
    exact hs
  · rw [c1, show ((v / W64 ^ (i + 1) % 10 * W64 + v / W64 ^ i % W64 : Nat) : Int) % 10 = (((v / W64 ^ (i + 1) % 10 * W64 + v / W64 ^ i % W64) % 10 : Nat) : Int) from (Int.natCast_emod _ 10).symm, hq.2]
theorem digit_go (v : Nat) (z : List Int) : ∀ i : Nat, i ≤ 8 → Ev (fun k => limb_digit.go k (.l1 (toW (divL v i)) z ((v / W64 ^ i % 10 : Nat) : Int) ((i : Int) - 1))) (toW (v / 10), ((v % 10 : Nat) : Int))
  | 0, _ => by
    refine Ev.succ (f := fun k => limb_digit.b1 k (limb_digit.go k) _ z _ _) ?_ (fun k => rfl)
    simp only [limb_digit.b1]
    refine Ev.ff (by simp) (Ev.ret' ?_)
    simp only [divL, Nat.pow_zero, Nat.mod_one, Nat.div_one, Nat.zero_add, Nat.mul_one]
    rw [show wr .u8 ((v % 10 : Nat) : Int) = ((v % 10 : Nat) : Int) from w8 (by omega) (by omega)]
  | i + 1, hi => by
    have e0 : ((i + 1 : Nat) : Int) - 1 = i := by omega
    rw [e0]
    refine Ev.succ (f := fun k => limb_digit.b1 k (limb_digit.go k) _ z _ (i : Int)) ?_ (fun k => rfl)
    simp only [limb_digit.b1, Int.toNat_natCast]
    obtain ⟨d1, _, d2, d3⟩ := divL_set v i (by omega)
    have hw := word_lt v i
    have eW : W64 = 18446744073709551616 := rfl
    rw [d1, v64 (by omega) (by omega)]
    have hdiv := div64_ev ((v / W64 ^ (i + 1) % 10 : Nat) : Int) ((v / W64 ^ i % W64 : Nat) : Int) (by omega) (by omega) (by omega) (by rw [eW] at hw ⊢; omega)
    refine Ev.tt (by simp) (Ev.gk (inB_iff.2 (by omega)) (Ev.bind hdiv (Ev.gk (inB_iff.2 (by omega)) ?_)))
    rw [d2, d3]
    exact digit_go v z i (by omega)
theorem ldigit_ev (v : Nat) (h : v < M512) : Ev (fun k => limb_digit.m k (toW v)) (toW (v / 10), ((v % 10 : Nat) : Int)) := by
  refine Ev.succ (f := fun k => limb_digit.b0 k (limb_digit.go k) (toW v)) ?_ (fun k => rfl)
  have := digit_go v (List.replicate 8 (0 : Int)) 8 (by decide)
  simp only [divL, M512_eq, Nat.mod_eq_of_lt h, Nat.div_eq_of_lt h, Nat.zero_div, Nat.zero_mul, Nat.add_zero, Nat.zero_mod] at this
  exact this
/-! ### Turning a row round -/
theorem rev_go (l : List UInt8) (hl : l.length ≤ 100000) : ∀ (m i : Nat) (x : List UInt8), l.length ≤ 2 * i + m → 2 * i ≤ l.length + 1 → x.length = l.length → (∀ t : Nat, t < l.length → x.getD t 0 = if t < i ∨ l.length ≤ t + i then l.getD (l.length - 1 - t) 0 else l.getD t 0) →
    Ev (fun k => slices_Reverse_byte_byte.go k (.l1 x (i : Int) ((l.length : Int) - 1 - i))) l.reverse
  | m, i, x, hm, hi, hx, hp => by
    refine Ev.succ (f := fun k => slices_Reverse_byte_byte.b1 k (slices_Reverse_byte_byte.go k) x (i : Int) _) ?_ (fun k => rfl)
    simp only [slices_Reverse_byte_byte.b1, Int.toNat_natCast]
    by_cases hlt : (i : Int) < (l.length : Int) - 1 - i
    · obtain ⟨m, rfl⟩ : ∃ q, m = q + 1 := ⟨m - 1, by omega⟩
      obtain ⟨j, hj⟩ : ∃ j : Nat, (l.length : Int) - 1 - i = j := ⟨l.length - 1 - i, by omega⟩
      rw [hj] at hlt ⊢
      rw [Int.toNat_natCast, toU8_byt, toU8_byt]
      have e1 : wr .i64 ((i : Int) + 1) = ((i + 1 : Nat) : Int) := by rw [v64 (by omega) (by omega)]; omega
      have e2 : wr .i64 ((j : Int) - 1) = (l.length : Int) - 1 - ((i + 1 : Nat) : Int) := by rw [v64 (by omega) (by omega)]; omega
      rw [e1, e2]
      refine Ev.tt (decide_eq_true hlt) (Ev.gk (inB_iff.2 (by omega)) (Ev.gk (inB_iff.2 (by omega)) (Ev.gk (inB_iff.2 (by omega)) (Ev.gk (inB_iff.2 (by rw [List.length_set]; omega)) ?_))))
      have hpi := hp i (by omega)
      have hpj := hp j (by omega)
      rw [if_neg (by omega)] at hpi hpj
      refine rev_go l hl m (i + 1) _ (by omega) (by omega) (by simp [hx]) (fun t ht => ?_)
      have hpt := hp t ht
      simp only [List.getD_eq_getElem?_getD] at *
      rw [List.getElem?_set, List.length_set]
      by_cases ej : j = t
      · subst ej
        rw [if_pos rfl, if_pos (by omega), if_pos (by omega)]
        rw [Option.getD_some, hpi]
        congr 2; omega
      · rw [if_neg ej, List.getElem?_set]
        by_cases ei : i = t
        · subst ei
          rw [if_pos rfl, if_pos (by omega), if_pos (by omega)]
          rw [Option.getD_some, hpj]
          congr 2; omega
        · rw [if_neg ei, hpt]
          by_cases hc : t < i ∨ l.length ≤ t + i
          · rw [if_pos hc, if_pos (by omega)]
          · rw [if_neg hc, if_neg (by omega)]
    · refine Ev.ff (decide_eq_false hlt) (Ev.ret' ?_)
      refine List.ext_getElem (by simp [hx]) (fun t h1 h2 => ?_)
      have ht : t < l.length := by rw [← hx]; exact h1
      have h := hp t ht
      rw [List.getElem_reverse]
      simp only [List.getD_eq_getElem?_getD] at h
      rw [List.getElem?_eq_getElem h1, Option.getD_some] at h
      rw [h]
      by_cases hc : t < i ∨ l.length ≤ t + i
      · rw [if_pos hc, List.getElem?_eq_getElem (by omega), Option.getD_some]
      · rw [if_neg hc, List.getElem?_eq_getElem ht, Option.getD_some]
        congr 1; omega
theorem reverse_ev (l : List UInt8) (hl : l.length ≤ 100000) : Ev (fun k => slices_Reverse_byte_byte.m k l) l.reverse := by
  refine Ev.succ (f := fun k => slices_Reverse_byte_byte.b0 k (slices_Reverse_byte_byte.go k) l) ?_ (fun k => rfl)
  simp only [slices_Reverse_byte_byte.b0]
  rw [v64 (by omega) (by omega)]
  have := rev_go l hl l.length 0 l (by omega) (by omega) rfl (fun t ht => by rw [if_neg (by omega)])
  simpa using this
/-- The decimal digits of a number, the lowest first. -/
def decL : Nat → Nat → List UInt8
  | 0, _ => []
  | n + 1, v => if v = 0 then [] else toU8 (48 + (v % 10 : Nat)) :: decL n (v / 10)
def textN (v : Nat) : List UInt8 := if v = 0 then [48] else (decL 155 v).reverse
theorem decL_len : ∀ n v, (decL n v).length ≤ n
  | 0, _ => by simp [decL]
  | n + 1, v => by
    unfold decL
    split
    · simp
    · have := decL_len n (v / 10); simp; omega
theorem text_go (n0 : Bool) (z : List Int) : ∀ (n v : Nat) (out : List UInt8), v < 10 ^ n → v < M512 → out.length + n ≤ 1000 → (out ≠ []) →
    Ev (fun k => limb_Text.go k (.l1 false z out (toW v))) (out ++ decL n v).reverse
  | n, v, out, hv, hM, hl, ho => by
    refine Ev.succ (f := fun k => limb_Text.b1 k (limb_Text.go k) false z out (toW v)) ?_ (fun k => rfl)
    simp only [limb_Text.b1]
    rw [isZ v hM]
    by_cases h : v = 0
    · subst h
      have hd : decL n 0 = [] := by cases n <;> simp [decL]
      rw [hd, List.append_nil]
      refine Ev.ff rfl ?_
      refine Ev.succ (f := fun k => limb_Text.b2 k (limb_Text.go k) false z out (toW 0) _) ?_ (fun k => rfl)
      refine Ev.ff ?_ (Ev.ff rfl (Ev.bind (reverse_ev out (by omega)) Ev.ret))
      have : out.length ≠ 0 := fun e => ho (List.eq_nil_of_length_eq_zero e)
      simp; exact ho
    · obtain ⟨n, rfl⟩ : ∃ q, n = q + 1 := ⟨n - 1, by cases n <;> simp at hv ⊢; omega⟩
      refine Ev.tt (by simp [h]) ?_
      refine Ev.succ (f := fun k => limb_Text.b2 k (limb_Text.go k) false z out (toW v) true) ?_ (fun k => rfl)
      simp only [limb_Text.b2]
      refine Ev.tt rfl (Ev.bind (ldigit_ev v hM) (Ev.gk (room_iff.2 (by simp; omega)) ?_))
      have e1 : wr .u8 (48 + ((v % 10 : Nat) : Int)) = 48 + ((v % 10 : Nat) : Int) := w8 (by omega) (by omega)
      rw [e1]
      refine (text_go n0 z n (v / 10) _ ?_ (by omega) (by simp; omega) (by simp)).to ?_
      · rw [Nat.pow_succ] at hv; omega
      · rw [decL, if_neg h]; simp
theorem ten155 : M512 ≤ 10 ^ 155 := by decide
theorem text_ev (v : Nat) (h : v < M512) : Ev (fun k => limb_Text.m k false (toW v)) (textN v) := by
  refine Ev.succ (f := fun k => limb_Text.b0 k (limb_Text.go k) false (toW v)) ?_ (fun k => rfl)
  simp only [limb_Text.b0]
  refine Ev.bind (canon_ev v) ?_
  unfold textN
  have first : ∀ w n, Ev (fun k => limb_Text.go k (.l1 false (toW v) ([] ++ ([toU8 (wr .u8 (48 + ((w % 10 : Nat) : Int)))] : List UInt8)) (toW (w / 10)))) n → w < M512 → Ev (fun k => limb_Text.go k (.l2 false (toW v) [] (toW w) true)) n := by
    intro w n hn hw
    refine Ev.succ (f := fun k => limb_Text.b2 k (limb_Text.go k) false (toW v) [] (toW w) true) ?_ (fun k => rfl)
    simp only [limb_Text.b2]
    exact Ev.tt rfl (Ev.bind (ldigit_ev w hw) (Ev.gk (room_iff.2 (by simp)) hn))
  refine Ev.succ (f := fun k => limb_Text.b1 k (limb_Text.go k) false (toW v) [] (toW v)) ?_ (fun k => rfl)
  simp only [limb_Text.b1]
  rw [isZ v h]
  have h10 := ten155
  by_cases hv : v = 0
  · subst hv
    rw [if_pos rfl]
    refine Ev.ff rfl (first 0 _ ?_ (by decide))
    exact (text_go false (toW 0) 0 0 [48] (by decide) (by decide) (by decide) (by decide)).to rfl
  · rw [if_neg hv]
    refine Ev.tt (by simp [hv]) (first v _ ?_ h)
    have e1 : wr .u8 (48 + ((v % 10 : Nat) : Int)) = 48 + ((v % 10 : Nat) : Int) := w8 (by omega) (by omega)
    rw [e1]
    refine (text_go false (toW v) 154 (v / 10) _ ?_ (by omega) (by simp) (by simp)).to ?_
    · have : (10 : Nat) ^ 155 = 10 ^ 154 * 10 := Nat.pow_succ 10 154
      omega
    · rw [show decL 155 v = toU8 (48 + (v % 10 : Nat)) :: decL 154 (v / 10) by rw [decL, if_neg hv]]
      rfl
end Go.Proofs.YtaakccdfgejgpaaGreatDoor.Pure
