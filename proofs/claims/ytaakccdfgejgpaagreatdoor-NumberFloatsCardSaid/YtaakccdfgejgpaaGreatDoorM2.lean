/-
  Chapter 09, plain: texts of numbers, and where a literal stands.
-/
import Derived.Test.YtaakccdfgejgpaaGreatDoorM1
import Derived.Lib.Replace
import Derived.Lib.CountLaws
namespace Go.Proofs.YtaakccdfgejgpaaGreatDoor.Pure
open Go Abs
set_option linter.unusedVariables false
set_option linter.unusedSimpArgs false

/-- The words from the i-th on are divided by ten. -/
def divL (v i : Nat) : Nat := v % W64 ^ i + v / W64 ^ i / 10 * W64 ^ i
theorem divL_set (v i : Nat) (hi : i < 8) : (toW (divL v (i + 1))).getD i 0 = ((v / W64 ^ i % W64 : Nat) : Int) ∧
    (toW (divL v (i + 1))).set i (((v / W64 ^ (i + 1) % 10 : Nat) : Int) * 18446744073709551616 + ((v / W64 ^ i % W64 : Nat) : Int)) = (toW (divL v (i + 1))).set i (((v / W64 ^ (i + 1) % 10 : Nat) : Int) * 18446744073709551616 + ((v / W64 ^ i % W64 : Nat) : Int)) ∧
    (toW (divL v (i + 1))).set i ((((v / W64 ^ (i + 1) % 10 : Nat) : Int) * 18446744073709551616 + ((v / W64 ^ i % W64 : Nat) : Int)) / 10) = toW (divL v i) ∧
    (((v / W64 ^ (i + 1) % 10 : Nat) : Int) * 18446744073709551616 + ((v / W64 ^ i % W64 : Nat) : Int)) % 10 = ((v / W64 ^ i % 10 : Nat) : Int) := by
  have hp := pw i
  have hw := word_lt v i
  have hl := Nat.mod_lt v hp
  have hm := mod_next W64 v i
  have hd : v / W64 ^ i = v / W64 ^ i % W64 + W64 * (v / W64 ^ (i + 1)) := by
    have := Nat.mod_add_div (v / W64 ^ i) W64
    rw [Nat.div_div_eq_div_mul, ← Nat.pow_succ] at this
    exact this.symm
  have eW : W64 = 18446744073709551616 := rfl
  have h10 := Nat.mod_add_div (v / W64 ^ (i + 1)) 10
  have hr := Nat.mod_lt (v / W64 ^ (i + 1)) (show 0 < 10 by decide)
  have e1 : divL v (i + 1) = v % W64 ^ i + (v / W64 ^ i % W64 + W64 * (v / W64 ^ (i + 1) / 10)) * W64 ^ i := by
    unfold divL
    rw [hm, Nat.pow_succ, Nat.add_mul]
    grind
  have hx : (v / W64 ^ (i + 1) % 10 * W64 + v / W64 ^ i % W64) / 10 < W64 := by
    rw [eW] at hw ⊢; omega
  have hq : (v / W64 ^ (i + 1) % 10 * W64 + v / W64 ^ i % W64) / 10 + W64 * (v / W64 ^ (i + 1) / 10) = v / W64 ^ i / 10 ∧ (v / W64 ^ (i + 1) % 10 * W64 + v / W64 ^ i % W64) % 10 = v / W64 ^ i % 10 := by
    generalize v / W64 ^ i % W64 = w at *
    generalize v / W64 ^ (i + 1) = h at *
    rw [hd, eW]
    omega
  have hs := toB_set W64 (by decide) 8 i (v % W64 ^ i) (v / W64 ^ i % W64) _ (v / W64 ^ (i + 1) / 10) hi hl hw hx
  rw [← e1, hq.1] at hs
  have c1 : (((v / W64 ^ (i + 1) % 10 : Nat) : Int) * 18446744073709551616 + ((v / W64 ^ i % W64 : Nat) : Int)) = ((v / W64 ^ (i + 1) % 10 * W64 + v / W64 ^ i % W64 : Nat) : Int) := by rw [eW]; simp
  refine ⟨?_, rfl, ?_, ?_⟩
  · rw [toW_get _ i hi, e1, Nat.add_mul_div_right _ _ hp, Nat.div_eq_of_lt hl, Nat.zero_add, Nat.add_mul_mod_self_left, Nat.mod_mod]
  · rw [c1, show ((v / W64 ^ (i + 1) % 10 * W64 + v / W64 ^ i % W64 : Nat) : Int) / 10 = (((v / W64 ^ (i + 1) % 10 * W64 + v / W64 ^ i % W64) / 10 : Nat) : Int) from (Int.natCast_ediv _ 10).symm]
    exact hs
  · rw [c1, show ((v / W64 ^ (i + 1) % 10 * W64 + v / W64 ^ i % W64 : Nat) : Int) % 10 = (((v / W64 ^ (i + 1) % 10 * W64 + v / W64 ^ i % W64) % 10 : Nat) : Int) from (Int.natCast_emod _ 10).symm, hq.2]
theorem digit_go (v : Nat) (z : List Int) : ∀ i : Nat, i ≤ 8 → Ev (fun k => limb_digit.go k (.l1 (toW (divL v i)) z ((v / W64 ^ i % 10 : Nat) : Int) ((i : Int) - 1))) (toW (v / 10), ((v % 10 : Nat) : Int))
  | 0, _ => by
    refine Ev.succ (f := fun k => limb_digit.b1 k (limb_digit.go k) _ z _ _) ?_ (fun k => rfl)
    simp only [limb_digit.b1]
    refine Ev.ff (by simp) (Ev.ret' ?_)
    simp only [divL, Nat.pow_zero, Nat.mod_one, Nat.div_one, Nat.zero_add, Nat.mul_one]
    rw [show wr .u8 ((v % 10 : Nat) : Int) = ((v % 10 : Nat) : Int) from w8 (by omega) (by omega)]
  | i + 1, hi => by
    have e0 : ((i + 1 : Nat) : Int) - 1 = i := by omega
    rw [e0]
    refine Ev.succ (f := fun k => limb_digit.b1 k (limb_digit.go k) _ z _ (i : Int)) ?_ (fun k => rfl)
    simp only [limb_digit.b1, Int.toNat_natCast]
    obtain ⟨d1, _, d2, d3⟩ := divL_set v i (by omega)
    have hw := word_lt v i
    have eW : W64 = 18446744073709551616 := rfl
    rw [d1, v64 (by omega) (by omega)]
    have hdiv := div64_ev ((v / W64 ^ (i + 1) % 10 : Nat) : Int) ((v / W64 ^ i % W64 : Nat) : Int) (by omega) (by omega) (by omega) (by rw [eW] at hw ⊢; omega)
    refine Ev.tt (by simp) (Ev.gk (inB_iff.2 (by omega)) (Ev.bind hdiv (Ev.gk (inB_iff.2 (by omega)) ?_)))
    rw [d2, d3]
    exact digit_go v z i (by omega)
theorem ldigit_ev (v : Nat) (h : v < M512) : Ev (fun k => limb_digit.m k (toW v)) (toW (v / 10), ((v % 10 : Nat) : Int)) := by
  refine Ev.succ (f := fun k => limb_digit.b0 k (limb_digit.go k) (toW v)) ?_ (fun k => rfl)
  have := digit_go v (List.replicate 8 (0 : Int)) 8 (by decide)
  simp only [divL, M512_eq, Nat.mod_eq_of_lt h, Nat.div_eq_of_lt h, Nat.zero_div, Nat.zero_mul, Nat.add_zero, Nat.zero_mod] at this
  exact this
/-! ### Turning a row round -/
theorem rev_go (l : List UInt8) (hl : l.length ≤ 100000) : ∀ (m i : Nat) (x : List UInt8), l.length ≤ 2 * i + m → 2 * i ≤ l.length + 1 → x.length = l.length → (∀ t : Nat, t < l.length → x.getD t 0 = if t < i ∨ l.length ≤ t + i then l.getD (l.length - 1 - t) 0 else l.getD t 0) →
    Ev (fun k => slices_Reverse_byte_byte.go k (.l1 x (i : Int) ((l.length : Int) - 1 - i))) l.reverse
  | m, i, x, hm, hi, hx, hp => by
    refine Ev.succ (f := fun k => slices_Reverse_byte_byte.b1 k (slices_Reverse_byte_byte.go k) x (i : Int) _) ?_ (fun k => rfl)
    simp only [slices_Reverse_byte_byte.b1, Int.toNat_natCast]
    by_cases hlt : (i : Int) < (l.length : Int) - 1 - i
    · obtain ⟨m, rfl⟩ : ∃ q, m = q + 1 := ⟨m - 1, by omega⟩
      obtain ⟨j, hj⟩ : ∃ j : Nat, (l.length : Int) - 1 - i = j := ⟨l.length - 1 - i, by omega⟩
      rw [hj] at hlt ⊢
      rw [Int.toNat_natCast, toU8_byt, toU8_byt]
      have e1 : wr .i64 ((i : Int) + 1) = ((i + 1 : Nat) : Int) := by rw [v64 (by omega) (by omega)]; omega
      have e2 : wr .i64 ((j : Int) - 1) = (l.length : Int) - 1 - ((i + 1 : Nat) : Int) := by rw [v64 (by omega) (by omega)]; omega
      rw [e1, e2]
      refine Ev.tt (decide_eq_true hlt) (Ev.gk (inB_iff.2 (by omega)) (Ev.gk (inB_iff.2 (by omega)) (Ev.gk (inB_iff.2 (by omega)) (Ev.gk (inB_iff.2 (by rw [List.length_set]; omega)) ?_))))
      have hpi := hp i (by omega)
      have hpj := hp j (by omega)
      rw [if_neg (by omega)] at hpi hpj
      refine rev_go l hl m (i + 1) _ (by omega) (by omega) (by simp [hx]) (fun t ht => ?_)
      have hpt := hp t ht
      simp only [List.getD_eq_getElem?_getD] at *
      rw [List.getElem?_set, List.length_set]
      by_cases ej : j = t
      · subst ej
        rw [if_pos rfl, if_pos (by omega), if_pos (by omega)]
        rw [Option.getD_some, hpi]
        congr 2; omega
      · rw [if_neg ej, List.getElem?_set]
        by_cases ei : i = t
        · subst ei
          rw [if_pos rfl, if_pos (by omega), if_pos (by omega)]
          rw [Option.getD_some, hpj]
          congr 2; omega
        · rw [if_neg ei, hpt]
          by_cases hc : t < i ∨ l.length ≤ t + i
          · rw [if_pos hc, if_pos (by omega)]
          · rw [if_neg hc, if_neg (by omega)]
    · refine Ev.ff (decide_eq_false hlt) (Ev.ret' ?_)
      refine List.ext_getElem (by simp [hx]) (fun t h1 h2 => ?_)
      have ht : t < l.length := by rw [← hx]; exact h1
      have h := hp t ht
      rw [List.getElem_reverse]
      simp only [List.getD_eq_getElem?_getD] at h
      rw [List.getElem?_eq_getElem h1, Option.getD_some] at h
      rw [h]
      by_cases hc : t < i ∨ l.length ≤ t + i
      · rw [if_pos hc, List.getElem?_eq_getElem (by omega), Option.getD_some]
      · rw [if_neg hc, List.getElem?_eq_getElem ht, Option.getD_some]
        congr 1; omega
theorem reverse_ev (l : List UInt8) (hl : l.length ≤ 100000) : Ev (fun k => slices_Reverse_byte_byte.m k l) l.reverse := by
  refine Ev.succ (f := fun k => slices_Reverse_byte_byte.b0 k (slices_Reverse_byte_byte.go k) l) ?_ (fun k => rfl)
  simp only [slices_Reverse_byte_byte.b0]
  rw [v64 (by omega) (by omega)]
  have := rev_go l hl l.length 0 l (by omega) (by omega) rfl (fun t ht => by rw [if_neg (by omega)])
  simpa using this
/-- The decimal digits of a number, the lowest first. -/
def decL : Nat → Nat → List UInt8
  | 0, _ => []
  | n + 1, v => if v = 0 then [] else toU8 (48 + (v % 10 : Nat)) :: decL n (v / 10)
def textN (v : Nat) : List UInt8 := if v = 0 then [48] else (decL 155 v).reverse
theorem decL_len : ∀ n v, (decL n v).length ≤ n
  | 0, _ => by simp [decL]
  | n + 1, v => by
    unfold decL
    split
    · simp
    · have := decL_len n (v / 10); simp; omega
theorem text_go (n0 : Bool) (z : List Int) : ∀ (n v : Nat) (out : List UInt8), v < 10 ^ n → v < M512 → out.length + n ≤ 1000 → (out ≠ []) →
    Ev (fun k => limb_Text.go k (.l1 false z out (toW v))) (out ++ decL n v).reverse
  | n, v, out, hv, hM, hl, ho => by
    refine Ev.succ (f := fun k => limb_Text.b1 k (limb_Text.go k) false z out (toW v)) ?_ (fun k => rfl)
    simp only [limb_Text.b1]
    rw [isZ v hM]
    by_cases h : v = 0
    · subst h
      have hd : decL n 0 = [] := by cases n <;> simp [decL]
      rw [hd, List.append_nil]
      refine Ev.ff rfl ?_
      refine Ev.succ (f := fun k => limb_Text.b2 k (limb_Text.go k) false z out (toW 0) _) ?_ (fun k => rfl)
      refine Ev.ff ?_ (Ev.ff rfl (Ev.bind (reverse_ev out (by omega)) Ev.ret))
      have : out.length ≠ 0 := fun e => ho (List.eq_nil_of_length_eq_zero e)
      simp; exact ho
    · obtain ⟨n, rfl⟩ : ∃ q, n = q + 1 := ⟨n - 1, by cases n <;> simp at hv ⊢; omega⟩
      refine Ev.tt (by simp [h]) ?_
      refine Ev.succ (f := fun k => limb_Text.b2 k (limb_Text.go k) false z out (toW v) true) ?_ (fun k => rfl)
      simp only [limb_Text.b2]
      refine Ev.tt rfl (Ev.bind (ldigit_ev v hM) (Ev.gk (room_iff.2 (by simp; omega)) ?_))
      have e1 : wr .u8 (48 + ((v % 10 : Nat) : Int)) = 48 + ((v % 10 : Nat) : Int) := w8 (by omega) (by omega)
      rw [e1]
      refine (text_go n0 z n (v / 10) _ ?_ (by omega) (by simp; omega) (by simp)).to ?_
      · rw [Nat.pow_succ] at hv; omega
      · rw [decL, if_neg h]; simp
theorem ten155 : M512 ≤ 10 ^ 155 := by decide
theorem text_ev (v : Nat) (h : v < M512) : Ev (fun k => limb_Text.m k false (toW v)) (textN v) := by
  refine Ev.succ (f := fun k => limb_Text.b0 k (limb_Text.go k) false (toW v)) ?_ (fun k => rfl)
  simp only [limb_Text.b0]
  refine Ev.bind (canon_ev v) ?_
  unfold textN
  have first : ∀ w n, Ev (fun k => limb_Text.go k (.l1 false (toW v) ([] ++ ([toU8 (wr .u8 (48 + ((w % 10 : Nat) : Int)))] : List UInt8)) (toW (w / 10)))) n → w < M512 → Ev (fun k => limb_Text.go k (.l2 false (toW v) [] (toW w) true)) n := by
    intro w n hn hw
    refine Ev.succ (f := fun k => limb_Text.b2 k (limb_Text.go k) false (toW v) [] (toW w) true) ?_ (fun k => rfl)
    simp only [limb_Text.b2]
    exact Ev.tt rfl (Ev.bind (ldigit_ev w hw) (Ev.gk (room_iff.2 (by simp)) hn))
  refine Ev.succ (f := fun k => limb_Text.b1 k (limb_Text.go k) false (toW v) [] (toW v)) ?_ (fun k => rfl)
  simp only [limb_Text.b1]
  rw [isZ v h]
  have h10 := ten155
  by_cases hv : v = 0
  · subst hv
    rw [if_pos rfl]
    refine Ev.ff rfl (first 0 _ ?_ (by decide))
    exact (text_go false (toW 0) 0 0 [48] (by decide) (by decide) (by decide) (by decide)).to rfl
  · rw [if_neg hv]
    refine Ev.tt (by simp [hv]) (first v _ ?_ h)
    have e1 : wr .u8 (48 + ((v % 10 : Nat) : Int)) = 48 + ((v % 10 : Nat) : Int) := w8 (by omega) (by omega)
    rw [e1]
    refine (text_go false (toW v) 154 (v / 10) _ ?_ (by omega) (by simp) (by simp)).to ?_
    · have : (10 : Nat) ^ 155 = 10 ^ 154 * 10 := Nat.pow_succ 10 154
      omega
    · rw [show decL 155 v = toU8 (48 + (v % 10 : Nat)) :: decL 154 (v / 10) by rw [decL, if_neg hv]]
      rfl
end Go.Proofs.YtaakccdfgejgpaaGreatDoor.Pure
namespace Go.Proofs.YtaakccdfgejgpaaGreatDoor.Pure
open Go Abs
set_option linter.unusedVariables false
set_option linter.unusedSimpArgs false

def hexv (c : Int) : Int := if 48 ≤ c ∧ c ≤ 57 then c - 48 else if 97 ≤ c ∧ c ≤ 102 then c - 87 else if 65 ≤ c ∧ c ≤ 70 then c - 55 else 99
theorem hexv_lo (c : Int) : 0 ≤ hexv c := by unfold hexv; split <;> (try split) <;> (try split) <;> omega
theorem hexv_hi (c : Int) : hexv c ≤ 99 := by unfold hexv; split <;> (try split) <;> (try split) <;> omega
theorem byte_cases (P : Int → Bool) (h : (List.range 256).all (fun n => P (n : Int)) = true) (c : Int) (h0 : 0 ≤ c) (h1 : c < 256) : P c = true := by
  have := List.all_eq_true.1 h c.toNat (by simp; omega)
  rwa [show ((c.toNat : Nat) : Int) = c by omega] at this
theorem digit_tab (k : Nat) : (List.range 256).all (fun n => cavilref07_Digit.m (k + 20) (n : Int) == some (hexv (n : Int))) = true := by kernel_rfl
theorem digit_ev (c : Int) (h0 : 0 ≤ c) (h1 : c < 256) : Ev (fun k => cavilref07_Digit.m k c) (hexv c) := by
  refine ⟨20, fun k hk => ?_⟩
  obtain ⟨j, rfl⟩ : ∃ j, k = j + 20 := ⟨k - 20, by omega⟩
  have := byte_cases (fun c => cavilref07_Digit.m (j + 20) c == some (hexv c)) (digit_tab j) c h0 h1
  simpa using this
theorem value_tab (k : Nat) : (List.range 256).all (fun n => limb_value.m (k + 20) (n : Int) == some (hexv (n : Int))) = true := by kernel_rfl
theorem value_ev (c : Int) (h0 : 0 ≤ c) (h1 : c < 256) : Ev (fun k => limb_value.m k c) (hexv c) := by
  refine ⟨20, fun k hk => ?_⟩
  obtain ⟨j, rfl⟩ : ∃ j, k = j + 20 := ⟨k - 20, by omega⟩
  have := byte_cases (fun c => limb_value.m (j + 20) c == some (hexv c)) (value_tab j) c h0 h1
  simpa using this
def hexN (c : UInt8) : Nat := (hexv (c.toNat : Int)).toNat
theorem hexN_eq (c : UInt8) : hexv (c.toNat : Int) = (hexN c : Int) := by unfold hexN; have := hexv_lo (c.toNat : Int); omega
theorem hexN_hi (c : UInt8) : hexN c ≤ 99 := by have := hexv_hi (c.toNat : Int); rw [hexN_eq] at this; omega
/-- Digits read, if all fits. -/
def accN (b : Nat) : List UInt8 → Nat → Option Nat
  | [], v => some v
  | c :: s, v => if v * b + hexN c < M512 then accN b s (v * b + hexN c) else none
/-- A number's text: its value, the error's number. -/
def parseN (s : List UInt8) (b : Nat) : Nat × Int :=
  if s = [] then (0, 12) else if s.any (fun c => decide (b ≤ hexN c)) then (0, 13) else match accN b s 0 with
    | some v => (v, 0)
    | none => (0, 9)
theorem accN_lt (b : Nat) : ∀ (s : List UInt8) (v w : Nat), v < M512 → accN b s v = some w → w < M512
  | [], v, w, hv, h => by cases h; exact hv
  | c :: s, v, w, hv, h => by
    unfold accN at h
    split at h
    · rename_i hlt; exact accN_lt b s _ w hlt h
    · cases h
theorem parseN_lt (s : List UInt8) (b : Nat) : (parseN s b).1 < M512 := by
  unfold parseN
  split
  · show 0 < M512; decide
  · split
    · show 0 < M512; decide
    · split
      · rename_i v h; exact accN_lt b s 0 v (by decide) h
      · show 0 < M512; decide
theorem parseN_err (s : List UInt8) (b : Nat) : 0 ≤ (parseN s b).2 ∧ (parseN s b).2 ≤ 25 := by
  unfold parseN
  split
  · simp
  · split
    · simp
    · split <;> simp
def erOf (n : Int) : Er := if n = 0 then .nil else .no n
theorem erOf_nil (n : Int) : (erOf n).isNil = decide (n = 0) := by
  unfold erOf
  split
  · rename_i h; simp [h, Er.isNil]
  · rename_i h; simp [h, Er.isNil]
theorem drop_at (s : List UInt8) (i : Nat) (h : i < s.length) : s.drop i = s.getD i 0 :: s.drop (i + 1) := by
  rw [List.drop_eq_getElem_cons h, List.getD_eq_getElem?_getD, List.getElem?_eq_getElem h]
  rfl
def resP : Option Nat → Bool × List Int × Er
  | some v => (false, toW v, .nil)
  | none => (false, List.replicate 8 0, .no 9)
theorem parse_acc (s : List UInt8) (b : Nat) (z0 : Bool) (z : List Int) (hb : b ≤ 16) (hs : s.length ≤ 100000) : ∀ (m i v : Nat), i + m = s.length → v < M512 →
    Ev (fun k => limb_Parse.go k (.l3 z0 z false (toW v) s (b : Int) (s.length : Int) (i : Int))) (resP (accN b (s.drop i) v))
  | 0, i, v, h, hv => by
    refine Ev.succ (f := fun k => limb_Parse.b3 k (limb_Parse.go k) z0 z false (toW v) s (b : Int) (s.length : Int) (i : Int)) ?_ (fun k => rfl)
    simp only [limb_Parse.b3]
    rw [List.drop_eq_nil_of_le (by omega)]
    exact Ev.ff (decide_eq_false (by omega)) Ev.ret
  | m + 1, i, v, h, hv => by
    refine Ev.succ (f := fun k => limb_Parse.b3 k (limb_Parse.go k) z0 z false (toW v) s (b : Int) (s.length : Int) (i : Int)) ?_ (fun k => rfl)
    simp only [limb_Parse.b3, Int.toNat_natCast]
    rw [drop_at s i (by omega)]
    generalize s.getD i 0 = c
    have hc := u8_lt c
    have hh := hexN_hi c
    have hbM : b < M512 := Nat.lt_of_le_of_lt hb (by decide)
    have hhM : hexN c < M512 := Nat.lt_of_le_of_lt hh (by decide)
    have bad : ∀ (t : Bool × List Int × Er), t = (false, List.replicate 8 0, .no 9) → v * b + hexN c ≥ M512 →
        Ev (fun k => limb_Parse.go k (.l4 z0 z false (toW v) t.1 t.2.1 s (b : Int) t.2.2 (s.length : Int) (i : Int))) (resP (accN b (c :: s.drop (i + 1)) v)) := by
      rintro t rfl hge
      refine Ev.succ (f := fun k => limb_Parse.b4 k (limb_Parse.go k) z0 z false (toW v) false (List.replicate 8 0) s (b : Int) (.no 9) (s.length : Int) (i : Int)) ?_ (fun k => rfl)
      rw [accN, if_neg (by omega)]
      exact Ev.tt rfl Ev.ret
    refine Ev.tt (decide_eq_true (by omega)) (Ev.gk (inB_iff.2 (by omega)) (Ev.bind (of_ev b (by omega)) (Ev.bind (mul_ev v b hv hbM) ?_)))
    by_cases h1 : v * b < M512
    · have e1 : fitN (v * b) = (false, toW (v * b), .nil) := by unfold fitN; rw [if_pos h1]
      rw [e1]
      refine Ev.tt rfl (Ev.bind (value_ev _ (by omega) (by omega)) ?_)
      rw [hexN_eq]
      refine Ev.bind (of_ev (hexN c) (by omega)) (Ev.bind (add_ev (v * b) (hexN c) h1 hhM) ?_)
      by_cases h2 : v * b + hexN c < M512
      · have e2 : fitN (v * b + hexN c) = (false, toW (v * b + hexN c), .nil) := by unfold fitN; rw [if_pos h2]
        rw [e2]
        refine Ev.succ (f := fun k => limb_Parse.b4 k (limb_Parse.go k) z0 z false (toW v) false (toW (v * b + hexN c)) s (b : Int) .nil (s.length : Int) (i : Int)) ?_ (fun k => rfl)
        simp only [limb_Parse.b4]
        have ei : wr .i64 ((i : Int) + 1) = ((i + 1 : Nat) : Int) := by rw [v64 (by omega) (by omega)]; omega
        rw [ei, accN, if_pos h2]
        exact Ev.ff rfl (parse_acc s b z0 z hb hs m (i + 1) _ (by omega) h2)
      · exact bad _ (by unfold fitN; rw [if_neg h2]) (by omega)
    · have e1 : fitN (v * b) = (false, List.replicate 8 0, .no 9) := by unfold fitN; rw [if_neg h1]
      rw [e1]
      exact Ev.ff rfl (bad _ rfl (by omega))
def resQ (t : Nat × Int) : Bool × List Int × Er := (false, toW t.1, erOf t.2)
theorem parse_ev (s : List UInt8) (b : Nat) (hb : b = 2 ∨ b = 8 ∨ b = 10 ∨ b = 16) (hs : s.length ≤ 100000) : Ev (fun k => limb_Parse.m k s (b : Int)) (resQ (parseN s b)) := by
  have l2 : s ≠ [] → ∀ (m i : Nat), i + m = s.length → Ev (fun k => limb_Parse.go k (.l2 false (List.replicate 8 (0 : Int)) s s (b : Int) (s.length : Int) (i : Int))) (resQ (if (s.drop i).any (fun c => decide (b ≤ hexN c)) then (0, 13) else match accN b s 0 with | some v => (v, 0) | none => (0, 9))) := by
    intro hne m
    induction m with
    | zero =>
      intro i h
      refine Ev.succ (f := fun k => limb_Parse.b2 k (limb_Parse.go k) false (List.replicate 8 (0 : Int)) s s (b : Int) (s.length : Int) (i : Int)) ?_ (fun k => rfl)
      simp only [limb_Parse.b2]
      rw [List.drop_eq_nil_of_le (by omega)]
      refine Ev.ff (decide_eq_false (by omega)) ?_
      have := parse_acc s b false (List.replicate 8 (0 : Int)) (by omega) hs s.length 0 0 (by omega) (by decide)
      rw [toW_zero] at this
      refine this.to ?_
      rw [List.drop_zero]
      cases accN b s 0 with
      | some v => rfl
      | none => simp only [resP, resQ, List.any_nil, Bool.false_eq_true, if_false]; rw [toW_zero]; rfl
    | succ m ih =>
      intro i h
      refine Ev.succ (f := fun k => limb_Parse.b2 k (limb_Parse.go k) false (List.replicate 8 (0 : Int)) s s (b : Int) (s.length : Int) (i : Int)) ?_ (fun k => rfl)
      simp only [limb_Parse.b2, Int.toNat_natCast]
      have hd := drop_at s i (by omega)
      have ih := ih (i + 1) (by omega)
      rw [hd, List.any_cons]
      generalize s.getD i 0 = c
      have hc := u8_lt c
      have ei : wr .i64 ((i : Int) + 1) = ((i + 1 : Nat) : Int) := by rw [v64 (by omega) (by omega)]; omega
      refine Ev.tt (decide_eq_true (by omega)) (Ev.gk (inB_iff.2 (by omega)) (Ev.bind (value_ev _ (by omega) (by omega)) ?_))
      rw [hexN_eq, ei]
      refine Ev.bif (fun h => ?_) (fun h => ?_)
      · have h := of_decide_eq_true h
        rw [decide_eq_true (show b ≤ hexN c by omega), Bool.true_or, if_pos rfl]
        refine Ev.ret' ?_
        unfold resQ
        rw [toW_zero]
        rfl
      · have h := of_decide_eq_false h
        rw [decide_eq_false (show ¬ b ≤ hexN c by omega), Bool.false_or]
        exact ih
  have l1 : Ev (fun k => limb_Parse.go k (.l1 false (List.replicate 8 (0 : Int)) s (b : Int) false)) (resQ (parseN s b)) := by
    refine Ev.succ (f := fun k => limb_Parse.b1 k (limb_Parse.go k) false (List.replicate 8 (0 : Int)) s (b : Int) false) ?_ (fun k => rfl)
    simp only [limb_Parse.b1]
    unfold parseN
    refine Ev.ff rfl (Ev.bif (fun h => ?_) (fun h => ?_))
    · rw [if_pos (by simpa using h)]
      refine Ev.ret' ?_
      unfold resQ
      rw [toW_zero]
      rfl
    · have hne : s ≠ [] := by simpa using h
      rw [if_neg hne]
      exact l2 hne s.length 0 (by omega)
  refine Ev.succ (f := fun k => limb_Parse.b0 k (limb_Parse.go k) s (b : Int)) ?_ (fun k => rfl)
  simp only [limb_Parse.b0]
  rcases hb with rfl | rfl | rfl | rfl
  · exact Ev.ff rfl l1
  · exact Ev.tt rfl (Ev.ff rfl l1)
  · exact Ev.tt rfl (Ev.tt rfl (Ev.ff rfl l1))
  · exact Ev.tt rfl (Ev.tt rfl (Ev.tt rfl l1))

/-! ### Ratios -/
def okR (n d : Nat) : Bool := decide (d ≠ 0) && decide (Nat.gcd n d = 1)
theorem check_ev (n d : Nat) (hn : n < M512) (hd : d < M512) : Ev (fun k => ratio_Check.m k false (toW n) false (toW d)) (if okR n d = true then .nil else .no 8) := by
  refine Ev.succ (f := fun k => ratio_Check.b0 k (ratio_Check.go k) false (toW n) false (toW d)) ?_ (fun k => rfl)
  simp only [ratio_Check.b0]
  refine Ev.bind (of_ev 0 (by decide)) (Ev.bind (canon_ev n) ?_)
  refine Ev.ff (by simp) (Ev.bind (canon_ev d) (Ev.ff (by simp) (Ev.bind (cmp_ev d 0 hd (by decide)) ?_)))
  have e0 : (decide (cmpN d 0 ≤ 0)) = decide (d = 0) := by
    rw [decide_eq_decide]
    unfold cmpN
    split
    · omega
    · split <;> omega
  rw [e0]
  refine Ev.succ (f := fun k => ratio_Check.b1 k (ratio_Check.go k) false (toW n) false (toW d) _) ?_ (fun k => rfl)
  simp only [ratio_Check.b1]
  unfold okR
  by_cases h : d = 0
  · refine Ev.tt (by simpa using h) (Ev.ret' ?_)
    simp [h]
  · have hg : Nat.gcd n d < M512 := Nat.lt_of_le_of_lt (Nat.gcd_le_right n (by omega)) hd
    refine Ev.ff (by simpa using h) (Ev.bind (gcd_ev n d hn hd) (Ev.bind (of_ev 1 (by decide)) (Ev.bind (cmp_ev _ 1 hg (by decide)) ?_)))
    refine Ev.bif (fun hc => Ev.ret' ?_) (fun hc => Ev.ret' ?_)
    · have : cmpN (Nat.gcd n d) 1 ≠ 0 := by simpa using hc
      have h1 : Nat.gcd n d ≠ 1 := by intro e; rw [e] at this; exact this rfl
      rw [if_neg (by simp [h1])]
    · have : cmpN (Nat.gcd n d) 1 = 0 := by simpa using hc
      have h1 : Nat.gcd n d = 1 := by
        unfold cmpN at this
        split at this
        · cases this
        · split at this
          · cases this
          · omega
      rw [if_pos (by simp [h1, h])]
/-- A ratio as the program holds it. -/
abbrev ratW (n d : Nat) (e : Er) : Bool × List Int × Bool × List Int × Er := (false, toW n, false, toW d, e)
theorem make_ev (n d : Nat) (hn : n < M512) (hd : d < M512) (h0 : d ≠ 0) : Ev (fun k => ratio_Make.m k false (toW n) false (toW d)) (ratW (n / Nat.gcd n d) (d / Nat.gcd n d) .nil) := by
  refine Ev.succ (f := fun k => ratio_Make.b0 k false (toW n) false (toW d)) ?_ (fun k => rfl)
  simp only [ratio_Make.b0]
  have hg : Nat.gcd n d < M512 := Nat.lt_of_le_of_lt (Nat.gcd_le_right n (by omega)) hd
  have hg0 : 0 < Nat.gcd n d := Nat.gcd_pos_of_pos_right n (by omega)
  rw [isZr d hd]
  exact Ev.bind (gcd_ev n d hn hd) (Ev.ff (decide_eq_false h0) (Ev.bind (div_ev n _ hn hg hg0) (Ev.bind (div_ev d _ hd hg hg0) (Ev.ff rfl Ev.ret))))
theorem keep_ev (e : Er) (n : Bool) (w : List Int) (f : Er) : Ev (fun k => ratio_failed_keep.m k e n w f) (n, w, if e.isNil then f else e) := by
  refine Ev.succ (f := fun k => ratio_failed_keep.b0 k e n w f) ?_ (fun k => rfl)
  simp only [ratio_failed_keep.b0]
  refine Ev.bif (fun h => Ev.bif (fun h' => ?_) (fun h' => ?_)) (fun h => ?_)
  · rw [h]; exact Ev.ret
  · rw [h]
    have hf : f = .nil := by cases f <;> simp [Er.isNil] at h' ⊢
    have he : e = .nil := by cases e <;> simp [Er.isNil] at h ⊢
    rw [hf, he]; exact Ev.ret
  · rw [h]; exact Ev.ret
theorem smul_ev (e : Er) (a b : Nat) (ha : a < M512) (hb : b < M512) : Ev (fun k => ratio_sums_mul.m k e false (toW a) false (toW b)) ((fitN (a * b)).1, (fitN (a * b)).2.1, if e.isNil then (fitN (a * b)).2.2 else e) := by
  refine Ev.succ (f := fun k => ratio_sums_mul.b0 k e false (toW a) false (toW b)) ?_ (fun k => rfl)
  exact Ev.bind (mul_ev a b ha hb) (Ev.bind (keep_ev _ _ _ _) Ev.ret)
theorem smul_ok (a b : Nat) (ha : a < M512) (hb : b < M512) (h : a * b < M512) : Ev (fun k => ratio_sums_mul.m k .nil false (toW a) false (toW b)) (false, toW (a * b), .nil) := by
  refine (smul_ev .nil a b ha hb).to ?_
  unfold fitN
  rw [if_pos h]
  rfl
theorem smul_ov (a b : Nat) (ha : a < M512) (hb : b < M512) (h : ¬ a * b < M512) : Ev (fun k => ratio_sums_mul.m k .nil false (toW a) false (toW b)) (false, List.replicate 8 0, .no 9) := by
  refine (smul_ev .nil a b ha hb).to ?_
  unfold fitN
  rw [if_neg h]
  rfl
/-- Both products in lowest terms, if they fit. -/
def lowR (n d : Nat) : Option (Nat × Nat) := if n < M512 ∧ d < M512 then some (n / Nat.gcd n d, d / Nat.gcd n d) else none
def resR : Option (Nat × Nat) → Bool × List Int × Bool × List Int × Er
  | some (n, d) => ratW n d .nil
  | none => (false, List.replicate 8 0, false, List.replicate 8 0, .no 9)
theorem done_ok (n d : Nat) (hn : n < M512) (hd : d < M512) (h0 : d ≠ 0) : Ev (fun k => ratio_sums_done.m k .nil false (toW n) false (toW d)) (false, toW (n / Nat.gcd n d), false, toW (d / Nat.gcd n d), .nil, .nil) := by
  refine Ev.succ (f := fun k => ratio_sums_done.b0 k .nil false (toW n) false (toW d)) ?_ (fun k => rfl)
  simp only [ratio_sums_done.b0]
  exact Ev.gk rfl (Ev.ff rfl (Ev.bind (make_ev n d hn hd h0) Ev.ret))
theorem done_bad (x y : Bool) (v w : List Int) : Ev (fun k => ratio_sums_done.m k (.no 9) x v y w) (false, List.replicate 8 0, false, List.replicate 8 0, .no 9, .no 9) := by
  refine Ev.succ (f := fun k => ratio_sums_done.b0 k (.no 9) x v y w) ?_ (fun k => rfl)
  exact Ev.gk rfl (Ev.tt rfl Ev.ret)
/-- Two products and what is made of them. -/
theorem two_ev (a b c d : Nat) (ha : a < M512) (hb : b < M512) (hc : c < M512) (hd : d < M512) (h0 : c * d ≠ 0) :
    Ev (fun k => bindO (ratio_sums_mul.m k .nil false (toW a) false (toW b)) fun r2 => bindO (ratio_sums_mul.m k r2.2.2 false (toW c) false (toW d)) fun r3 => bindO (ratio_sums_done.m k r3.2.2 r2.1 r2.2.1 r3.1 r3.2.1) fun r4 =>
      some (r4.1, r4.2.1, r4.2.2.1, r4.2.2.2.1, r4.2.2.2.2.1)) (resR (lowR (a * b) (c * d))) := by
  unfold lowR
  by_cases h1 : a * b < M512
  · by_cases h2 : c * d < M512
    · rw [if_pos ⟨h1, h2⟩]
      exact Ev.bind (smul_ok a b ha hb h1) (Ev.bind (smul_ok c d hc hd h2) (Ev.bind (done_ok _ _ h1 h2 h0) Ev.ret))
    · rw [if_neg (fun h => h2 h.2)]
      exact Ev.bind (smul_ok a b ha hb h1) (Ev.bind (smul_ov c d hc hd h2) (Ev.bind (done_bad _ _ _ _) Ev.ret))
  · rw [if_neg (fun h => h1 h.1)]
    exact Ev.bind (smul_ov a b ha hb h1) (Ev.bind (smul_ev _ c d hc hd) (Ev.bind (done_bad _ _ _ _) Ev.ret))
theorem begin_ev (a b c d : Nat) (ha : a < M512) (hb : b < M512) (hc : c < M512) (hd : d < M512) (h1 : okR a b = true) (h2 : okR c d = true) : Ev (fun k => ratio_begin.m k false (toW a) false (toW b) false (toW c) false (toW d)) (.r2 .nil .nil) := by
  refine Ev.succ (f := fun k => ratio_begin.b0 k false (toW a) false (toW b) false (toW c) false (toW d)) ?_ (fun k => rfl)
  have e1 := check_ev a b ha hb
  have e2 := check_ev c d hc hd
  rw [if_pos h1] at e1
  rw [if_pos h2] at e2
  exact Ev.bind e1 (Ev.ff rfl (Ev.bind e2 Ev.ret))
theorem okR_ne {n d : Nat} (h : okR n d = true) : d ≠ 0 ∧ Nat.gcd n d = 1 := by simpa [okR] using h
theorem rmul_ev (a b c d : Nat) (ha : a < M512) (hb : b < M512) (hc : c < M512) (hd : d < M512) (h1 : okR a b = true) (h2 : okR c d = true) : Ev (fun k => ratio_Mul.m k false (toW a) false (toW b) false (toW c) false (toW d)) (resR (lowR (a * c) (b * d))) := by
  refine Ev.succ (f := fun k => ratio_Mul.b0 k false (toW a) false (toW b) false (toW c) false (toW d)) ?_ (fun k => rfl)
  refine Ev.bind (begin_ev a b c d ha hb hc hd h1 h2) (Ev.ff rfl (two_ev a c b d ha hc hb hd ?_))
  exact Nat.mul_ne_zero (okR_ne h1).1 (okR_ne h2).1
theorem rquo_ev (a b c d : Nat) (ha : a < M512) (hb : b < M512) (hc : c < M512) (hd : d < M512) (h1 : okR a b = true) (h2 : okR c d = true) (h0 : c ≠ 0) : Ev (fun k => ratio_Quo.m k false (toW a) false (toW b) false (toW c) false (toW d)) (resR (lowR (a * d) (b * c))) := by
  refine Ev.succ (f := fun k => ratio_Quo.b0 k false (toW a) false (toW b) false (toW c) false (toW d)) ?_ (fun k => rfl)
  have hc0 : cmpN c 0 = 1 := by unfold cmpN; rw [if_neg (by omega), if_pos (by omega)]
  refine Ev.bind (begin_ev a b c d ha hb hc hd h1 h2) (Ev.ff rfl (Ev.bind (of_ev 0 (by decide)) (Ev.bind (cmp_ev c 0 hc (by decide)) ?_)))
  rw [hc0]
  exact Ev.ff rfl (two_ev a d b c ha hd hb hc (Nat.mul_ne_zero (okR_ne h1).1 h0))
theorem rof_ev (n : Nat) (h : n < 1000) : Ev (fun k => ratio_Of.m k (n : Int)) (false, toW n, false, toW 1) := by
  refine Ev.succ (f := fun k => ratio_Of.b0 k (n : Int)) ?_ (fun k => rfl)
  exact Ev.bind (of_ev n (by omega)) (Ev.bind (of_ev 1 (by decide)) Ev.ret)
theorem lowR_ok {n d n' d' : Nat} (h : lowR n d = some (n', d')) (h0 : d ≠ 0) : n' < M512 ∧ d' < M512 ∧ okR n' d' = true := by
  unfold lowR at h
  split at h
  · rename_i hh
    cases h
    have hg : 0 < Nat.gcd n d := Nat.gcd_pos_of_pos_right n (by omega)
    refine ⟨Nat.lt_of_le_of_lt (Nat.div_le_self _ _) hh.1, Nat.lt_of_le_of_lt (Nat.div_le_self _ _) hh.2, ?_⟩
    unfold okR
    have h1 : d / Nat.gcd n d ≠ 0 := by
      rw [Nat.div_ne_zero_iff]
      exact ⟨by omega, Nat.gcd_le_right n (by omega)⟩
    have h2 : Nat.gcd (n / Nat.gcd n d) (d / Nat.gcd n d) = 1 := by rw [Nat.gcd_div (Nat.gcd_dvd_left n d) (Nat.gcd_dvd_right n d), Nat.div_self hg]
    simp [h1, h2]
  · cases h
end Go.Proofs.YtaakccdfgejgpaaGreatDoor.Pure
namespace Go.Proofs.YtaakccdfgejgpaaGreatDoor.Pure
open Go Abs
set_option linter.unusedVariables false
set_option linter.unusedSimpArgs false

theorem byt_nat (l : List UInt8) (i : Nat) : byt l (i : Int) = ((l.getD i 0).toNat : Int) := by unfold byt; rw [Int.toNat_natCast]
def dig (c : Int) : Bool := decide (48 ≤ c) && decide (c ≤ 57)
theorem dig_iff (c : Int) : dig c = true ↔ 48 ≤ c ∧ c ≤ 57 := by simp [dig]
theorem ndigit_ev (c : Int) : Ev (fun k => number_digit.m k c) (dig c) := by
  refine Ev.succ (f := fun k => number_digit.b0 k c) ?_ (fun k => rfl)
  simp only [number_digit.b0]
  unfold dig
  refine Ev.bif (fun h => Ev.ret' ?_) (fun h => Ev.ret' ?_)
  · have := of_decide_eq_true h; simp [this]
  · have := of_decide_eq_false h; simp [this]
theorem rdigit_ev (c : Int) : Ev (fun k => cavilref09_digit.m k c) (dig c) := by
  refine Ev.succ (f := fun k => cavilref09_digit.b0 k c) ?_ (fun k => rfl)
  simp only [cavilref09_digit.b0]
  unfold dig
  refine Ev.bif (fun h => Ev.ret' ?_) (fun h => Ev.ret' ?_)
  · have := of_decide_eq_true h; simp [this]
  · have := of_decide_eq_false h; simp [this]
def letr (c : Int) : Bool := (decide (97 ≤ c) && decide (c ≤ 122)) || (decide (65 ≤ c) && decide (c ≤ 90))
def isW (c : Int) : Bool := decide (c = 95) || (decide (c = 46) || (dig c || letr c))
theorem word_tab (k : Nat) : (List.range 256).all (fun n => number_word.m (k + 20) (n : Int) == some (isW (n : Int)) && (cavilref09_letter.m (k + 20) (n : Int) == some (letr (n : Int)))) = true := by kernel_rfl
theorem word_ev (c : Int) (h0 : 0 ≤ c) (h1 : c < 256) : Ev (fun k => number_word.m k c) (isW c) := by
  refine ⟨20, fun k hk => ?_⟩
  obtain ⟨j, rfl⟩ : ∃ j, k = j + 20 := ⟨k - 20, by omega⟩
  have := byte_cases (fun c => number_word.m (j + 20) c == some (isW c) && (cavilref09_letter.m (j + 20) c == some (letr c))) (word_tab j) c h0 h1
  simp only [Bool.and_eq_true, beq_iff_eq] at this
  exact this.1
theorem letter_ev (c : Int) (h0 : 0 ≤ c) (h1 : c < 256) : Ev (fun k => cavilref09_letter.m k c) (letr c) := by
  refine ⟨20, fun k hk => ?_⟩
  obtain ⟨j, rfl⟩ : ∃ j, k = j + 20 := ⟨k - 20, by omega⟩
  have := byte_cases (fun c => number_word.m (j + 20) c == some (isW c) && (cavilref09_letter.m (j + 20) c == some (letr c))) (word_tab j) c h0 h1
  simp only [Bool.and_eq_true, beq_iff_eq] at this
  exact this.2
theorem or_e_tab : (List.range 256).all (fun n => (Go.bits .or .u8 (n : Int) 32 == 101) == (decide ((n : Int) = 101) || decide ((n : Int) = 69))) = true := by kernel_rfl
theorem or_e (c : Int) (h0 : 0 ≤ c) (h1 : c < 256) : (Go.bits .or .u8 c 32 == 101) = (decide (c = 101) || decide (c = 69)) := by
  have := byte_cases (fun c => (Go.bits .or .u8 c 32 == 101) == (decide (c = 101) || decide (c = 69))) or_e_tab c h0 h1
  simpa using this
def baseC (c : Int) : Nat := if c = 120 ∨ c = 88 then 16 else if c = 98 ∨ c = 66 then 2 else if c = 111 ∨ c = 79 then 8 else 0
/-- The base that two letters tell. -/
def baseN (s : List UInt8) : Nat := if s.length < 2 ∨ byt s 0 ≠ 48 then 0 else baseC (byt s 1)
theorem base_ev (s : List UInt8) : Ev (fun k => number_base.m k s) (baseN s : Int) := by
  have l2 : ∀ c q, q = decide (c = 120 ∨ c = 88) → Ev (fun k => number_base.go k (.l2 c q)) (baseC c : Int) := by
    intro c q hq
    refine Ev.succ (f := fun k => number_base.b2 k (number_base.go k) c q) ?_ (fun k => rfl)
    simp only [number_base.b2]
    unfold baseC
    refine Ev.bif (fun h => ?_) (fun h => ?_)
    · rw [h] at hq
      rw [if_pos (of_decide_eq_true hq.symm)]
      exact Ev.ret
    · rw [h] at hq
      rw [if_neg (of_decide_eq_false hq.symm)]
      by_cases a1 : c = 98
      · subst a1; exact Ev.ret
      · by_cases a2 : c = 66
        · subst a2; exact Ev.ret
        · by_cases a3 : c = 111
          · subst a3; exact Ev.ret
          · by_cases a4 : c = 79
            · subst a4; exact Ev.ret
            · rw [if_neg (by omega), if_neg (by omega)]
              exact Ev.ff (by simpa using a1) (Ev.ff (by simpa using a2) (Ev.ff (by simpa using a3) (Ev.ff (by simpa using a4) Ev.ret)))
  have l1 : ∀ q, q = decide (s.length < 2 ∨ byt s 0 ≠ 48) → Ev (fun k => number_base.go k (.l1 s q)) (baseN s : Int) := by
    intro q hq
    refine Ev.succ (f := fun k => number_base.b1 k (number_base.go k) s q) ?_ (fun k => rfl)
    simp only [number_base.b1]
    unfold baseN
    refine Ev.bif (fun h => ?_) (fun h => ?_)
    · rw [h] at hq
      rw [if_pos (of_decide_eq_true hq.symm)]
      exact Ev.ret
    · rw [h] at hq
      have hn := of_decide_eq_false hq.symm
      rw [if_neg hn]
      refine Ev.gk (inB_iff.2 (by omega)) (Ev.bif (fun h => l2 _ _ ?_) (fun h => l2 _ _ ?_))
      · have : byt s 1 = 120 := by simpa using h
        simp [this]
      · have : ¬ byt s 1 = 120 := by simpa using h
        simp [this]
        exact beq_dec _ _
  refine Ev.succ (f := fun k => number_base.b0 k (number_base.go k) s) ?_ (fun k => rfl)
  simp only [number_base.b0]
  refine Ev.bif (fun h => l1 _ ?_) (fun h => Ev.gk (inB_iff.2 ?_) (l1 _ ?_))
  · have := of_decide_eq_true h
    have : s.length < 2 := by omega
    simp [this]
  · have := of_decide_eq_false h; omega
  · have := of_decide_eq_false h
    have : ¬ s.length < 2 := by omega
    simp [this]
    exact congrArg Bool.not (beq_dec _ _)
theorem rbase_ev (s : List UInt8) : Ev (fun k => cavilref09_Base.m k s) (baseN s : Int) := by
  have l3 : ∀ q, 2 ≤ s.length → q = decide (byt s 1 = 98 ∨ byt s 1 = 66) → Ev (fun k => cavilref09_Base.go k (.l3 s q)) ((if byt s 1 = 98 ∨ byt s 1 = 66 then 2 else if byt s 1 = 111 ∨ byt s 1 = 79 then 8 else 0 : Nat) : Int) := by
    intro q hl hq
    refine Ev.succ (f := fun k => cavilref09_Base.b3 k (cavilref09_Base.go k) s q) ?_ (fun k => rfl)
    simp only [cavilref09_Base.b3]
    refine Ev.bif (fun h => ?_) (fun h => ?_)
    · rw [h] at hq
      rw [if_pos (of_decide_eq_true hq.symm)]
      exact Ev.ret
    · rw [h] at hq
      rw [if_neg (of_decide_eq_false hq.symm)]
      refine Ev.gk (inB_iff.2 (by omega)) (Ev.bif (fun h => ?_) (fun h => Ev.gk (inB_iff.2 (by omega)) (Ev.bif (fun h' => ?_) (fun h' => ?_))))
      · rw [if_pos (.inl (by simpa using h))]; exact Ev.ret
      · rw [if_pos (.inr (by simpa using h'))]; exact Ev.ret
      · rw [if_neg (fun x => x.elim (by simpa using h) (by simpa using h'))]; exact Ev.ret
  have l2 : ∀ q, 2 ≤ s.length → q = decide (byt s 1 = 120 ∨ byt s 1 = 88) → Ev (fun k => cavilref09_Base.go k (.l2 s q)) (baseC (byt s 1) : Int) := by
    intro q hl hq
    refine Ev.succ (f := fun k => cavilref09_Base.b2 k (cavilref09_Base.go k) s q) ?_ (fun k => rfl)
    simp only [cavilref09_Base.b2]
    unfold baseC
    refine Ev.bif (fun h => ?_) (fun h => ?_)
    · rw [h] at hq
      rw [if_pos (of_decide_eq_true hq.symm)]
      exact Ev.ret
    · rw [h] at hq
      rw [if_neg (of_decide_eq_false hq.symm)]
      refine Ev.gk (inB_iff.2 (by omega)) (Ev.bif (fun h => l3 _ hl ?_) (fun h => Ev.gk (inB_iff.2 (by omega)) (l3 _ hl ?_)))
      · have : byt s 1 = 98 := by simpa using h
        simp [this]
      · have : ¬ byt s 1 = 98 := by simpa using h
        simp [this]
        exact beq_dec _ _
  have l1 : ∀ q, q = decide (s.length < 2 ∨ byt s 0 ≠ 48) → Ev (fun k => cavilref09_Base.go k (.l1 s q)) (baseN s : Int) := by
    intro q hq
    refine Ev.succ (f := fun k => cavilref09_Base.b1 k (cavilref09_Base.go k) s q) ?_ (fun k => rfl)
    simp only [cavilref09_Base.b1]
    unfold baseN
    refine Ev.bif (fun h => ?_) (fun h => ?_)
    · rw [h] at hq
      rw [if_pos (of_decide_eq_true hq.symm)]
      exact Ev.ret
    · rw [h] at hq
      have hn := of_decide_eq_false hq.symm
      rw [if_neg hn]
      refine Ev.gk (inB_iff.2 (by omega)) (Ev.bif (fun h => l2 _ (by omega) ?_) (fun h => Ev.gk (inB_iff.2 (by omega)) (l2 _ (by omega) ?_)))
      · have : byt s 1 = 120 := by simpa using h
        simp [this]
      · have : ¬ byt s 1 = 120 := by simpa using h
        simp [this]
        exact beq_dec _ _
  refine Ev.succ (f := fun k => cavilref09_Base.b0 k (cavilref09_Base.go k) s) ?_ (fun k => rfl)
  simp only [cavilref09_Base.b0]
  refine Ev.bif (fun h => l1 _ ?_) (fun h => Ev.gk (inB_iff.2 ?_) (l1 _ ?_))
  · have := of_decide_eq_true h
    have : s.length < 2 := by omega
    simp [this]
  · have := of_decide_eq_false h; omega
  · have := of_decide_eq_false h
    have : ¬ s.length < 2 := by omega
    simp [this]
    exact congrArg Bool.not (beq_dec _ _)
theorem base_opts (s : List UInt8) : baseN s = 0 ∨ baseN s = 2 ∨ baseN s = 8 ∨ baseN s = 16 := by
  unfold baseN baseC
  split <;> (try split) <;> (try split) <;> (try split) <;> omega
/-! ### Spaces within -/
/-- Is a byte a digit, by up to sixteen if h? -/
def hd (h : Bool) (c : Int) : Bool := if h then decide (hexv c < 16) else dig c
def okU (s : List UInt8) (h : Bool) (i : Nat) : Bool := decide (i + 1 < s.length) && (hd h (byt s ((i + 1 : Nat) : Int)) && (decide (i ≠ 0) && ((h && decide (i = 2)) || hd h (byt s ((i - 1 : Nat) : Int)))))
def spacedL (s : List UInt8) (h : Bool) : Nat → Nat → Bool
  | 0, _ => true
  | m + 1, i => if byt s (i : Int) ≠ 95 then spacedL s h m (i + 1) else okU s h i && spacedL s h m (i + 1)
def spacedF (s : List UInt8) (h : Bool) : Bool := spacedL s h s.length 0
theorem hex_tab : (List.range 256).all (fun n => (dig (n : Int) || (decide (Go.bits .or .u8 (n : Int) 32 ≥ 97) && decide (Go.bits .or .u8 (n : Int) 32 ≤ 102))) == decide (hexv (n : Int) < 16)) = true := by kernel_rfl
theorem hex_or (c : Int) (h0 : 0 ≤ c) (h1 : c < 256) : (dig c || (decide (Go.bits .or .u8 c 32 ≥ 97) && decide (Go.bits .or .u8 c 32 ≤ 102))) = decide (hexv c < 16) := by
  have := byte_cases (fun c => (dig c || (decide (Go.bits .or .u8 c 32 ≥ 97) && decide (Go.bits .or .u8 c 32 ≤ 102))) == decide (hexv c < 16)) hex_tab c h0 h1
  simpa using this
theorem spaced1_ev (c : Int) (h : Bool) (h0 : 0 ≤ c) (h1 : c < 256) : Ev (fun k => number_spaced_1.m k c (if h then 2 else 0)) (hd h c, if h then 2 else 0) := by
  refine Ev.succ (f := fun k => number_spaced_1.b0 k c (if h then 2 else 0)) ?_ (fun k => rfl)
  simp only [number_spaced_1.b0]
  have ho := hex_or c h0 h1
  refine Ev.bind (ndigit_ev c) ?_
  cases h with
  | true =>
    unfold hd
    rw [if_pos rfl, if_pos rfl, ← ho]
    refine Ev.bif (fun hd => ?_) (fun hd => Ev.tt rfl (Ev.bif (fun h2 => ?_) (fun h2 => ?_)))
    · rw [hd]; exact Ev.ret
    · rw [hd, h2]; exact Ev.ret
    · rw [hd, h2]; exact Ev.ret
  | false =>
    unfold hd
    rw [if_neg (by decide), if_neg (by decide)]
    refine Ev.bif (fun hd => ?_) (fun hd => Ev.ff rfl ?_)
    · rw [hd]; exact Ev.ret
    · rw [hd]; exact Ev.ret
theorem byt_lo' (s : List UInt8) (i : Int) : 0 ≤ byt s i ∧ byt s i < 256 := ⟨byt_lo s i, byt_hi s i⟩
theorem spaced_go (s : List UInt8) (h : Bool) (hs : s.length ≤ 100000) : ∀ (m i : Nat), i + m = s.length → Ev (fun k => number_spaced.go k (.l1 (if h then 2 else 0) s (s.length : Int) (i : Int))) (spacedL s h m i)
  | 0, i, hi => by
    refine Ev.succ (f := fun k => number_spaced.b1 k (number_spaced.go k) (if h then 2 else 0) s (s.length : Int) (i : Int)) ?_ (fun k => rfl)
    simp only [number_spaced.b1]
    exact Ev.ff (decide_eq_false (by omega)) Ev.ret
  | m + 1, i, hi => by
    refine Ev.succ (f := fun k => number_spaced.b1 k (number_spaced.go k) (if h then 2 else 0) s (s.length : Int) (i : Int)) ?_ (fun k => rfl)
    simp only [number_spaced.b1]
    have e1 : wr .i64 ((i : Int) + 1) = ((i + 1 : Nat) : Int) := by rw [v64 (by omega) (by omega)]; omega
    have ih := spaced_go s h hs m (i + 1) (by omega)
    rw [e1]
    unfold spacedL
    refine Ev.tt (decide_eq_true (by omega)) (Ev.gk (inB_iff.2 (by omega)) (Ev.bif (fun hc => ?_) (fun hc => ?_)))
    · have hc : byt s (i : Int) ≠ 95 := by simpa using hc
      rw [if_pos hc]
      exact ih
    · have hc : byt s (i : Int) = 95 := by simpa using hc
      rw [if_neg (c := byt s (i : Int) ≠ 95) (by simpa using hc)]
      unfold okU
      refine Ev.bif (fun he => ?_) (fun he => Ev.gk (inB_iff.2 ?_) (Ev.bind (spaced1_ev _ h (byt_lo' s _).1 (byt_lo' s _).2) (Ev.bif (fun h1 => ?_) (fun h1 => ?_))))
      · have he : ((i + 1 : Nat) : Int) = s.length := by simpa using he
        rw [decide_eq_false (show ¬ i + 1 < s.length by omega)]
        exact Ev.ret
      · have he : ¬ ((i + 1 : Nat) : Int) = s.length := by simpa using he
        omega
      · have h1 : hd h (byt s ((i + 1 : Nat) : Int)) = false := by simpa using h1
        rw [h1]
        simp only [Bool.false_and, Bool.and_false]
        exact Ev.ret
      · have he : ¬ ((i + 1 : Nat) : Int) = s.length := by simpa using he
        have h1 : hd h (byt s ((i + 1 : Nat) : Int)) = true := by simpa using h1
        rw [h1, decide_eq_true (show i + 1 < s.length by omega)]
        simp only [Bool.true_and]
        by_cases hi0 : i = 0
        · subst hi0
          simp only [ne_eq, not_true_eq_false, decide_false, Bool.false_and]
          cases h with
          | true => exact Ev.tt rfl (Ev.tt rfl Ev.ret)
          | false => exact Ev.ff rfl (Ev.tt rfl (Ev.tt rfl Ev.ret))
        · rw [decide_eq_true hi0, Bool.true_and]
          have e2 : wr .i64 ((i : Int) - 1) = ((i - 1 : Nat) : Int) := by rw [v64 (by omega) (by omega)]; omega
          rw [e2]
          by_cases hsk : (i : Int) = (if h then 2 else 0)
          · cases h with
            | true =>
              have h2 : i = 2 := by rw [if_pos rfl] at hsk; omega
              subst h2
              simp only [Bool.true_and, decide_true, Bool.true_or]
              exact Ev.ff rfl (Ev.tt rfl (Ev.ff rfl ih))
            | false => rw [if_neg (by decide)] at hsk; omega
          · have hsk2 : (h && decide (i = 2)) = false := by
              cases h with
              | true => rw [if_pos rfl] at hsk; simp; omega
              | false => rfl
            rw [hsk2, Bool.false_or]
            refine Ev.tt (by simpa using hsk) (Ev.ff (by simpa using hi0) (Ev.gk (inB_iff.2 (by omega)) (Ev.bind (spaced1_ev _ h (byt_lo' s _).1 (byt_lo' s _).2) (Ev.bif (fun h3 => ?_) (fun h3 => ?_)))))
            · have h3 : hd h (byt s ((i - 1 : Nat) : Int)) = false := by simpa using h3
              rw [h3]
              exact Ev.ret
            · have h3 : hd h (byt s ((i - 1 : Nat) : Int)) = true := by simpa using h3
              rw [h3, Bool.true_and]
              exact Ev.ff (by simpa using hsk) ih
theorem spaced_ev (s : List UInt8) (h : Bool) (hs : s.length ≤ 100000) : Ev (fun k => number_spaced.m k s (if h then 2 else 0)) (spacedF s h) := by
  refine Ev.succ (f := fun k => number_spaced.b0 k (number_spaced.go k) s (if h then 2 else 0)) ?_ (fun k => rfl)
  exact spaced_go s h hs s.length 0 (by omega)
/-! ### Without spaces -/
def strip (l : List UInt8) : List UInt8 := l.filter (fun b => b != 95)
theorem strip_le (l : List UInt8) : (strip l).length ≤ l.length := List.length_filter_le _ _
theorem index_one_cons (c b : UInt8) (l : List UInt8) : Lib.index (b :: l) [c] = if b = c then 0 else if Lib.index l [c] = -1 then -1 else Lib.index l [c] + 1 := by
  rw [Lib.index]
  by_cases h : b = c
  · subst h; simp [List.isPrefixOf]
  · have : (c == b) = false := by simpa using fun e : c = b => h e.symm
    simp [List.isPrefixOf, this, h]
theorem strip_one (c : UInt8) : ∀ (s : List UInt8), Lib.replaceK [c] [] (Lib.count s [c]) s = s.filter (fun b => b != c)
  | [] => by
    have h : Lib.index [] [c] = -1 := rfl
    rw [Lib.count_miss h]
    rfl
  | b :: l => by
    have ih := strip_one c l
    have hi := index_one_cons c b l
    by_cases h : b = c
    · rw [if_pos h] at hi
      have hc := Lib.count_hit (s := b :: l) (sub := [c]) (i := 0) (by simp) hi
      rw [hc, Nat.add_comm, Lib.replaceK_hit _ _ _ _ 0 hi]
      simp only [List.length_singleton, Nat.zero_add, List.take_zero, List.nil_append, List.drop_succ_cons, List.drop_zero]
      rw [ih]
      simp [h]
    · rw [if_neg h] at hi
      have hf : (b :: l).filter (fun b => b != c) = b :: l.filter (fun b => b != c) := by simp [h]
      rw [hf, ← ih]
      by_cases hm : Lib.index l [c] = -1
      · rw [if_pos hm] at hi
        rw [Lib.count_miss hi, Lib.count_miss hm]
        rfl
      · rw [if_neg hm] at hi
        obtain ⟨i, hi'⟩ : ∃ i : Nat, Lib.index l [c] = i := ⟨(Lib.index l [c]).toNat, by have := Lib.index_ge l [c]; omega⟩
        rw [hi'] at hi
        have hi2 : Lib.index (b :: l) [c] = ((i + 1 : Nat) : Int) := by rw [hi]; omega
        rw [Lib.count_hit (by simp) hi2, Lib.count_hit (by simp) hi', Nat.add_comm, Nat.add_comm 1, Lib.replaceK_hit _ _ _ _ _ hi2, Lib.replaceK_hit _ _ _ _ _ hi']
        simp [List.drop_succ_cons]
theorem replaceAll_strip (s : List UInt8) : Lib.replaceAll s [95] [] = strip s := by
  unfold Lib.replaceAll Lib.replace Lib.replaceNum
  rw [if_neg (by decide), if_pos (.inl (by decide))]
  exact strip_one 95 s
theorem plain_ev (s : List UInt8) (hs : s.length ≤ 100000) : Ev (fun k => number_plain.m k s) (strip s) := by
  refine Ev.succ (f := fun k => number_plain.b0 k s) ?_ (fun k => rfl)
  simp only [number_plain.b0]
  have hst := strip_le s
  rw [replaceAll_strip]
  refine Ev.gk ?_ Ev.ret
  unfold lib_replace.ok
  rw [replaceAll_strip]
  have e1 : Nat.blt s.length 4294967281 = true := by rw [Nat.blt_eq]; omega
  have e2 : Nat.ble (s.length + Lib.countB (mk s) (mk [95]) * ([] : List UInt8).length) 140737488355328 = true := by
    rw [Nat.ble_eq]; simp; omega
  have e3 : Nat.blt (strip s).length 4611686018427387904 = true := by
    rw [Nat.blt_eq]; omega
  rw [e1, e2, e3]
  rfl
/-- A whole number's text: its value, the error's number. -/
def intF (s : List UInt8) : Nat × Int :=
  if s = [] ∨ spacedF s (decide (0 < baseN s)) = false then (0, 8)
  else if 0 < baseN s then parseN (strip (cut s 2 (s.length : Int))) (baseN s)
  else if byt s 0 = 48 ∧ 1 < s.length then parseN (strip (cut s 1 (s.length : Int))) 8
  else parseN (strip s) 10
theorem int_ev (s : List UInt8) (hs : s.length ≤ 100000) : Ev (fun k => number_Int.m k s) (resQ (intF s)) := by
  refine Ev.succ (f := fun k => number_Int.b0 k (number_Int.go k) s) ?_ (fun k => rfl)
  simp only [number_Int.b0]
  refine Ev.bind (base_ev s) ?_
  have l3 : ∀ q, q = decide (byt s 0 = 48 ∧ 1 < s.length) → s ≠ [] → Ev (fun k => number_Int.go k (.l3 false (List.replicate 8 (0 : Int)) s q)) (resQ (if byt s 0 = 48 ∧ 1 < s.length then parseN (strip (cut s 1 (s.length : Int))) 8 else parseN (strip s) 10)) := by
    intro q hq hne
    refine Ev.succ (f := fun k => number_Int.b3 k (number_Int.go k) false (List.replicate 8 (0 : Int)) s q) ?_ (fun k => rfl)
    simp only [number_Int.b3]
    refine Ev.bif (fun h => ?_) (fun h => ?_)
    · rw [h] at hq
      have hh := of_decide_eq_true hq.symm
      rw [if_pos hh]
      have hc := cut_lenI s 1 s.length (by omega) (by omega) (by omega)
      have hst := strip_le (cut s 1 s.length)
      exact Ev.gk (cutB_iff.2 (by omega)) (Ev.bind (plain_ev _ (by omega)) (Ev.bind (parse_ev _ 8 (by decide) (by omega)) Ev.ret))
    · rw [h] at hq
      rw [if_neg (of_decide_eq_false hq.symm)]
      have hst := strip_le s
      exact Ev.bind (plain_ev s hs) (Ev.bind (parse_ev _ 10 (by decide) (by omega)) Ev.ret)
  have l2 : ∀ q, q = decide (s = [] ∨ spacedF s (decide (0 < baseN s)) = false) → Ev (fun k => number_Int.go k (.l2 false (List.replicate 8 (0 : Int)) s (baseN s : Int) q)) (resQ (intF s)) := by
    intro q hq
    refine Ev.succ (f := fun k => number_Int.b2 k (number_Int.go k) false (List.replicate 8 (0 : Int)) s (baseN s : Int) q) ?_ (fun k => rfl)
    simp only [number_Int.b2]
    unfold intF
    refine Ev.bif (fun h => ?_) (fun h => ?_)
    · rw [h] at hq
      rw [if_pos (of_decide_eq_true hq.symm)]
      refine Ev.ret' ?_
      unfold resQ
      rw [toW_zero]
      rfl
    · rw [h] at hq
      have hn := of_decide_eq_false hq.symm
      rw [if_neg hn]
      have hne : s ≠ [] := fun e => hn (.inl e)
      have hl : 0 < s.length := List.length_pos_iff.2 hne
      refine Ev.bif (fun hb => ?_) (fun hb => Ev.gk (inB_iff.2 (by omega)) (Ev.bif (fun hz => ?_) (fun hz => ?_)))
      · have hb := of_decide_eq_true hb
        rw [if_pos (by omega)]
        have h2 : 2 ≤ s.length := by
          refine Nat.le_of_not_lt fun hlt => ?_
          have : baseN s = 0 := by unfold baseN; rw [if_pos (.inl hlt)]
          omega
        have hc := cut_lenI s 2 s.length (by omega) (by omega) (by omega)
        have hst := strip_le (cut s 2 s.length)
        have ho := base_opts s
        exact Ev.gk (cutB_iff.2 (by omega)) (Ev.bind (plain_ev _ (by omega)) (Ev.bind (parse_ev _ (baseN s) (by omega) (by omega)) Ev.ret))
      · have hb := of_decide_eq_false hb
        rw [if_neg (by omega)]
        have hz : byt s 0 = 48 := by simpa using hz
        refine l3 _ ?_ hne
        simp [hz]
        omega
      · have hb := of_decide_eq_false hb
        rw [if_neg (by omega)]
        have hz : ¬ byt s 0 = 48 := by simpa using hz
        refine l3 _ ?_ hne
        simp [hz]
  have l1 : Ev (fun k => number_Int.go k (.l1 false (List.replicate 8 (0 : Int)) s (baseN s : Int) (if decide (0 < baseN s) then 2 else 0))) (resQ (intF s)) := by
    refine Ev.succ (f := fun k => number_Int.b1 k (number_Int.go k) false (List.replicate 8 (0 : Int)) s (baseN s : Int) _) ?_ (fun k => rfl)
    simp only [number_Int.b1]
    refine Ev.bif (fun h => l2 _ ?_) (fun h => Ev.bind (spaced_ev s (decide (0 < baseN s)) hs) (l2 _ ?_))
    · have : s = [] := by simpa using h
      simp [this]
    · have : s ≠ [] := by simpa using h
      simp [this]
  refine Ev.bif (fun h => ?_) (fun h => ?_)
  · have h := of_decide_eq_true h
    rwa [decide_eq_true (show 0 < baseN s by omega), if_pos rfl] at l1
  · have h := of_decide_eq_false h
    rwa [decide_eq_false (show ¬ 0 < baseN s by omega), if_neg (by decide)] at l1
end Go.Proofs.YtaakccdfgejgpaaGreatDoor.Pure
namespace Go.Proofs.YtaakccdfgejgpaaGreatDoor.Pure
open Go Abs
set_option linter.unusedVariables false
set_option linter.unusedSimpArgs false

def startB (b : List UInt8) (at_ : Int) : Bool := decide (0 ≤ at_) && (decide (at_ < (b.length : Int)) && (dig (byt b at_) || (decide (byt b at_ = 46) && (decide (at_ + 1 < (b.length : Int)) && dig (byt b (at_ + 1))))))
def signB (b : List UInt8) (at_ : Int) (h : Bool) (e : Int) : Bool := (decide (byt b e = 43) || decide (byt b e = 45)) && (!h && (decide (at_ < e) && (decide (byt b (e - 1) = 101) || decide (byt b (e - 1) = 69))))
def endB (b : List UInt8) (at_ : Int) (h : Bool) : Nat → Int → Int
  | 0, e => e
  | m + 1, e => if (b.length : Int) ≤ e then e else if (isW (byt b e) || signB b at_ h e) = true then endB b at_ h m (e + 1) else e
def hexB (b : List UInt8) (at_ : Int) : Bool := decide (baseN (cut b at_ (b.length : Int)) = 16)
/-- The literal at a place; empty: there is none. -/
def bodyF (b : List UInt8) (at_ : Int) : List UInt8 := if startB b at_ = true then cut b at_ (endB b at_ (hexB b at_) b.length at_) else []
theorem startB_iff (b : List UInt8) (at_ : Int) : startB b at_ = true ↔ 0 ≤ at_ ∧ at_ < (b.length : Int) ∧ (dig (byt b at_) = true ∨ (byt b at_ = 46 ∧ at_ + 1 < (b.length : Int) ∧ dig (byt b (at_ + 1)) = true)) := by simp [startB]
theorem endB_bd (b : List UInt8) (at_ : Int) (h : Bool) : ∀ (m : Nat) (e : Int), e ≤ (b.length : Int) → e ≤ endB b at_ h m e ∧ endB b at_ h m e ≤ (b.length : Int)
  | 0, e, he => ⟨Int.le_refl _, he⟩
  | m + 1, e, he => by
    unfold endB
    split
    · omega
    · split
      · have := endB_bd b at_ h m (e + 1) (by omega); omega
      · omega
theorem endB_stop (b : List UInt8) (at_ : Int) (h : Bool) : ∀ (m : Nat) (e : Int), (b.length : Int) - e ≤ m → endB b at_ h m e < (b.length : Int) → isW (byt b (endB b at_ h m e)) = false
  | 0, e, he, hl => by unfold endB at hl; omega
  | m + 1, e, he, hl => by
    unfold endB at hl ⊢
    by_cases h1 : (b.length : Int) ≤ e
    · rw [if_pos h1] at hl; omega
    · rw [if_neg h1] at hl ⊢
      by_cases h2 : (isW (byt b e) || signB b at_ h e) = true
      · rw [if_pos h2] at hl ⊢
        exact endB_stop b at_ h m (e + 1) (by omega) hl
      · rw [if_neg h2]
        simp only [Bool.or_eq_true, not_or, Bool.not_eq_true] at h2
        exact h2.1
theorem endB_first (b : List UInt8) (at_ : Int) (h : Bool) (hs : startB b at_ = true) : at_ + 1 ≤ endB b at_ h b.length at_ := by
  obtain ⟨h0, h1, h2⟩ := (startB_iff _ _).1 hs
  obtain ⟨m, hm⟩ : ∃ m, b.length = m + 1 := ⟨b.length - 1, by omega⟩
  have hw : isW (byt b at_) = true := by
    unfold isW
    rcases h2 with h2 | h2
    · simp [h2]
    · simp [h2.1]
  rw [hm, endB, if_neg (by omega), hw, Bool.true_or, if_pos rfl]
  exact (endB_bd b at_ h m (at_ + 1) (by omega)).1
theorem base_cut (b : List UInt8) (at_ e : Int) (h0 : 0 ≤ at_) (h1 : at_ + 2 ≤ e) (h2 : e ≤ (b.length : Int)) : baseN (cut b at_ (at_ + 2)) = baseN (cut b at_ (b.length : Int)) := by
  have l1 := cut_lenI b at_ (at_ + 2) h0 (by omega) (by omega)
  have l2 := cut_lenI b at_ b.length h0 (by omega) (by omega)
  unfold baseN
  rw [cut_byt b at_ (at_ + 2) 0 h0 (by omega) (by omega) (by decide) (by omega), cut_byt b at_ (at_ + 2) 1 h0 (by omega) (by omega) (by decide) (by omega), cut_byt b at_ b.length 0 h0 (by omega) (by omega) (by decide) (by omega), cut_byt b at_ b.length 1 h0 (by omega) (by omega) (by decide) (by omega)]
  have e1 : ¬ (cut b at_ (at_ + 2)).length < 2 := by omega
  have e2 : ¬ (cut b at_ b.length).length < 2 := by omega
  simp only [e1, e2, false_or]
theorem body_go (b : List UInt8) (at_ : Int) (hs : b.length ≤ 100000) (hst : startB b at_ = true) : ∀ (m : Nat) (e : Int), at_ ≤ e → e ≤ (b.length : Int) → (b.length : Int) - e ≤ m →
    Ev (fun k => number_body.go k (.l2 b at_ e)) (cut b at_ (endB b at_ (hexB b at_) m e))
  | 0, e, h1, h2, h3 => by
    obtain ⟨h0, _, _⟩ := (startB_iff _ _).1 hst
    refine Ev.succ (f := fun k => number_body.b2 k (number_body.go k) b at_ e) ?_ (fun k => rfl)
    simp only [number_body.b2]
    exact Ev.ff (decide_eq_false (by omega)) (Ev.gk (cutB_iff.2 (by omega)) Ev.ret)
  | m + 1, e, h1, h2, h3 => by
    obtain ⟨h0, hl, hd⟩ := (startB_iff _ _).1 hst
    refine Ev.succ (f := fun k => number_body.b2 k (number_body.go k) b at_ e) ?_ (fun k => rfl)
    simp only [number_body.b2, getD_byt]
    unfold endB
    by_cases hle : (b.length : Int) ≤ e
    · rw [if_pos hle]
      exact Ev.ff (decide_eq_false (by omega)) (Ev.gk (cutB_iff.2 (by omega)) Ev.ret)
    · rw [if_neg hle]
      have hc := byt_lo' b e
      have hp := byt_lo' b (e - 1)
      have e1 : wr .i64 (e + 1) = e + 1 := v64 (by omega) (by omega)
      have e2 : wr .i64 (e - 1) = e - 1 := v64 (by omega) (by omega)
      have e3 : wr .i64 (at_ + 2) = at_ + 2 := v64 (by omega) (by omega)
      have ih := body_go b at_ hs hst m (e + 1) (by omega) (by omega) (by omega)
      rw [e2, e3]
      have l3 : ∀ q, q = signB b at_ (hexB b at_) e → Ev (fun k => number_body.go k (.l3 b at_ e (byt b e) q)) (cut b at_ (if (isW (byt b e) || signB b at_ (hexB b at_) e) = true then endB b at_ (hexB b at_) m (e + 1) else e)) := by
        intro q hq
        refine Ev.succ (f := fun k => number_body.b3 k (number_body.go k) b at_ e (byt b e) q) ?_ (fun k => rfl)
        simp only [number_body.b3]
        rw [← hq, e1]
        refine Ev.bind (word_ev _ hc.1 hc.2) (Ev.bif (fun hw => Ev.bif (fun hh => ?_) (fun hh => ?_)) (fun hw => ?_))
        · have hw : isW (byt b e) = false := by simpa using hw
          have hh : q = false := by simpa using hh
          rw [hw, hh, Bool.false_or, if_neg (by decide)]
          exact Ev.gk (cutB_iff.2 (by omega)) Ev.ret
        · have hh : q = true := by simpa using hh
          rw [hh, Bool.or_true, if_pos rfl]
          exact ih
        · have hw : isW (byt b e) = true := by simpa using hw
          rw [hw, Bool.true_or, if_pos rfl]
          exact ih
      have sgn : (byt b e = 43 ∨ byt b e = 45) → Ev (fun k => bif (decide (e > at_)) then gk (inB (e - 1) b.length) (bif ((Go.bits .or .u8 (byt b (e - 1)) 32) == 101) then gk (cutB at_ (if e < at_ + 2 then e else at_ + 2) b.length) (bindO (number_base.m k (cut b at_ (if e < at_ + 2 then e else at_ + 2))) fun r1 => number_body.go k (.l3 b at_ e (byt b e) (r1 != 16))) else number_body.go k (.l3 b at_ e (byt b e) false)) else number_body.go k (.l3 b at_ e (byt b e) false)) (cut b at_ (if (isW (byt b e) || signB b at_ (hexB b at_) e) = true then endB b at_ (hexB b at_) m (e + 1) else e)) := by
        intro hcc
        have hcb : (decide (byt b e = 43) || decide (byt b e = 45)) = true := by rcases hcc with h | h <;> simp [h]
        have hs1 : signB b at_ (hexB b at_) e = (!hexB b at_ && (decide (at_ < e) && (decide (byt b (e - 1) = 101) || decide (byt b (e - 1) = 69)))) := by
          unfold signB; rw [hcb, Bool.true_and]
        refine Ev.bif (fun hg => Ev.gk (inB_iff.2 (by have := of_decide_eq_true hg; omega)) ?_) (fun hg => l3 _ ?_)
        · have hg := of_decide_eq_true hg
          rw [or_e _ hp.1 hp.2]
          refine Ev.bif (fun he => ?_) (fun he => l3 _ ?_)
          · have hne : e ≠ at_ + 1 := by
              intro hh
              subst hh
              rw [Int.add_sub_cancel] at he
              simp only [Bool.or_eq_true, decide_eq_true_eq] at he
              rcases hd with hd | hd
              · have := (dig_iff _).1 hd; omega
              · omega
            rw [if_neg (by omega)]
            refine Ev.gk (cutB_iff.2 (by omega)) (Ev.bind (base_ev _) (l3 _ ?_))
            rw [hs1, he, decide_eq_true (show at_ < e by omega), base_cut b at_ e h0 (by omega) h2]
            unfold hexB
            simp only [Bool.and_true]
            rw [bne, beq_dec]
            congr 1
            rw [decide_eq_decide]
            omega
          · rw [hs1, he]
            simp
        · have hg := of_decide_eq_false hg
          rw [hs1, decide_eq_false (by omega)]
          simp
      refine Ev.tt (decide_eq_true (by omega)) (Ev.gk (inB_iff.2 (by omega)) (Ev.bif (fun hc => ?_) (fun hc => Ev.bif (fun hc' => ?_) (fun hc' => l3 _ ?_))))
      · exact sgn (.inl (by simpa using hc))
      · exact sgn (.inr (by simpa using hc'))
      · have h1 : ¬ byt b e = 43 := by simpa using hc
        have h2 : ¬ byt b e = 45 := by simpa using hc'
        unfold signB
        simp [h1, h2]
theorem body_ev (b : List UInt8) (at_ : Int) (hs : b.length ≤ 100000) : Ev (fun k => number_body.m k b at_) (bodyF b at_) := by
  have l1 : ∀ q, q = !startB b at_ → Ev (fun k => number_body.go k (.l1 b at_ q)) (bodyF b at_) := by
    intro q hq
    refine Ev.succ (f := fun k => number_body.b1 k (number_body.go k) b at_ q) ?_ (fun k => rfl)
    simp only [number_body.b1]
    unfold bodyF
    refine Ev.bif (fun h => ?_) (fun h => ?_)
    · rw [h] at hq
      have : startB b at_ = false := by simpa using hq.symm
      rw [if_neg (by rw [this]; decide)]
      exact Ev.ret
    · rw [h] at hq
      have hst : startB b at_ = true := by simpa using hq.symm
      obtain ⟨h0, hl, hd⟩ := (startB_iff _ _).1 hst
      rw [if_pos hst]
      exact body_go b at_ hs hst b.length at_ (Int.le_refl _) (by omega) (by omega)
  refine Ev.succ (f := fun k => number_body.b0 k (number_body.go k) b at_) ?_ (fun k => rfl)
  simp only [number_body.b0, getD_byt]
  refine Ev.bif (fun h => l1 _ ?_) (fun h => Ev.bif (fun h' => l1 _ ?_) (fun h' => ?_))
  · have := of_decide_eq_true h
    unfold startB
    rw [decide_eq_false (by omega)]; rfl
  · have := of_decide_eq_true h'
    unfold startB
    rw [decide_eq_false (show ¬ at_ < (b.length : Int) by omega)]; simp
  · have g0 := of_decide_eq_false h
    have g1 := of_decide_eq_false h'
    have e1 : wr .i64 (at_ + 1) = at_ + 1 := v64 (by omega) (by omega)
    have e2 : wr .i64 ((b.length : Int) - 1) = (b.length : Int) - 1 := v64 (by omega) (by omega)
    rw [e1, e2]
    have hs0 : startB b at_ = (dig (byt b at_) || (decide (byt b at_ = 46) && (decide (at_ + 1 < (b.length : Int)) && dig (byt b (at_ + 1))))) := by
      unfold startB
      rw [decide_eq_true (show 0 ≤ at_ by omega), decide_eq_true (show at_ < (b.length : Int) by omega)]
      rfl
    rw [hs0] at l1
    refine Ev.gk (inB_iff.2 (by omega)) (Ev.bind (ndigit_ev _) (Ev.bif (fun hd => Ev.gk (inB_iff.2 (by omega)) (Ev.bif (fun hc => l1 _ ?_) (fun hc => Ev.bif (fun he => l1 _ ?_) (fun he => Ev.gk (inB_iff.2 ?_) (Ev.bind (ndigit_ev _) (l1 _ ?_)))))) (fun hd => l1 _ ?_)))
    · have hd : dig (byt b at_) = false := by simpa using hd
      have hc : byt b at_ ≠ 46 := by simpa using hc
      simp [hd, hc]
    · have hd : dig (byt b at_) = false := by simpa using hd
      have he : at_ = (b.length : Int) - 1 := by simpa using he
      rw [hd, decide_eq_false (show ¬ at_ + 1 < (b.length : Int) by omega)]
      simp
    · have he : ¬ at_ = (b.length : Int) - 1 := by simpa using he
      omega
    · have hd : dig (byt b at_) = false := by simpa using hd
      have hc : byt b at_ = 46 := by simpa using hc
      have he : ¬ at_ = (b.length : Int) - 1 := by simpa using he
      rw [hd, decide_eq_true hc, decide_eq_true (show at_ + 1 < (b.length : Int) by omega)]
      simp
    · have hd : dig (byt b at_) = true := by simpa using hd
      simp [hd]
end Go.Proofs.YtaakccdfgejgpaaGreatDoor.Pure
