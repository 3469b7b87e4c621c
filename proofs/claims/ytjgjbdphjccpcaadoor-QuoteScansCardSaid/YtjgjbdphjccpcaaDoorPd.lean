/-
  Chapter 10, plain: escapes.
-/
import Derived.Test.YtjgjbdphjccpcaaDoorPc
namespace Go.Proofs.YtjgjbdphjccpcaaDoor.Pure
open Go Abs
set_option linter.unusedVariables false

theorem num_lt (s : List UInt8) (b : Int) (hb : 1 ≤ b) : ∀ (n : Nat) (i v w : Int), 0 ≤ v → num s b n i v = some w → w < (v + 1) * b ^ n
  | 0, i, v, w, hv, h => by cases h; simp; omega
  | n + 1, i, v, w, hv, h => by
    unfold num at h
    split at h
    · cases h
    · rename_i hd
      have h0 := hexv_lo (byt s i)
      have hm : 0 ≤ v * b := Int.mul_nonneg hv (by omega)
      have ih := num_lt s b hb n (i + 1) (v * b + hexv (byt s i)) w (by omega) h
      have hp : (0 : Int) ≤ b ^ n := Int.le_of_lt (Int.pow_pos (by omega))
      have e : (v + 1) * b ^ (n + 1) = (v * b + b) * b ^ n := by
        rw [Int.pow_succ, Int.mul_comm (b ^ n) b, ← Int.mul_assoc, Int.add_mul, Int.one_mul]
      rw [e]
      exact Int.lt_of_lt_of_le ih (Int.mul_le_mul_of_nonneg_right (by omega) hp)

/-- A number of n digits at i, none above mx. -/
def esc1F (s : List UInt8) (i n : Nat) (b mx : Int) : Int × Bool × Int :=
  if s.length < i + n then (0, false, 0) else match numL s b n i 0 with
    | some v => if v > mx then (0, false, 0) else (v, mx == 255, (i : Int) + n)
    | none => (0, false, 0)
theorem esc1_fin (s : List UInt8) (i n : Nat) (mx v : Int) (c : Bool) (hi : i ≤ 10) (hn : n ≤ 9) (r : Int × Bool × Int × List UInt8) (h : r = if c = true then (0, false, 0, s) else (v, mx == 255, (i : Int) + n, s)) :
    Ev (fun k => quote_escape_1.go k (.l1 s i n mx v c)) r := by
  refine Ev.succ (f := fun k => quote_escape_1.b1 k (quote_escape_1.go k) s i n mx v c) ?_ (fun k => rfl)
  simp only [quote_escape_1.b1]
  subst h
  have e : wr .i64 ((i : Int) + n) = i + n := w64 (by omega) (by omega)
  rw [e]
  cases c
  · exact Ev.ret
  · exact Ev.ret
theorem esc1_ev (s : List UInt8) (i n : Nat) (b mx : Int) (hb : 8 ≤ b ∧ b ≤ 16) (hs : s.length ≤ 100000) (hi : i ≤ 10) (hn : n ≤ 9) (hl : i ≤ s.length) :
    Ev (fun k => quote_escape_1.m k i n b mx s) ((esc1F s i n b mx).1, (esc1F s i n b mx).2.1, (esc1F s i n b mx).2.2, s) := by
  refine Ev.succ (f := fun k => quote_escape_1.b0 k (quote_escape_1.go k) i n b mx s) ?_ (fun k => rfl)
  simp only [quote_escape_1.b0]
  refine Ev.gk (cutB_iff.2 (by omega)) (Ev.bind (digits_ev _ n b hb hn) ?_)
  have hc := cut_lenI s i s.length (by omega) (by omega) (by omega)
  unfold esc1F
  by_cases hlt : s.length < i + n
  · rw [if_pos hlt, if_pos (by omega)]
    exact Ev.tt rfl (esc1_fin _ _ _ _ _ _ hi hn _ rfl)
  · rw [if_neg hlt, if_neg (by omega), numL_cut s b i s.length (by omega) (by omega) n 0 0 (by omega) (by omega)]
    simp only [Int.add_zero]
    cases numL s b n i 0 with
    | none => exact Ev.tt rfl (esc1_fin _ _ _ _ _ _ hi hn _ rfl)
    | some v =>
      refine Ev.ff rfl (esc1_fin _ _ _ _ _ _ hi hn _ ?_)
      by_cases hv : v > mx
      · simp [hv, digR]
      · simp [hv, digR]

def simF (c q : Int) : Int :=
  if c = 97 then 7 else if c = 98 then 8 else if c = 102 then 12 else if c = 110 then 10 else if c = 114 then 13 else if c = 116 then 9 else if c = 118 then 11
  else if c = 92 ∨ c = q then c else 0
theorem simple_ev (c q : Int) : Ev (fun k => quote_simple.m k c q) (simF c q) := by
  refine Ev.succ (f := fun k => quote_simple.b0 k c q) ?_ (fun k => rfl)
  simp only [quote_simple.b0]
  unfold simF
  refine Ev.bif (fun h => Ev.ret' ?_) (fun h => Ev.bif (fun h => Ev.ret' ?_) (fun h => Ev.bif (fun h => Ev.ret' ?_) (fun h => Ev.bif (fun h => Ev.ret' ?_) (fun h => Ev.bif (fun h => Ev.ret' ?_) (fun h => Ev.bif (fun h => Ev.ret' ?_) (fun h => Ev.bif (fun h => Ev.ret' ?_) (fun h => Ev.bif (fun h => Ev.bif (fun h => Ev.ret' ?_) (fun h => Ev.ret' ?_)) (fun h => Ev.bif (fun h => Ev.ret' ?_) (fun h => Ev.ret' ?_))))))))) <;> simp_all
def runeR (t : Int × Bool × Int) : Int × Bool × Int := if vld t.1 = true then t else (0, false, 0)
theorem runeOf_ev (t : Int × Bool × Int) : Ev (fun k => quote_runeOf.m k t.1 t.2.1 t.2.2) (runeR t) := by
  refine Ev.succ (f := fun k => quote_runeOf.b0 k t.1 t.2.1 t.2.2) ?_ (fun k => rfl)
  simp only [quote_runeOf.b0]
  refine Ev.bind (encode_ev t.1) ?_
  unfold encR runeR
  by_cases h : vld t.1 = true
  · rw [if_pos h, if_pos h]
    exact Ev.ff rfl Ev.ret
  · rw [if_neg h, if_neg h]
    exact Ev.tt rfl Ev.ret
def escF (s : List UInt8) (q : Int) : Int × Bool × Int :=
  if s.length < 2 then (0, false, 0)
  else if simF (byt s 1) q ≠ 0 then (simF (byt s 1) q, true, 2)
  else if byt s 1 = 120 then esc1F s 2 2 16 255
  else if byt s 1 = 117 then runeR (esc1F s 2 4 16 1114111)
  else if byt s 1 = 85 then runeR (esc1F s 2 8 16 1114111)
  else esc1F s 1 3 8 255
theorem simF_rng (c q : Int) (h0 : 0 ≤ c) (h1 : c < 256) : 0 ≤ simF c q ∧ simF c q < 256 := by
  unfold simF
  repeat' split
  all_goals omega
theorem escape_ev (s : List UInt8) (q : Int) (hs : s.length ≤ 100000) : Ev (fun k => quote_escape.m k s q) (escF s q) := by
  refine Ev.succ (f := fun k => quote_escape.b0 k s q) ?_ (fun k => rfl)
  simp only [quote_escape.b0]
  unfold escF
  refine Ev.bif (fun h => ?_) (fun h => ?_)
  · have := of_decide_eq_true h
    rw [if_pos (by omega)]
    exact Ev.ret
  · have := of_decide_eq_false h
    rw [if_neg (by omega)]
    refine Ev.gk (inB_iff.2 (by omega)) (Ev.bind (simple_ev _ _) ?_)
    have hr := simF_rng (byt s 1) q (byt_lo s 1) (byt_hi s 1)
    refine Ev.bif (fun h => ?_) (fun h => ?_)
    · have h' : simF (byt s 1) q ≠ 0 := by simpa using h
      rw [if_pos h', show wr .i32 (simF (byt s 1) q) = _ from w32 (by omega) (by omega)]
      exact Ev.ret
    · have h' : ¬ simF (byt s 1) q ≠ 0 := by simpa using h
      rw [if_neg h']
      refine Ev.gk (inB_iff.2 (by omega)) (Ev.bif (fun h => ?_) (fun h => Ev.bif (fun h' => ?_) (fun h' => Ev.bif (fun h'' => ?_) (fun h'' => ?_))))
      · rw [if_pos (by simpa using h)]
        exact Ev.bind (esc1_ev s 2 2 16 255 (by decide) hs (by decide) (by decide) (by omega)) Ev.ret
      · rw [if_neg (by simpa using h), if_pos (by simpa using h')]
        exact Ev.bind (esc1_ev s 2 4 16 1114111 (by decide) hs (by decide) (by decide) (by omega)) (Ev.bind (runeOf_ev (esc1F s 2 4 16 1114111)) Ev.ret)
      · rw [if_neg (by simpa using h), if_neg (by simpa using h'), if_pos (by simpa using h'')]
        exact Ev.bind (esc1_ev s 2 8 16 1114111 (by decide) hs (by decide) (by decide) (by omega)) (Ev.bind (runeOf_ev (esc1F s 2 8 16 1114111)) Ev.ret)
      · rw [if_neg (by simpa using h), if_neg (by simpa using h'), if_neg (by simpa using h'')]
        exact Ev.bind (esc1_ev s 1 3 8 255 (by decide) hs (by decide) (by decide) (by omega)) Ev.ret
end Go.Proofs.YtjgjbdphjccpcaaDoor.Pure
