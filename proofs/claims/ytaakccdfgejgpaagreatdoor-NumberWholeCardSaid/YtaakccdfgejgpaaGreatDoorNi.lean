/-
  Chapter 09, plain: texts of literals.
-/
import Derived.Test.YtaakccdfgejgpaaGreatDoorNh
import Derived.Lib.Replace
import Derived.Lib.CountLaws
namespace Go.Proofs.YtaakccdfgejgpaaGreatDoor.Pure
open Go Abs
set_option linter.unusedVariables false
set_option linter.unusedSimpArgs false

theorem byt_nat (l : List UInt8) (i : Nat) : byt l (i : Int) = ((l.getD i 0).toNat : Int) := by unfold byt; rw [Int.toNat_natCast]
def dig (c : Int) : Bool := decide (48 ≤ c) && decide (c ≤ 57)
theorem dig_iff (c : Int) : dig c = true ↔ 48 ≤ c ∧ c ≤ 57 := by simp [dig]
theorem ndigit_ev (c : Int) : Ev (fun k => number_digit.m k c) (dig c) := by
  refine Ev.succ (f := fun k => number_digit.b0 k c) ?_ (fun k => rfl)
  simp only [number_digit.b0]
  unfold dig
  refine Ev.bif (fun h => Ev.ret' ?_) (fun h => Ev.ret' ?_)
  · have := of_decide_eq_true h; simp [this]
  · have := of_decide_eq_false h; simp [this]
theorem rdigit_ev (c : Int) : Ev (fun k => cavilref09_digit.m k c) (dig c) := by
  refine Ev.succ (f := fun k => cavilref09_digit.b0 k c) ?_ (fun k => rfl)
  simp only [cavilref09_digit.b0]
  unfold dig
  refine Ev.bif (fun h => Ev.ret' ?_) (fun h => Ev.ret' ?_)
  · have := of_decide_eq_true h; simp [this]
  · have := of_decide_eq_false h; simp [this]
def letr (c : Int) : Bool := (decide (97 ≤ c) && decide (c ≤ 122)) || (decide (65 ≤ c) && decide (c ≤ 90))
def isW (c : Int) : Bool := decide (c = 95) || (decide (c = 46) || (dig c || letr c))
theorem word_tab (k : Nat) : (List.range 256).all (fun n => number_word.m (k + 20) (n : Int) == some (isW (n : Int)) && (cavilref09_letter.m (k + 20) (n : Int) == some (letr (n : Int)))) = true := by kernel_rfl
theorem word_ev (c : Int) (h0 : 0 ≤ c) (h1 : c < 256) : Ev (fun k => number_word.m k c) (isW c) := by
  refine ⟨20, fun k hk => ?_⟩
  obtain ⟨j, rfl⟩ : ∃ j, k = j + 20 := ⟨k - 20, by omega⟩
  have := byte_cases (fun c => number_word.m (j + 20) c == some (isW c) && (cavilref09_letter.m (j + 20) c == some (letr c))) (word_tab j) c h0 h1
  simp only [Bool.and_eq_true, beq_iff_eq] at this
  exact this.1
theorem letter_ev (c : Int) (h0 : 0 ≤ c) (h1 : c < 256) : Ev (fun k => cavilref09_letter.m k c) (letr c) := by
  refine ⟨20, fun k hk => ?_⟩
  obtain ⟨j, rfl⟩ : ∃ j, k = j + 20 := ⟨k - 20, by omega⟩
  have := byte_cases (fun c => number_word.m (j + 20) c == some (isW c) && (cavilref09_letter.m (j + 20) c == some (letr c))) (word_tab j) c h0 h1
  simp only [Bool.and_eq_true, beq_iff_eq] at this
  exact this.2
theorem or_e_tab : (List.range 256).all (fun n => (Go.bits .or .u8 (n : Int) 32 == 101) == (decide ((n : Int) = 101) || decide ((n : Int) = 69))) = true := by kernel_rfl
theorem or_e (c : Int) (h0 : 0 ≤ c) (h1 : c < 256) : (Go.bits .or .u8 c 32 == 101) = (decide (c = 101) || decide (c = 69)) := by
  have := byte_cases (fun c => (Go.bits .or .u8 c 32 == 101) == (decide (c = 101) || decide (c = 69))) or_e_tab c h0 h1
  simpa using this
def baseC (c : Int) : Nat := if c = 120 ∨ c = 88 then 16 else if c = 98 ∨ c = 66 then 2 else if c = 111 ∨ c = 79 then 8 else 0
/-- The base that two letters tell. -/
def baseN (s : List UInt8) : Nat := if s.length < 2 ∨ byt s 0 ≠ 48 then 0 else baseC (byt s 1)
theorem base_ev (s : List UInt8) : Ev (fun k => number_base.m k s) (baseN s : Int) := by
  have l2 : ∀ c q, q = decide (c = 120 ∨ c = 88) → Ev (fun k => number_base.go k (.l2 c q)) (baseC c : Int) := by
    intro c q hq
    refine Ev.succ (f := fun k => number_base.b2 k (number_base.go k) c q) ?_ (fun k => rfl)
    simp only [number_base.b2]
    unfold baseC
    refine Ev.bif (fun h => ?_) (fun h => ?_)
    · rw [h] at hq
      rw [if_pos (of_decide_eq_true hq.symm)]
      exact Ev.ret
    · rw [h] at hq
      rw [if_neg (of_decide_eq_false hq.symm)]
      by_cases a1 : c = 98
      · subst a1; exact Ev.ret
      · by_cases a2 : c = 66
        · subst a2; exact Ev.ret
        · by_cases a3 : c = 111
          · subst a3; exact Ev.ret
          · by_cases a4 : c = 79
            · subst a4; exact Ev.ret
            · rw [if_neg (by omega), if_neg (by omega)]
              exact Ev.ff (by simpa using a1) (Ev.ff (by simpa using a2) (Ev.ff (by simpa using a3) (Ev.ff (by simpa using a4) Ev.ret)))
  have l1 : ∀ q, q = decide (s.length < 2 ∨ byt s 0 ≠ 48) → Ev (fun k => number_base.go k (.l1 s q)) (baseN s : Int) := by
    intro q hq
    refine Ev.succ (f := fun k => number_base.b1 k (number_base.go k) s q) ?_ (fun k => rfl)
    simp only [number_base.b1]
    unfold baseN
    refine Ev.bif (fun h => ?_) (fun h => ?_)
    · rw [h] at hq
      rw [if_pos (of_decide_eq_true hq.symm)]
      exact Ev.ret
    · rw [h] at hq
      have hn := of_decide_eq_false hq.symm
      rw [if_neg hn]
      refine Ev.gk (inB_iff.2 (by omega)) (Ev.bif (fun h => l2 _ _ ?_) (fun h => l2 _ _ ?_))
      · have : byt s 1 = 120 := by simpa using h
        simp [this]
      · have : ¬ byt s 1 = 120 := by simpa using h
        simp [this]
        exact beq_dec _ _
  refine Ev.succ (f := fun k => number_base.b0 k (number_base.go k) s) ?_ (fun k => rfl)
  simp only [number_base.b0]
  refine Ev.bif (fun h => l1 _ ?_) (fun h => Ev.gk (inB_iff.2 ?_) (l1 _ ?_))
  · have := of_decide_eq_true h
    have : s.length < 2 := by omega
    simp [this]
  · have := of_decide_eq_false h; omega
  · have := of_decide_eq_false h
    have : ¬ s.length < 2 := by omega
    simp [this]
    exact congrArg Bool.not (beq_dec _ _)
theorem rbase_ev (s : List UInt8) : Ev (fun k => cavilref09_Base.m k s) (baseN s : Int) := by
  have l3 : ∀ q, 2 ≤ s.length → q = decide (byt s 1 = 98 ∨ byt s 1 = 66) → Ev (fun k => cavilref09_Base.go k (.l3 s q)) ((if byt s 1 = 98 ∨ byt s 1 = 66 then 2 else if byt s 1 = 111 ∨ byt s 1 = 79 then 8 else 0 : Nat) : Int) := by
    intro q hl hq
    refine Ev.succ (f := fun k => cavilref09_Base.b3 k (cavilref09_Base.go k) s q) ?_ (fun k => rfl)
    simp only [cavilref09_Base.b3]
    refine Ev.bif (fun h => ?_) (fun h => ?_)
    · rw [h] at hq
      rw [if_pos (of_decide_eq_true hq.symm)]
      exact Ev.ret
    · rw [h] at hq
      rw [if_neg (of_decide_eq_false hq.symm)]
      refine Ev.gk (inB_iff.2 (by omega)) (Ev.bif (fun h => ?_) (fun h => Ev.gk (inB_iff.2 (by omega)) (Ev.bif (fun h' => ?_) (fun h' => ?_))))
      · rw [if_pos (.inl (by simpa using h))]; exact Ev.ret
      · rw [if_pos (.inr (by simpa using h'))]; exact Ev.ret
      · rw [if_neg (fun x => x.elim (by simpa using h) (by simpa using h'))]; exact Ev.ret
  have l2 : ∀ q, 2 ≤ s.length → q = decide (byt s 1 = 120 ∨ byt s 1 = 88) → Ev (fun k => cavilref09_Base.go k (.l2 s q)) (baseC (byt s 1) : Int) := by
    intro q hl hq
    refine Ev.succ (f := fun k => cavilref09_Base.b2 k (cavilref09_Base.go k) s q) ?_ (fun k => rfl)
    simp only [cavilref09_Base.b2]
    unfold baseC
    refine Ev.bif (fun h => ?_) (fun h => ?_)
    · rw [h] at hq
      rw [if_pos (of_decide_eq_true hq.symm)]
      exact Ev.ret
    · rw [h] at hq
      rw [if_neg (of_decide_eq_false hq.symm)]
      refine Ev.gk (inB_iff.2 (by omega)) (Ev.bif (fun h => l3 _ hl ?_) (fun h => Ev.gk (inB_iff.2 (by omega)) (l3 _ hl ?_)))
      · have : byt s 1 = 98 := by simpa using h
        simp [this]
      · have : ¬ byt s 1 = 98 := by simpa using h
        simp [this]
        exact beq_dec _ _
  have l1 : ∀ q, q = decide (s.length < 2 ∨ byt s 0 ≠ 48) → Ev (fun k => cavilref09_Base.go k (.l1 s q)) (baseN s : Int) := by
    intro q hq
    refine Ev.succ (f := fun k => cavilref09_Base.b1 k (cavilref09_Base.go k) s q) ?_ (fun k => rfl)
    simp only [cavilref09_Base.b1]
    unfold baseN
    refine Ev.bif (fun h => ?_) (fun h => ?_)
    · rw [h] at hq
      rw [if_pos (of_decide_eq_true hq.symm)]
      exact Ev.ret
    · rw [h] at hq
      have hn := of_decide_eq_false hq.symm
      rw [if_neg hn]
      refine Ev.gk (inB_iff.2 (by omega)) (Ev.bif (fun h => l2 _ (by omega) ?_) (fun h => Ev.gk (inB_iff.2 (by omega)) (l2 _ (by omega) ?_)))
      · have : byt s 1 = 120 := by simpa using h
        simp [this]
      · have : ¬ byt s 1 = 120 := by simpa using h
        simp [this]
        exact beq_dec _ _
  refine Ev.succ (f := fun k => cavilref09_Base.b0 k (cavilref09_Base.go k) s) ?_ (fun k => rfl)
  simp only [cavilref09_Base.b0]
  refine Ev.bif (fun h => l1 _ ?_) (fun h => Ev.gk (inB_iff.2 ?_) (l1 _ ?_))
  · have := of_decide_eq_true h
    have : s.length < 2 := by omega
    simp [this]
  · have := of_decide_eq_false h; omega
  · have := of_decide_eq_false h
    have : ¬ s.length < 2 := by omega
    simp [this]
    exact congrArg Bool.not (beq_dec _ _)
theorem base_opts (s : List UInt8) : baseN s = 0 ∨ baseN s = 2 ∨ baseN s = 8 ∨ baseN s = 16 := by
  unfold baseN baseC
  split <;> (try split) <;> (try split) <;> (try split) <;> omega
/-! ### Spaces within -/
/-- Is a byte a digit, by up to sixteen if h? -/
def hd (h : Bool) (c : Int) : Bool := if h then decide (hexv c < 16) else dig c
def okU (s : List UInt8) (h : Bool) (i : Nat) : Bool := decide (i + 1 < s.length) && (hd h (byt s ((i + 1 : Nat) : Int)) && (decide (i ≠ 0) && ((h && decide (i = 2)) || hd h (byt s ((i - 1 : Nat) : Int)))))
def spacedL (s : List UInt8) (h : Bool) : Nat → Nat → Bool
  | 0, _ => true
  | m + 1, i => if byt s (i : Int) ≠ 95 then spacedL s h m (i + 1) else okU s h i && spacedL s h m (i + 1)
def spacedF (s : List UInt8) (h : Bool) : Bool := spacedL s h s.length 0
theorem hex_tab : (List.range 256).all (fun n => (dig (n : Int) || (decide (Go.bits .or .u8 (n : Int) 32 ≥ 97) && decide (Go.bits .or .u8 (n : Int) 32 ≤ 102))) == decide (hexv (n : Int) < 16)) = true := by kernel_rfl
theorem hex_or (c : Int) (h0 : 0 ≤ c) (h1 : c < 256) : (dig c || (decide (Go.bits .or .u8 c 32 ≥ 97) && decide (Go.bits .or .u8 c 32 ≤ 102))) = decide (hexv c < 16) := by
  have := byte_cases (fun c => (dig c || (decide (Go.bits .or .u8 c 32 ≥ 97) && decide (Go.bits .or .u8 c 32 ≤ 102))) == decide (hexv c < 16)) hex_tab c h0 h1
  simpa using this
theorem spaced1_ev (c : Int) (h : Bool) (h0 : 0 ≤ c) (h1 : c < 256) : Ev (fun k => number_spaced_1.m k c (if h then 2 else 0)) (hd h c, if h then 2 else 0) := by
  refine Ev.succ (f := fun k => number_spaced_1.b0 k c (if h then 2 else 0)) ?_ (fun k => rfl)
  simp only [number_spaced_1.b0]
  have ho := hex_or c h0 h1
  refine Ev.bind (ndigit_ev c) ?_
  cases h with
  | true =>
    unfold hd
    rw [if_pos rfl, if_pos rfl, ← ho]
    refine Ev.bif (fun hd => ?_) (fun hd => Ev.tt rfl (Ev.bif (fun h2 => ?_) (fun h2 => ?_)))
    · rw [hd]; exact Ev.ret
    · rw [hd, h2]; exact Ev.ret
    · rw [hd, h2]; exact Ev.ret
  | false =>
    unfold hd
    rw [if_neg (by decide), if_neg (by decide)]
    refine Ev.bif (fun hd => ?_) (fun hd => Ev.ff rfl ?_)
    · rw [hd]; exact Ev.ret
    · rw [hd]; exact Ev.ret
theorem byt_lo' (s : List UInt8) (i : Int) : 0 ≤ byt s i ∧ byt s i < 256 := ⟨byt_lo s i, byt_hi s i⟩
theorem spaced_go (s : List UInt8) (h : Bool) (hs : s.length ≤ 100000) : ∀ (m i : Nat), i + m = s.length → Ev (fun k => number_spaced.go k (.l1 (if h then 2 else 0) s (s.length : Int) (i : Int))) (spacedL s h m i)
  | 0, i, hi => by
    refine Ev.succ (f := fun k => number_spaced.b1 k (number_spaced.go k) (if h then 2 else 0) s (s.length : Int) (i : Int)) ?_ (fun k => rfl)
    simp only [number_spaced.b1]
    exact Ev.ff (decide_eq_false (by omega)) Ev.ret
  | m + 1, i, hi => by
    refine Ev.succ (f := fun k => number_spaced.b1 k (number_spaced.go k) (if h then 2 else 0) s (s.length : Int) (i : Int)) ?_ (fun k => rfl)
    simp only [number_spaced.b1]
    have e1 : wr .i64 ((i : Int) + 1) = ((i + 1 : Nat) : Int) := by rw [v64 (by omega) (by omega)]; omega
    have ih := spaced_go s h hs m (i + 1) (by omega)
    rw [e1]
    unfold spacedL
    refine Ev.tt (decide_eq_true (by omega)) (Ev.gk (inB_iff.2 (by omega)) (Ev.bif (fun hc => ?_) (fun hc => ?_)))
    · have hc : byt s (i : Int) ≠ 95 := by simpa using hc
      rw [if_pos hc]
      exact ih
    · have hc : byt s (i : Int) = 95 := by simpa using hc
      rw [if_neg (c := byt s (i : Int) ≠ 95) (by simpa using hc)]
      unfold okU
      refine Ev.bif (fun he => ?_) (fun he => Ev.gk (inB_iff.2 ?_) (Ev.bind (spaced1_ev _ h (byt_lo' s _).1 (byt_lo' s _).2) (Ev.bif (fun h1 => ?_) (fun h1 => ?_))))
      · have he : ((i + 1 : Nat) : Int) = s.length := by simpa using he
        rw [decide_eq_false (show ¬ i + 1 < s.length by omega)]
        exact Ev.ret
      · have he : ¬ ((i + 1 : Nat) : Int) = s.length := by simpa using he
        omega
      · have h1 : hd h (byt s ((i + 1 : Nat) : Int)) = false := by simpa using h1
        rw [h1]
        simp only [Bool.false_and, Bool.and_false]
        exact Ev.ret
      · have he : ¬ ((i + 1 : Nat) : Int) = s.length := by simpa using he
        have h1 : hd h (byt s ((i + 1 : Nat) : Int)) = true := by simpa using h1
        rw [h1, decide_eq_true (show i + 1 < s.length by omega)]
        simp only [Bool.true_and]
        by_cases hi0 : i = 0
        · subst hi0
          simp only [ne_eq, not_true_eq_false, decide_false, Bool.false_and]
          cases h with
          | true => exact Ev.tt rfl (Ev.tt rfl Ev.ret)
          | false => exact Ev.ff rfl (Ev.tt rfl (Ev.tt rfl Ev.ret))
        · rw [decide_eq_true hi0, Bool.true_and]
          have e2 : wr .i64 ((i : Int) - 1) = ((i - 1 : Nat) : Int) := by rw [v64 (by omega) (by omega)]; omega
          rw [e2]
          by_cases hsk : (i : Int) = (if h then 2 else 0)
          · cases h with
            | true =>
              have h2 : i = 2 := by rw [if_pos rfl] at hsk; omega
              subst h2
              simp only [Bool.true_and, decide_true, Bool.true_or]
              exact Ev.ff rfl (Ev.tt rfl (Ev.ff rfl ih))
            | false => rw [if_neg (by decide)] at hsk; omega
          · have hsk2 : (h && decide (i = 2)) = false := by
              cases h with
              | true => rw [if_pos rfl] at hsk; simp; omega
              | false => rfl
            rw [hsk2, Bool.false_or]
            refine Ev.tt (by simpa using hsk) (Ev.ff (by simpa using hi0) (Ev.gk (inB_iff.2 (by omega)) (Ev.bind (spaced1_ev _ h (byt_lo' s _).1 (byt_lo' s _).2) (Ev.bif (fun h3 => ?_) (fun h3 => ?_)))))
            · have h3 : hd h (byt s ((i - 1 : Nat) : Int)) = false := by simpa using h3
              rw [h3]
              exact Ev.ret
            · have h3 : hd h (byt s ((i - 1 : Nat) : Int)) = true := by simpa using h3
              rw [h3, Bool.true_and]
              exact Ev.ff (by simpa using hsk) ih
theorem spaced_ev (s : List UInt8) (h : Bool) (hs : s.length ≤ 100000) : Ev (fun k => number_spaced.m k s (if h then 2 else 0)) (spacedF s h) := by
  refine Ev.succ (f := fun k => number_spaced.b0 k (number_spaced.go k) s (if h then 2 else 0)) ?_ (fun k => rfl)
  exact spaced_go s h hs s.length 0 (by omega)
/-! ### Without spaces -/
def strip (l : List UInt8) : List UInt8 := l.filter (fun b => b != 95)
theorem strip_le (l : List UInt8) : (strip l).length ≤ l.length := List.length_filter_le _ _
theorem index_one_cons (c b : UInt8) (l : List UInt8) : Lib.index (b :: l) [c] = if b = c then 0 else if Lib.index l [c] = -1 then -1 else Lib.index l [c] + 1 := by
  rw [Lib.index]
  by_cases h : b = c
  · subst h; simp [List.isPrefixOf]
  · have : (c == b) = false := by simpa using fun e : c = b => h e.symm
    simp [List.isPrefixOf, this, h]
theorem strip_one (c : UInt8) : ∀ (s : List UInt8), Lib.replaceK [c] [] (Lib.count s [c]) s = s.filter (fun b => b != c)
  | [] => by
    have h : Lib.index [] [c] = -1 := rfl
    rw [Lib.count_miss h]
    rfl
  | b :: l => by
    have ih := strip_one c l
    have hi := index_one_cons c b l
    by_cases h : b = c
    · rw [if_pos h] at hi
      have hc := Lib.count_hit (s := b :: l) (sub := [c]) (i := 0) (by simp) hi
      rw [hc, Nat.add_comm, Lib.replaceK_hit _ _ _ _ 0 hi]
      simp only [List.length_singleton, Nat.zero_add, List.take_zero, List.nil_append, List.drop_succ_cons, List.drop_zero]
      rw [ih]
      simp [h]
    · rw [if_neg h] at hi
      have hf : (b :: l).filter (fun b => b != c) = b :: l.filter (fun b => b != c) := by simp [h]
      rw [hf, ← ih]
      by_cases hm : Lib.index l [c] = -1
      · rw [if_pos hm] at hi
        rw [Lib.count_miss hi, Lib.count_miss hm]
        rfl
      · rw [if_neg hm] at hi
        obtain ⟨i, hi'⟩ : ∃ i : Nat, Lib.index l [c] = i := ⟨(Lib.index l [c]).toNat, by have := Lib.index_ge l [c]; omega⟩
        rw [hi'] at hi
        have hi2 : Lib.index (b :: l) [c] = ((i + 1 : Nat) : Int) := by rw [hi]; omega
        rw [Lib.count_hit (by simp) hi2, Lib.count_hit (by simp) hi', Nat.add_comm, Nat.add_comm 1, Lib.replaceK_hit _ _ _ _ _ hi2, Lib.replaceK_hit _ _ _ _ _ hi']
        simp [List.drop_succ_cons]
theorem replaceAll_strip (s : List UInt8) : Lib.replaceAll s [95] [] = strip s := by
  unfold Lib.replaceAll Lib.replace Lib.replaceNum
  rw [if_neg (by decide), if_pos (.inl (by decide))]
  exact strip_one 95 s
theorem plain_ev (s : List UInt8) (hs : s.length ≤ 100000) : Ev (fun k => number_plain.m k s) (strip s) := by
  refine Ev.succ (f := fun k => number_plain.b0 k s) ?_ (fun k => rfl)
  simp only [number_plain.b0]
  have hst := strip_le s
  rw [replaceAll_strip]
  refine Ev.gk ?_ Ev.ret
  unfold lib_replace.ok
  rw [replaceAll_strip]
  have e1 : Nat.blt s.length 4294967281 = true := by rw [Nat.blt_eq]; omega
  have e2 : Nat.ble (s.length + Lib.countB (mk s) (mk [95]) * ([] : List UInt8).length) 140737488355328 = true := by
    rw [Nat.ble_eq]; simp; omega
  have e3 : Nat.blt (strip s).length 4611686018427387904 = true := by
    rw [Nat.blt_eq]; omega
  rw [e1, e2, e3]
  rfl
/-- A whole number's text: its value, the error's number. -/
def intF (s : List UInt8) : Nat × Int :=
  if s = [] ∨ spacedF s (decide (0 < baseN s)) = false then (0, 8)
  else if 0 < baseN s then parseN (strip (cut s 2 (s.length : Int))) (baseN s)
  else if byt s 0 = 48 ∧ 1 < s.length then parseN (strip (cut s 1 (s.length : Int))) 8
  else parseN (strip s) 10
theorem int_ev (s : List UInt8) (hs : s.length ≤ 100000) : Ev (fun k => number_Int.m k s) (resQ (intF s)) := by
  refine Ev.succ (f := fun k => number_Int.b0 k (number_Int.go k) s) ?_ (fun k => rfl)
  simp only [number_Int.b0]
  refine Ev.bind (base_ev s) ?_
  have l3 : ∀ q, q = decide (byt s 0 = 48 ∧ 1 < s.length) → s ≠ [] → Ev (fun k => number_Int.go k (.l3 false (List.replicate 8 (0 : Int)) s q)) (resQ (if byt s 0 = 48 ∧ 1 < s.length then parseN (strip (cut s 1 (s.length : Int))) 8 else parseN (strip s) 10)) := by
    intro q hq hne
    refine Ev.succ (f := fun k => number_Int.b3 k (number_Int.go k) false (List.replicate 8 (0 : Int)) s q) ?_ (fun k => rfl)
    simp only [number_Int.b3]
    refine Ev.bif (fun h => ?_) (fun h => ?_)
    · rw [h] at hq
      have hh := of_decide_eq_true hq.symm
      rw [if_pos hh]
      have hc := cut_lenI s 1 s.length (by omega) (by omega) (by omega)
      have hst := strip_le (cut s 1 s.length)
      exact Ev.gk (cutB_iff.2 (by omega)) (Ev.bind (plain_ev _ (by omega)) (Ev.bind (parse_ev _ 8 (by decide) (by omega)) Ev.ret))
    · rw [h] at hq
      rw [if_neg (of_decide_eq_false hq.symm)]
      have hst := strip_le s
      exact Ev.bind (plain_ev s hs) (Ev.bind (parse_ev _ 10 (by decide) (by omega)) Ev.ret)
  have l2 : ∀ q, q = decide (s = [] ∨ spacedF s (decide (0 < baseN s)) = false) → Ev (fun k => number_Int.go k (.l2 false (List.replicate 8 (0 : Int)) s (baseN s : Int) q)) (resQ (intF s)) := by
    intro q hq
    refine Ev.succ (f := fun k => number_Int.b2 k (number_Int.go k) false (List.replicate 8 (0 : Int)) s (baseN s : Int) q) ?_ (fun k => rfl)
    simp only [number_Int.b2]
    unfold intF
    refine Ev.bif (fun h => ?_) (fun h => ?_)
    · rw [h] at hq
      rw [if_pos (of_decide_eq_true hq.symm)]
      refine Ev.ret' ?_
      unfold resQ
      rw [toW_zero]
      rfl
    · rw [h] at hq
      have hn := of_decide_eq_false hq.symm
      rw [if_neg hn]
      have hne : s ≠ [] := fun e => hn (.inl e)
      have hl : 0 < s.length := List.length_pos_iff.2 hne
      refine Ev.bif (fun hb => ?_) (fun hb => Ev.gk (inB_iff.2 (by omega)) (Ev.bif (fun hz => ?_) (fun hz => ?_)))
      · have hb := of_decide_eq_true hb
        rw [if_pos (by omega)]
        have h2 : 2 ≤ s.length := by
          refine Nat.le_of_not_lt fun hlt => ?_
          have : baseN s = 0 := by unfold baseN; rw [if_pos (.inl hlt)]
          omega
        have hc := cut_lenI s 2 s.length (by omega) (by omega) (by omega)
        have hst := strip_le (cut s 2 s.length)
        have ho := base_opts s
        exact Ev.gk (cutB_iff.2 (by omega)) (Ev.bind (plain_ev _ (by omega)) (Ev.bind (parse_ev _ (baseN s) (by omega) (by omega)) Ev.ret))
      · have hb := of_decide_eq_false hb
        rw [if_neg (by omega)]
        have hz : byt s 0 = 48 := by simpa using hz
        refine l3 _ ?_ hne
        simp [hz]
        omega
      · have hb := of_decide_eq_false hb
        rw [if_neg (by omega)]
        have hz : ¬ byt s 0 = 48 := by simpa using hz
        refine l3 _ ?_ hne
        simp [hz]
  have l1 : Ev (fun k => number_Int.go k (.l1 false (List.replicate 8 (0 : Int)) s (baseN s : Int) (if decide (0 < baseN s) then 2 else 0))) (resQ (intF s)) := by
    refine Ev.succ (f := fun k => number_Int.b1 k (number_Int.go k) false (List.replicate 8 (0 : Int)) s (baseN s : Int) _) ?_ (fun k => rfl)
    simp only [number_Int.b1]
    refine Ev.bif (fun h => l2 _ ?_) (fun h => Ev.bind (spaced_ev s (decide (0 < baseN s)) hs) (l2 _ ?_))
    · have : s = [] := by simpa using h
      simp [this]
    · have : s ≠ [] := by simpa using h
      simp [this]
  refine Ev.bif (fun h => ?_) (fun h => ?_)
  · have h := of_decide_eq_true h
    rwa [decide_eq_true (show 0 < baseN s by omega), if_pos rfl] at l1
  · have h := of_decide_eq_false h
    rwa [decide_eq_false (show ¬ 0 < baseN s by omega), if_neg (by decide)] at l1
end Go.Proofs.YtaakccdfgejgpaaGreatDoor.Pure
