/-
  Chapter 09, plain: what a literal is worth.
-/
import Derived.Test.YtaakccdfgejgpaaGreatDoorM2
namespace Go.Proofs.YtaakccdfgejgpaaGreatDoor.Pure
open Go Abs
set_option linter.unusedVariables false
set_option linter.unusedSimpArgs false

theorem cut_take {α : Type} (l : List α) (n : Nat) : cut l 0 (n : Int) = l.take n := by simp [cut]
theorem cut_drop {α : Type} (l : List α) (n : Nat) : cut l (n : Int) (l.length : Int) = l.drop n := by simp [cut]
def nE (c : UInt8) : Bool := !(decide ((c.toNat : Int) = 101) || decide ((c.toNat : Int) = 69))
def nD (c : UInt8) : Bool := c != 46
/-- What stands before the exponent's letter; that letter and what follows. -/
def mantB (p : List UInt8) : List UInt8 := p.takeWhile nE
def exB (p : List UInt8) : List UInt8 := p.dropWhile nE
def exT (p : List UInt8) : List UInt8 := (exB p).tail
def unsB : List UInt8 → List UInt8
  | [] => []
  | c :: t => if c = 45 ∨ c = 43 then t else c :: t
def allD (s : List UInt8) : Bool := s.all (fun c => dig (c.toNat : Int))
def exN (p : List UInt8) : Int := if exB p = [] then -1 else ((mantB p).length : Int)
theorem mant_ex (p : List UInt8) : mantB p ++ exB p = p := List.takeWhile_append_dropWhile
theorem u8i (c : UInt8) : 0 ≤ (c.toNat : Int) ∧ (c.toNat : Int) < 256 := by have := u8_lt c; omega
theorem exponent_go (p : List UInt8) (hs : p.length ≤ 100000) : ∀ (m i : Nat), i + m = p.length → Ev (fun k => number_exponent.go k (.l1 p (p.length : Int) (i : Int))) (if exB (p.drop i) = [] then -1 else ((i + (mantB (p.drop i)).length : Nat) : Int))
  | 0, i, h => by
    refine Ev.succ (f := fun k => number_exponent.b1 k (number_exponent.go k) p (p.length : Int) (i : Int)) ?_ (fun k => rfl)
    simp only [number_exponent.b1]
    rw [List.drop_eq_nil_of_le (by omega)]
    exact Ev.ff (decide_eq_false (by omega)) Ev.ret
  | m + 1, i, h => by
    refine Ev.succ (f := fun k => number_exponent.b1 k (number_exponent.go k) p (p.length : Int) (i : Int)) ?_ (fun k => rfl)
    simp only [number_exponent.b1, Int.toNat_natCast]
    have ih := exponent_go p hs m (i + 1) (by omega)
    rw [drop_at p i (by omega)]
    generalize p.getD i 0 = c
    have hc := u8i c
    have ei : wr .i64 ((i : Int) + 1) = ((i + 1 : Nat) : Int) := by rw [v64 (by omega) (by omega)]; omega
    rw [ei, or_e _ hc.1 hc.2]
    refine Ev.tt (decide_eq_true (by omega)) (Ev.gk (inB_iff.2 (by omega)) (Ev.bif (fun he => ?_) (fun he => ?_)))
    · have hn : nE c = false := by unfold nE; rw [he]; rfl
      unfold exB mantB
      rw [List.dropWhile_cons, List.takeWhile_cons, hn]
      exact Ev.ret' (by simp)
    · have hn : nE c = true := by unfold nE; rw [he]; rfl
      unfold exB mantB at ih ⊢
      rw [List.dropWhile_cons, List.takeWhile_cons, hn]
      refine ih.to ?_
      simp only [if_true, List.length_cons]
      rw [show i + ((List.takeWhile nE (List.drop (i + 1) p)).length + 1) = i + 1 + (List.takeWhile nE (List.drop (i + 1) p)).length by omega]
theorem exponent_ev (p : List UInt8) (hs : p.length ≤ 100000) : Ev (fun k => number_exponent.m k p) (exN p) := by
  refine Ev.succ (f := fun k => number_exponent.b0 k (number_exponent.go k) p) ?_ (fun k => rfl)
  have := exponent_go p hs p.length 0 (by omega)
  rw [List.drop_zero, Nat.zero_add] at this
  exact this
theorem digits_go (p : List UInt8) (hs : p.length ≤ 100000) : ∀ (m i : Nat), i + m = p.length → Ev (fun k => number_digits.go k (.l1 p (p.length : Int) (i : Int))) (allD (p.drop i))
  | 0, i, h => by
    refine Ev.succ (f := fun k => number_digits.b1 k (number_digits.go k) p (p.length : Int) (i : Int)) ?_ (fun k => rfl)
    simp only [number_digits.b1]
    rw [List.drop_eq_nil_of_le (by omega)]
    exact Ev.ff (decide_eq_false (by omega)) Ev.ret
  | m + 1, i, h => by
    refine Ev.succ (f := fun k => number_digits.b1 k (number_digits.go k) p (p.length : Int) (i : Int)) ?_ (fun k => rfl)
    simp only [number_digits.b1, Int.toNat_natCast]
    have ih := digits_go p hs m (i + 1) (by omega)
    rw [drop_at p i (by omega)]
    generalize p.getD i 0 = c
    have ei : wr .i64 ((i : Int) + 1) = ((i + 1 : Nat) : Int) := by rw [v64 (by omega) (by omega)]; omega
    rw [ei]
    unfold allD at ih ⊢
    rw [List.all_cons]
    refine Ev.tt (decide_eq_true (by omega)) (Ev.gk (inB_iff.2 (by omega)) (Ev.bind (ndigit_ev _) (Ev.bif (fun he => ?_) (fun he => ?_))))
    · have he : dig (c.toNat : Int) = false := by simpa using he
      rw [he, Bool.false_and]
      exact Ev.ret
    · have he : dig (c.toNat : Int) = true := by simpa using he
      rw [he, Bool.true_and]
      exact ih
theorem digits_ev (p : List UInt8) (hs : p.length ≤ 100000) : Ev (fun k => number_digits.m k p) (allD p) := by
  refine Ev.succ (f := fun k => number_digits.b0 k (number_digits.go k) p) ?_ (fun k => rfl)
  exact digits_go p hs p.length 0 (by omega)
/-! ### A letter cut off -/
theorem pre_ev (s : List UInt8) (c : UInt8) : Ev (fun k => stringslite_HasPrefix.m k s [c]) (decide (s.head? = some c)) := by
  refine Ev.succ (f := fun k => stringslite_HasPrefix.b0 k s [c]) ?_ (fun k => rfl)
  simp only [stringslite_HasPrefix.b0]
  cases s with
  | nil => exact Ev.ff rfl Ev.ret
  | cons a t =>
    refine Ev.tt (decide_eq_true (by simp only [List.length_cons, List.length_nil]; omega)) (Ev.gk (cutB_iff.2 (by simp only [List.length_cons, List.length_nil]; omega)) (Ev.ret' ?_))
    have : cut (a :: t) 0 (([c] : List UInt8).length : Int) = [a] := cut_take (a :: t) 1
    rw [this, Bool.eq_iff_iff]
    simp
theorem hasp_ev (s : List UInt8) (c : UInt8) : Ev (fun k => strings_HasPrefix.m k s [c]) (decide (s.head? = some c)) := by
  refine Ev.succ (f := fun k => strings_HasPrefix.b0 k s [c]) ?_ (fun k => rfl)
  exact Ev.bind (pre_ev s c) Ev.ret
def trimB (s : List UInt8) (c : UInt8) : List UInt8 := if s.head? = some c then s.tail else s
theorem trimp_ev (s : List UInt8) (c : UInt8) : Ev (fun k => strings_TrimPrefix.m k s [c]) (trimB s c) := by
  refine Ev.succ (f := fun k => strings_TrimPrefix.b0 k s [c]) ?_ (fun k => rfl)
  refine Ev.bind (a := trimB s c) ?_ Ev.ret
  refine Ev.succ (f := fun k => stringslite_TrimPrefix.b0 k s [c]) ?_ (fun k => rfl)
  unfold trimB
  refine Ev.bind (pre_ev s c) (Ev.bif (fun h => ?_) (fun h => ?_))
  · have h := of_decide_eq_true h
    rw [if_pos h]
    have hl : 1 ≤ s.length := by cases s with | nil => cases h | cons a t => simp
    refine Ev.gk (cutB_iff.2 (by simp only [List.length_cons, List.length_nil]; omega)) (Ev.ret' ?_)
    have : cut s (([c] : List UInt8).length : Int) (s.length : Int) = s.drop 1 := cut_drop s 1
    rw [this, List.drop_one]
  · rw [if_neg (of_decide_eq_false h)]
    exact Ev.ret
theorem uns_trim (s : List UInt8) : unsB s = if trimB s 45 = s then trimB s 43 else trimB s 45 := by
  cases s with
  | nil => rfl
  | cons c t =>
    unfold unsB trimB
    by_cases h : c = 45
    · subst h; simp
    · by_cases h' : c = 43
      · subst h'; simp
      · simp [h, h']
theorem lcut_dot (m : List UInt8) : Lib.cut m [46] = (m.takeWhile nD, (m.dropWhile nD).tail, decide (m.dropWhile nD ≠ [])) := by
  have key : ∀ l : List UInt8, Lib.index l [46] = if l.dropWhile nD = [] then -1 else ((l.takeWhile nD).length : Int) := by
    intro l
    induction l with
    | nil => rfl
    | cons b l ih =>
      rw [index_one_cons, List.dropWhile_cons, List.takeWhile_cons, ih]
      by_cases h : b = 46
      · subst h; rfl
      · have hn : nD b = true := by simp [nD, h]
        rw [if_neg h, hn]
        simp only [if_true]
        by_cases h2 : List.dropWhile nD l = []
        · simp [h2]
        · rw [if_neg h2, if_neg (by omega), if_neg h2]
          simp
  have hta : m.takeWhile nD ++ m.dropWhile nD = m := List.takeWhile_append_dropWhile
  unfold Lib.cut
  rw [key]
  by_cases h : m.dropWhile nD = []
  · rw [if_pos h, if_neg (by decide), h]
    rw [h, List.append_nil] at hta
    rw [hta]
    rfl
  · rw [if_neg h, if_pos (by omega), Int.toNat_natCast, decide_eq_true h]
    generalize m.takeWhile nD = a at *
    generalize m.dropWhile nD = b at *
    subst hta
    simp [List.drop_append]
def partsF (p : List UInt8) : List UInt8 × List UInt8 × List UInt8 × Bool :=
  if exB p ≠ [] ∧ (unsB (exT p) = [] ∨ allD (unsB (exT p)) = false) then ([], [], [], false)
  else ((mantB p).takeWhile nD, ((mantB p).dropWhile nD).tail, exT p, allD ((mantB p).takeWhile nD) && (allD (((mantB p).dropWhile nD).tail) && (decide ((mantB p).takeWhile nD ++ ((mantB p).dropWhile nD).tail ≠ []) && (decide ((mantB p).dropWhile nD ≠ []) || decide (exB p ≠ [])))))
theorem parts_ev (p : List UInt8) (hs : p.length ≤ 100000) : Ev (fun k => number_parts.m k p) (partsF p) := by
  have hme := congrArg List.length (mant_ex p)
  rw [List.length_append] at hme
  have l2 : ¬ (exB p ≠ [] ∧ (unsB (exT p) = [] ∨ allD (unsB (exT p)) = false)) → Ev (fun k => number_parts.go k (.l2 (exT p) (mantB p) (exN p))) (partsF p) := by
    intro hn
    refine Ev.succ (f := fun k => number_parts.b2 k (number_parts.go k) (exT p) (mantB p) (exN p)) ?_ (fun k => rfl)
    simp only [number_parts.b2, lcut_dot]
    have hta := congrArg List.length (List.takeWhile_append_dropWhile (p := nD) (l := mantB p))
    rw [List.length_append] at hta
    have htl := List.length_tail (l := (mantB p).dropWhile nD)
    have hx : decide (exN p ≥ 0) = decide (exB p ≠ []) := by
      unfold exN
      split <;> simp_all
    unfold partsF
    rw [if_neg hn]
    refine Ev.gk ?_ (Ev.bind (digits_ev _ (by omega)) (Ev.bif (fun h1 => Ev.bind (digits_ev _ (by omega)) (Ev.bif (fun h2 => Ev.gk (roomS_iff.2 (by omega)) ?_) (fun h2 => ?_))) (fun h1 => ?_)))
    · unfold lib_cut.ok; rw [Nat.blt_eq]; omega
    · rw [h1, h2, hx]
      simp only [Bool.true_and]
      refine Ev.bif (fun h3 => Ev.bif (fun h4 => ?_) (fun h4 => ?_)) (fun h3 => ?_)
      · have h3' : (mantB p).takeWhile nD ++ ((mantB p).dropWhile nD).tail ≠ [] := by simpa using h3
        rw [decide_eq_true h3', h4]
        exact Ev.ret
      · have h3' : (mantB p).takeWhile nD ++ ((mantB p).dropWhile nD).tail ≠ [] := by simpa using h3
        rw [decide_eq_true h3', h4]
        exact Ev.ret
      · have h3' : ¬ (mantB p).takeWhile nD ++ ((mantB p).dropWhile nD).tail ≠ [] := by simpa using h3
        rw [decide_eq_false h3']
        exact Ev.ret
    · rw [h1, h2]; exact Ev.ret
    · rw [h1]; exact Ev.ret
  refine Ev.succ (f := fun k => number_parts.b0 k (number_parts.go k) p) ?_ (fun k => rfl)
  simp only [number_parts.b0]
  refine Ev.bind (exponent_ev p hs) (Ev.bif (fun h => ?_) (fun h => ?_))
  · have h := of_decide_eq_true h
    have hne : exB p ≠ [] := by intro e; unfold exN at h; rw [if_pos e] at h; omega
    have hxl := List.length_pos_iff.2 hne
    have hx : exN p = ((mantB p).length : Int) := by unfold exN; rw [if_neg hne]
    have e1 : wr .i64 (exN p + 1) = (((mantB p).length + 1 : Nat) : Int) := by rw [hx, v64 (by omega) (by omega)]; omega
    have c1 : cut p 0 (exN p) = mantB p := by
      rw [hx, cut_take]
      have := List.take_left (l₁ := mantB p) (l₂ := exB p)
      rwa [mant_ex] at this
    have c2 : cut p (wr .i64 (exN p + 1)) (p.length : Int) = exT p := by
      rw [e1, cut_drop]
      have := List.drop_append (l₁ := mantB p) (l₂ := exB p) (i := (mantB p).length + 1)
      have hdn : List.drop ((mantB p).length + 1) (mantB p) = [] := List.drop_eq_nil_of_le (by omega)
      rw [mant_ex, hdn, show (mantB p).length + 1 - (mantB p).length = 1 by omega, List.drop_one] at this
      exact this
    have hxT : (exT p).length = (exB p).length - 1 := List.length_tail
    have hul : (unsB (exT p)).length ≤ (exT p).length := by
      cases exT p with
      | nil => exact Nat.le_refl _
      | cons c t =>
        rw [unsB]
        split
        · simp
        · exact Nat.le_refl _
    rw [c1, c2]
    have l3 : ∀ q, q = decide (unsB (exT p) = [] ∨ allD (unsB (exT p)) = false) → Ev (fun k => number_parts.go k (.l3 (exT p) (mantB p) (exN p) q)) (partsF p) := by
      intro q hq
      refine Ev.succ (f := fun k => number_parts.b3 k (number_parts.go k) (exT p) (mantB p) (exN p) q) ?_ (fun k => rfl)
      simp only [number_parts.b3]
      refine Ev.bif (fun h => ?_) (fun h => ?_)
      · rw [h] at hq
        unfold partsF
        rw [if_pos ⟨hne, of_decide_eq_true hq.symm⟩]
        exact Ev.ret
      · rw [h] at hq
        exact l2 (fun h => of_decide_eq_false hq.symm h.2)
    have l1 : Ev (fun k => number_parts.go k (.l1 (exT p) (mantB p) (exN p) (unsB (exT p)))) (partsF p) := by
      refine Ev.succ (f := fun k => number_parts.b1 k (number_parts.go k) (exT p) (mantB p) (exN p) (unsB (exT p))) ?_ (fun k => rfl)
      simp only [number_parts.b1]
      refine Ev.bif (fun h => l3 _ ?_) (fun h => Ev.bind (digits_ev _ (by omega)) (l3 _ ?_))
      · have : unsB (exT p) = [] := by simpa using h
        simp [this]
      · have : unsB (exT p) ≠ [] := by simpa using h
        simp [this]
    rw [uns_trim] at l1
    refine Ev.gk (cutB_iff.2 (by omega)) (Ev.gk (cutB_iff.2 (by omega)) (Ev.bind (trimp_ev _ _) (Ev.bif (fun h => Ev.bind (trimp_ev _ _) ?_) (fun h => ?_))))
    · have h : trimB (exT p) 45 = exT p := by simpa using h
      rw [if_pos h] at l1
      exact l1
    · have h : ¬ trimB (exT p) 45 = exT p := by simpa using h
      rw [if_neg h] at l1
      exact l1
  · have h := of_decide_eq_false h
    have he : exB p = [] := by
      refine Classical.byContradiction fun hne => ?_
      unfold exN at h; rw [if_neg hne] at h; omega
    have hm : mantB p = p := by have := mant_ex p; rwa [he, List.append_nil] at this
    have ht : exT p = [] := by unfold exT; rw [he]; rfl
    have := l2 (fun h => h.1 he)
    rw [hm, ht] at this
    exact this
end Go.Proofs.YtaakccdfgejgpaaGreatDoor.Pure
namespace Go.Proofs.YtaakccdfgejgpaaGreatDoor.Pure
open Go Abs
set_option linter.unusedVariables false
set_option linter.unusedSimpArgs false

/-! ### A power of ten -/
def decA : List UInt8 → Int → Int
  | [], a => a
  | c :: t, a => decA t (10 * a + ((c.toNat : Int) - 48))
def powI (x : List UInt8) : Int := if x.head? = some 45 then -decA (unsB x) 0 else decA (unsB x) 0
theorem decA_bd : ∀ (t : List UInt8) (a : Int) (n : Nat), allD t = true → 0 ≤ a → a < 10 ^ n → 0 ≤ decA t a ∧ decA t a < 10 ^ (n + t.length)
  | [], a, n, _, h0, h1 => ⟨h0, h1⟩
  | c :: t, a, n, h, h0, h1 => by
    unfold allD at h
    rw [List.all_cons, Bool.and_eq_true] at h
    have hc := (dig_iff _).1 h.1
    have := decA_bd t (10 * a + ((c.toNat : Int) - 48)) (n + 1) h.2 (by omega) (by rw [Int.pow_succ]; omega)
    rw [decA, List.length_cons, show n + (t.length + 1) = n + 1 + t.length by omega]
    exact this
theorem decA_5 (t : List UInt8) (h : allD t = true) (hl : t.length ≤ 5) : 0 ≤ decA t 0 ∧ decA t 0 < 100000 := by
  have := decA_bd t 0 (5 - t.length) h (by omega) (Int.pow_pos (by omega))
  rw [show 5 - t.length + t.length = 5 by omega] at this
  exact this
theorem pow10_le (i : Nat) (h : i ≤ 5) : (10 : Int) ^ i ≤ 100000 := by
  have : i = 0 ∨ i = 1 ∨ i = 2 ∨ i = 3 ∨ i = 4 ∨ i = 5 := by omega
  rcases this with rfl | rfl | rfl | rfl | rfl | rfl <;> decide
theorem uns_power (x : List UInt8) (h : allD (unsB x) = true) : trimB (trimB x 45) 43 = unsB x := by
  cases x with
  | nil => rfl
  | cons c t =>
    rw [unsB] at h ⊢
    by_cases hc : c = 45
    · subst hc
      rw [if_pos (.inl rfl)] at h ⊢
      show trimB t 43 = t
      unfold trimB
      refine if_neg fun e => ?_
      cases t with
      | nil => cases e
      | cons a t =>
        cases e
        exact absurd h (by simp [allD, dig])
    · by_cases hd : c = 43
      · subst hd; rfl
      · unfold trimB
        simp [hc, hd]
def powR (x : List UInt8) : Int × Er := if 5 < (unsB x).length then (0, .no 9) else (powI x, .nil)
theorem power_go (t : List UInt8) (neg : Bool) (hl : t.length ≤ 5) : ∀ (m i : Nat) (a : Int), i + m = t.length → allD (t.drop i) = true → 0 ≤ a → a < 10 ^ i →
    Ev (fun k => number_power.go k (.l1 t neg a (t.length : Int) (i : Int))) (if neg = true then -decA (t.drop i) a else decA (t.drop i) a, .nil)
  | 0, i, a, h, hd, h0, h1 => by
    refine Ev.succ (f := fun k => number_power.b1 k (number_power.go k) t neg a (t.length : Int) (i : Int)) ?_ (fun k => rfl)
    simp only [number_power.b1]
    have hp := pow10_le i (by omega)
    rw [List.drop_eq_nil_of_le (by omega)]
    refine Ev.ff (decide_eq_false (by omega)) (Ev.bif (fun hn => Ev.ret' ?_) (fun hn => Ev.ret' ?_))
    · rw [hn, if_pos rfl, v64 (by omega) (by omega)]
      simp [decA]
    · rw [hn, if_neg (by decide)]
      simp [decA]
  | m + 1, i, a, h, hd, h0, h1 => by
    refine Ev.succ (f := fun k => number_power.b1 k (number_power.go k) t neg a (t.length : Int) (i : Int)) ?_ (fun k => rfl)
    simp only [number_power.b1, Int.toNat_natCast]
    have ih := power_go t neg hl m (i + 1)
    rw [drop_at t i (by omega)] at hd ⊢
    generalize t.getD i 0 = c at hd ⊢
    unfold allD at hd
    rw [List.all_cons, Bool.and_eq_true] at hd
    have hc := (dig_iff _).1 hd.1
    have hp := pow10_le i (by omega)
    have ei : wr .i64 ((i : Int) + 1) = ((i + 1 : Nat) : Int) := by rw [v64 (by omega) (by omega)]; omega
    have e1 : wr .u8 ((c.toNat : Int) - 48) = (c.toNat : Int) - 48 := w8 (by omega) (by omega)
    have e2 : wr .i64 ((c.toNat : Int) - 48) = (c.toNat : Int) - 48 := v64 (by omega) (by omega)
    have e3 : wr .i64 (10 * a) = 10 * a := v64 (by omega) (by omega)
    have e4 : wr .i64 (10 * a + ((c.toNat : Int) - 48)) = 10 * a + ((c.toNat : Int) - 48) := v64 (by omega) (by omega)
    rw [ei, e1, e2, e3, e4]
    exact Ev.tt (decide_eq_true (by omega)) (Ev.gk (inB_iff.2 (by omega)) (ih _ (by omega) hd.2 (by omega) (by rw [Int.pow_succ]; omega)))
theorem power_ev (x : List UInt8) (h : allD (unsB x) = true) : Ev (fun k => number_power.m k x) (powR x) := by
  refine Ev.succ (f := fun k => number_power.b0 k (number_power.go k) x) ?_ (fun k => rfl)
  simp only [number_power.b0]
  unfold powR
  refine Ev.bind (hasp_ev _ _) (Ev.bind (trimp_ev _ _) (Ev.bind (trimp_ev _ _) ?_))
  rw [uns_power x h]
  refine Ev.bif (fun hl => ?_) (fun hl => ?_)
  · have hl := of_decide_eq_true hl
    rw [if_pos (by omega)]
    exact Ev.ret
  · have hl := of_decide_eq_false hl
    rw [if_neg (by omega)]
    have := power_go (unsB x) (decide (x.head? = some 45)) (by omega) (unsB x).length 0 0 (by omega) h (by omega) (by simp)
    refine this.to ?_
    unfold powI
    simp
/-! ### Scaling -/
def upR : Nat → Nat → Nat → Option (Nat × Nat)
  | 0, n, d => some (n, d)
  | m + 1, n, d => match lowR (n * 10) (d * 1) with
    | none => none
    | some (a, b) => upR m a b
def dnR : Nat → Nat → Nat → Option (Nat × Nat)
  | 0, n, d => some (n, d)
  | m + 1, n, d => match lowR (n * 1) (d * 10) with
    | none => none
    | some (a, b) => dnR m a b
def scaleF (n d : Nat) (e : Int) : Option (Nat × Nat) := if 1000 < e ∨ e < -1000 then none else if e < 0 then dnR (0 - e).toNat n d else upR e.toNat n d
theorem sup_go (E : Nat) (hE : E ≤ 1000) : ∀ (m i n d : Nat), i + m = E → n < M512 → d < M512 → okR n d = true →
    Ev (fun k => ratio_Scale.go k (.l4 false (toW n) false (toW d) false (List.replicate 8 0) false (List.replicate 8 0) 10 (E : Int) (i : Int))) (resR (upR m n d))
  | 0, i, n, d, h, hn, hd, ho => by
    refine Ev.succ (f := fun k => ratio_Scale.b4 k (ratio_Scale.go k) false (toW n) false (toW d) false (List.replicate 8 0) false (List.replicate 8 0) 10 (E : Int) (i : Int)) ?_ (fun k => rfl)
    simp only [ratio_Scale.b4]
    exact Ev.ff (decide_eq_false (by omega)) Ev.ret
  | m + 1, i, n, d, h, hn, hd, ho => by
    refine Ev.succ (f := fun k => ratio_Scale.b4 k (ratio_Scale.go k) false (toW n) false (toW d) false (List.replicate 8 0) false (List.replicate 8 0) 10 (E : Int) (i : Int)) ?_ (fun k => rfl)
    simp only [ratio_Scale.b4]
    have ei : wr .i64 ((i : Int) + 1) = ((i + 1 : Nat) : Int) := by rw [v64 (by omega) (by omega)]; omega
    have hm := rmul_ev n d 10 1 hn hd (by decide) (by decide) ho (by decide)
    have hlow := @lowR_ok (n * 10) (d * 1)
    rw [ei]
    rw [upR]
    refine Ev.tt (decide_eq_true (by omega)) (Ev.bind (rof_ev 10 (by decide)) (Ev.bind hm ?_))
    cases hq : lowR (n * 10) (d * 1) with
    | none => exact Ev.tt rfl Ev.ret
    | some t =>
      obtain ⟨a, b⟩ := t
      obtain ⟨g1, g2, g3⟩ := hlow hq (by have := (okR_ne ho).1; omega)
      exact Ev.ff rfl (sup_go E hE m (i + 1) a b (by omega) g1 g2 g3)
theorem sdn_go (E : Nat) (hE : E ≤ 1000) : ∀ (m i n d : Nat), i + m = E → n < M512 → d < M512 → okR n d = true →
    Ev (fun k => ratio_Scale.go k (.l3 false (toW n) false (toW d) false (List.replicate 8 0) false (List.replicate 8 0) 10 (E : Int) (i : Int))) (resR (dnR m n d))
  | 0, i, n, d, h, hn, hd, ho => by
    refine Ev.succ (f := fun k => ratio_Scale.b3 k (ratio_Scale.go k) false (toW n) false (toW d) false (List.replicate 8 0) false (List.replicate 8 0) 10 (E : Int) (i : Int)) ?_ (fun k => rfl)
    simp only [ratio_Scale.b3]
    exact Ev.ff (decide_eq_false (by omega)) Ev.ret
  | m + 1, i, n, d, h, hn, hd, ho => by
    refine Ev.succ (f := fun k => ratio_Scale.b3 k (ratio_Scale.go k) false (toW n) false (toW d) false (List.replicate 8 0) false (List.replicate 8 0) 10 (E : Int) (i : Int)) ?_ (fun k => rfl)
    simp only [ratio_Scale.b3]
    have ei : wr .i64 ((i : Int) + 1) = ((i + 1 : Nat) : Int) := by rw [v64 (by omega) (by omega)]; omega
    have hm := rquo_ev n d 10 1 hn hd (by decide) (by decide) ho (by decide) (by decide)
    have hlow := @lowR_ok (n * 1) (d * 10)
    rw [ei]
    rw [dnR]
    refine Ev.tt (decide_eq_true (by omega)) (Ev.bind (rof_ev 10 (by decide)) (Ev.bind hm ?_))
    cases hq : lowR (n * 1) (d * 10) with
    | none => exact Ev.tt rfl Ev.ret
    | some t =>
      obtain ⟨a, b⟩ := t
      obtain ⟨g1, g2, g3⟩ := hlow hq (by have := (okR_ne ho).1; omega)
      exact Ev.ff rfl (sdn_go E hE m (i + 1) a b (by omega) g1 g2 g3)
theorem scale_ev (n d : Nat) (e : Int) (hn : n < M512) (hd : d < M512) (ho : okR n d = true) (e0 : -1000000 ≤ e) (e1 : e ≤ 1000000) : Ev (fun k => ratio_Scale.m k false (toW n) false (toW d) 10 e) (resR (scaleF n d e)) := by
  have hc := check_ev n d hn hd
  rw [if_pos ho] at hc
  have l2 : ∀ q, q = decide (1000 < e ∨ e < -1000) → Ev (fun k => ratio_Scale.go k (.l2 false (toW n) false (toW d) false (List.replicate 8 0) false (List.replicate 8 0) 10 e q)) (resR (scaleF n d e)) := by
    intro q hq
    refine Ev.succ (f := fun k => ratio_Scale.b2 k (ratio_Scale.go k) false (toW n) false (toW d) false (List.replicate 8 0) false (List.replicate 8 0) 10 e q) ?_ (fun k => rfl)
    simp only [ratio_Scale.b2]
    unfold scaleF
    refine Ev.bif (fun h => ?_) (fun h => ?_)
    · rw [h] at hq
      rw [if_pos (of_decide_eq_true hq.symm)]
      exact Ev.ret
    · rw [h] at hq
      have hn' := of_decide_eq_false hq.symm
      rw [if_neg hn']
      refine Ev.bif (fun h => ?_) (fun h => ?_)
      · have h := of_decide_eq_true h
        rw [if_pos h]
        have e1 : wr .i64 (0 - e) = ((0 - e).toNat : Int) := by rw [v64 (by omega) (by omega)]; omega
        rw [e1]
        exact sdn_go _ (by omega) _ 0 n d (by omega) hn hd ho
      · have h := of_decide_eq_false h
        rw [if_neg h]
        have := sup_go e.toNat (by omega) e.toNat 0 n d (by omega) hn hd ho
        rwa [show ((e.toNat : Nat) : Int) = e by omega] at this
  refine Ev.succ (f := fun k => ratio_Scale.b0 k (ratio_Scale.go k) false (toW n) false (toW d) 10 e) ?_ (fun k => rfl)
  simp only [ratio_Scale.b0]
  refine Ev.bind hc (Ev.ff rfl (Ev.tt rfl ?_))
  refine Ev.succ (f := fun k => ratio_Scale.b1 k (ratio_Scale.go k) false (toW n) false (toW d) false (List.replicate 8 0) false (List.replicate 8 0) 10 e false) ?_ (fun k => rfl)
  simp only [ratio_Scale.b1]
  refine Ev.ff rfl (Ev.bif (fun h => l2 _ ?_) (fun h => l2 _ ?_))
  · have h := of_decide_eq_true h
    exact (decide_eq_true (.inl (by omega))).symm
  · have h := of_decide_eq_false h
    rw [decide_eq_decide]; omega
/-! ### A literal's worth -/
def resS : Option (Nat × Nat) × Int → Bool × List Int × Bool × List Int × Er
  | (some (n, d), e) => ratW n d (erOf e)
  | (none, e) => (false, List.replicate 8 0, false, List.replicate 8 0, erOf e)
/-- What parts of a literal come to. -/
def partV (i f x : List UInt8) : Option (Nat × Nat) × Int := match accN 10 (i ++ f) 0 with
  | none => (none, 9)
  | some v => if 5 < (unsB x).length then (none, 9) else match scaleF v 1 (powI x - (f.length : Int)) with
    | none => (none, 9)
    | some t => (some t, 0)
def floatF (s : List UInt8) : Option (Nat × Nat) × Int :=
  if (partsF (strip s)).2.2.2 = false ∨ spacedF s false = false then (none, 8) else partV (partsF (strip s)).1 (partsF (strip s)).2.1 (partsF (strip s)).2.2.1
theorem dig_hex (s : List UInt8) (h : allD s = true) : s.any (fun c => decide (10 ≤ hexN c)) = false := by
  rw [List.any_eq_false]
  intro c hc
  have := (dig_iff _).1 (List.all_eq_true.1 h c hc)
  have hh := hexN_eq c
  unfold hexv at hh
  rw [if_pos this] at hh
  simp only [decide_eq_true_eq]
  omega
theorem parts_ok (p : List UInt8) (h : (partsF p).2.2.2 = true) : (partsF p).1 ++ (partsF p).2.1 ≠ [] ∧ allD ((partsF p).1 ++ (partsF p).2.1) = true ∧ allD (unsB (partsF p).2.2.1) = true ∧ (partsF p).1.length + (partsF p).2.1.length ≤ p.length ∧ (partsF p).2.2.1.length ≤ p.length := by
  have hme := congrArg List.length (mant_ex p)
  have hta := congrArg List.length (List.takeWhile_append_dropWhile (p := nD) (l := mantB p))
  have htl := List.length_tail (l := (mantB p).dropWhile nD)
  have hxl : (exT p).length = (exB p).length - 1 := List.length_tail
  rw [List.length_append] at hme hta
  unfold partsF at h ⊢
  by_cases hc : exB p ≠ [] ∧ (unsB (exT p) = [] ∨ allD (unsB (exT p)) = false)
  · rw [if_pos hc] at h; cases h
  · rw [if_neg hc] at h ⊢
    simp only [Bool.and_eq_true, decide_eq_true_eq] at h
    refine ⟨h.2.2.1, ?_, ?_, by simp only; omega, by simp only; omega⟩
    · have := h.1
      have h2 := h.2.1
      unfold allD at this h2 ⊢
      rw [List.all_append, this, h2]
      rfl
    · by_cases he : exB p = []
      · simp [exT, he, unsB, allD]
      · have := fun h => hc ⟨he, .inr h⟩
        simpa using this
theorem ok_one (v : Nat) : okR v 1 = true := by simp [okR]
theorem partV_ev (z0 : Bool) (z : List Int) (z1 : Bool) (z' : List Int) (i f x : List UInt8) (hn : i ++ f ≠ []) (hd : allD (i ++ f) = true) (hx : allD (unsB x) = true) (hl : i.length + f.length ≤ 100000) :
    Ev (fun k => number_Float.go k (.l1 z0 z z1 z' i f x false)) (resS (partV i f x)) := by
  refine Ev.succ (f := fun k => number_Float.b1 k (number_Float.go k) z0 z z1 z' i f x false) ?_ (fun k => rfl)
  simp only [number_Float.b1]
  have hp := parse_ev (i ++ f) 10 (by decide) (by rw [List.length_append]; exact hl)
  have hlt := parseN_lt (i ++ f) 10
  have e : parseN (i ++ f) 10 = match accN 10 (i ++ f) 0 with | some v => (v, 0) | none => (0, 9) := by
    unfold parseN
    rw [if_neg hn, dig_hex _ hd, if_neg (by decide)]
    cases accN 10 (i ++ f) 0 <;> rfl
  rw [e] at hp hlt
  unfold partV
  refine Ev.ff rfl (Ev.gk (roomS_iff.2 (by omega)) (Ev.bind hp ?_))
  cases ha : accN 10 (i ++ f) 0 with
  | none => exact Ev.gk rfl (Ev.tt rfl Ev.ret)
  | some v =>
    rw [ha] at hlt
    have hv : v < M512 := hlt
    refine Ev.gk rfl (Ev.ff rfl (Ev.bind (power_ev x hx) ?_))
    unfold powR
    by_cases h5 : 5 < (unsB x).length
    · simp only [if_pos h5]
      exact Ev.tt rfl Ev.ret
    · simp only [if_neg h5]
      have hb := decA_5 (unsB x) hx (by omega)
      have hpw : -100000 < powI x ∧ powI x < 100000 := by unfold powI; split <;> omega
      have e1 : wr .i64 (powI x - (f.length : Int)) = powI x - (f.length : Int) := v64 (by omega) (by omega)
      have hmk := make_ev v 1 hv (by decide) (by decide)
      rw [Nat.gcd_one_right, Nat.div_one] at hmk
      have hsc := scale_ev v 1 (powI x - (f.length : Int)) hv (by decide) (ok_one v) (by omega) (by omega)
      rw [e1]
      refine Ev.ff rfl (Ev.bind (of_ev 1 (by decide)) (Ev.bind hmk (Ev.bind hsc (Ev.ret' ?_))))
      cases scaleF v 1 (powI x - (f.length : Int)) with
      | none => rfl
      | some t => rfl
theorem float_ev (s : List UInt8) (hs : s.length ≤ 100000) : Ev (fun k => number_Float.m k s) (resS (floatF s)) := by
  have hst := strip_le s
  have l1 : ∀ q, q = decide ((partsF (strip s)).2.2.2 = false ∨ spacedF s false = false) → Ev (fun k => number_Float.go k (.l1 false (List.replicate 8 (0 : Int)) false (List.replicate 8 (0 : Int)) (partsF (strip s)).1 (partsF (strip s)).2.1 (partsF (strip s)).2.2.1 q)) (resS (floatF s)) := by
    intro q hq
    unfold floatF
    cases q with
    | true =>
      rw [if_pos (of_decide_eq_true hq.symm)]
      refine Ev.succ (f := fun k => number_Float.b1 k (number_Float.go k) false (List.replicate 8 (0 : Int)) false (List.replicate 8 (0 : Int)) (partsF (strip s)).1 (partsF (strip s)).2.1 (partsF (strip s)).2.2.1 true) ?_ (fun k => rfl)
      exact Ev.tt rfl Ev.ret
    | false =>
      have hn := of_decide_eq_false hq.symm
      rw [if_neg hn]
      obtain ⟨a1, a2, a3, a4, a5⟩ := parts_ok (strip s) (by cases h : (partsF (strip s)).2.2.2 with | true => rfl | false => exact absurd (.inl h) hn)
      exact partV_ev _ _ _ _ _ _ _ a1 a2 a3 (by omega)
  refine Ev.succ (f := fun k => number_Float.b0 k (number_Float.go k) s) ?_ (fun k => rfl)
  simp only [number_Float.b0]
  refine Ev.bind (plain_ev s hs) (Ev.bind (parts_ev _ (by omega)) (Ev.bif (fun h => ?_) (fun h => ?_)))
  · have h : (partsF (strip s)).2.2.2 = false := by simpa using h
    exact l1 _ (decide_eq_true (.inl h)).symm
  · have h : (partsF (strip s)).2.2.2 = true := by simpa using h
    have hsp := spaced_ev s false hs
    refine Ev.bind hsp (l1 _ ?_)
    rw [h]
    simp
/-- A number of a kind: 2 is whole, 3 has a point. -/
def valueF (t : Int) (s : List UInt8) : Option (Nat × Nat) × Int := if t = 3 then floatF s else if t = 2 then (if (intF s).2 = 0 then (some ((intF s).1, 1), 0) else (none, (intF s).2)) else (none, 11)
theorem intF_lt (s : List UInt8) : (intF s).1 < M512 := by
  unfold intF
  split
  · show 0 < M512; decide
  · split
    · exact parseN_lt _ _
    · split <;> exact parseN_lt _ _
theorem intF_err (s : List UInt8) : 0 ≤ (intF s).2 ∧ (intF s).2 ≤ 25 := by
  unfold intF
  split
  · simp
  · split
    · exact parseN_err _ _
    · split <;> exact parseN_err _ _
theorem value_ev' (t : Int) (s : List UInt8) (hs : s.length ≤ 100000) : Ev (fun k => number_Value.m k t s) (resS (valueF t s)) := by
  refine Ev.succ (f := fun k => number_Value.b0 k t s) ?_ (fun k => rfl)
  simp only [number_Value.b0]
  unfold valueF
  refine Ev.bif (fun h => ?_) (fun h => Ev.bif (fun h' => ?_) (fun h' => ?_))
  · rw [if_pos (by simpa using h)]
    exact Ev.bind (float_ev s hs) Ev.ret
  · rw [if_neg (by simpa using h), if_pos (by simpa using h')]
    refine Ev.bind (int_ev s hs) ?_
    have hv := intF_lt s
    have hmk := make_ev (intF s).1 1 hv (by decide) (by decide)
    rw [Nat.gcd_one_right, Nat.div_one] at hmk
    unfold resQ
    rw [erOf_nil]
    by_cases h0 : (intF s).2 = 0
    · rw [if_pos h0]
      exact Ev.ff (by simpa using h0) (Ev.bind (of_ev 1 (by decide)) (Ev.bind hmk Ev.ret))
    · rw [if_neg h0]
      exact Ev.tt (by simpa using h0) Ev.ret
  · rw [if_neg (by simpa using h), if_neg (by simpa using h')]
    exact Ev.ret
/-- A literal at a place: its kind, its length, the error's number. -/
def kindF (s : List UInt8) : Int := if baseN s = 0 ∧ (0 ≤ Lib.indexByte s 46 ∨ 0 ≤ exN s) then 3 else 2
def scanF (b : List UInt8) (at_ : Int) : Int × Int × Int := if bodyF b at_ = [] then (0, 0, 7) else (kindF (bodyF b at_), ((bodyF b at_).length : Int), (valueF (kindF (bodyF b at_)) (bodyF b at_)).2)
theorem body_len (b : List UInt8) (at_ : Int) : (bodyF b at_).length ≤ b.length := by
  unfold bodyF
  split
  · rename_i h
    obtain ⟨h0, h1, _⟩ := (startB_iff _ _).1 h
    have := endB_bd b at_ (hexB b at_) b.length at_ (by omega)
    have := cut_lenI b at_ (endB b at_ (hexB b at_) b.length at_) h0 this.1 this.2
    omega
  · simp
theorem resS_err (t : Option (Nat × Nat) × Int) : (resS t).2.2.2.2 = erOf t.2 := by
  obtain ⟨a, e⟩ := t
  cases a with
  | none => rfl
  | some t => rfl
theorem scan_ev (b : List UInt8) (at_ : Int) (hs : b.length ≤ 100000) : Ev (fun k => number_Scan.m k b at_) ((scanF b at_).1, (scanF b at_).2.1, erOf (scanF b at_).2.2) := by
  have hbl := body_len b at_
  have l2 : ∀ t, t = kindF (bodyF b at_) → bodyF b at_ ≠ [] → Ev (fun k => number_Scan.go k (.l2 b t (bodyF b at_))) ((scanF b at_).1, (scanF b at_).2.1, erOf (scanF b at_).2.2) := by
    intro t ht hne
    refine Ev.succ (f := fun k => number_Scan.b2 k (number_Scan.go k) b t (bodyF b at_)) ?_ (fun k => rfl)
    simp only [number_Scan.b2]
    refine Ev.bind (value_ev' t _ (by omega)) (Ev.ret' ?_)
    unfold scanF
    rw [if_neg hne, resS_err, ht]
  have l1 : ∀ q, q = decide (kindF (bodyF b at_) = 3) → bodyF b at_ ≠ [] → Ev (fun k => number_Scan.go k (.l1 b 2 (bodyF b at_) q)) ((scanF b at_).1, (scanF b at_).2.1, erOf (scanF b at_).2.2) := by
    intro q hq hne
    refine Ev.succ (f := fun k => number_Scan.b1 k (number_Scan.go k) b 2 (bodyF b at_) q) ?_ (fun k => rfl)
    simp only [number_Scan.b1]
    have hk : kindF (bodyF b at_) = 3 ∨ kindF (bodyF b at_) = 2 := by unfold kindF; split <;> simp
    refine Ev.bif (fun h => ?_) (fun h => ?_)
    · rw [h] at hq
      exact l2 _ (of_decide_eq_true hq.symm).symm hne
    · rw [h] at hq
      exact l2 _ (hk.resolve_left (of_decide_eq_false hq.symm)).symm hne
  refine Ev.succ (f := fun k => number_Scan.b0 k (number_Scan.go k) b at_) ?_ (fun k => rfl)
  simp only [number_Scan.b0]
  refine Ev.bind (body_ev b at_ hs) (Ev.bif (fun h => ?_) (fun h => Ev.bind (base_ev _) (Ev.bif (fun hb => Ev.bif (fun hd => ?_) (fun hd => Ev.bind (exponent_ev _ (by omega)) ?_)) (fun hb => ?_))))
  · have h : bodyF b at_ = [] := by simpa using h
    refine Ev.ret' ?_
    unfold scanF
    rw [if_pos h]
    rfl
  · have hne : bodyF b at_ ≠ [] := by simpa using h
    have hb : baseN (bodyF b at_) = 0 := by simpa using hb
    refine l1 _ ?_ hne
    unfold kindF
    rw [if_pos ⟨hb, .inl (of_decide_eq_true hd)⟩]
    rfl
  · have hne : bodyF b at_ ≠ [] := by simpa using h
    have hb : baseN (bodyF b at_) = 0 := by simpa using hb
    have hd := of_decide_eq_false hd
    refine l1 _ ?_ hne
    unfold kindF
    by_cases he : 0 ≤ exN (bodyF b at_)
    · rw [if_pos ⟨hb, .inr he⟩, decide_eq_true (show exN (bodyF b at_) ≥ 0 from he)]; rfl
    · rw [if_neg (fun h => h.2.elim hd he), decide_eq_false (show ¬ exN (bodyF b at_) ≥ 0 from he)]; rfl
  · have hne : bodyF b at_ ≠ [] := by simpa using h
    have hb : baseN (bodyF b at_) ≠ 0 := by
      intro e
      rw [e] at hb
      cases hb
    refine l1 _ ?_ hne
    unfold kindF
    rw [if_neg (fun h => hb h.1)]
    rfl
end Go.Proofs.YtaakccdfgejgpaaGreatDoor.Pure
namespace Go.Proofs.YtaakccdfgejgpaaGreatDoor.Pure
open Go Abs
set_option linter.unusedVariables false
set_option linter.unusedSimpArgs false

theorem code_tab (k : Nat) : (List.range 26).all (fun n => cavillaw01_Code.m (k + 40) (erOf (n : Int)) == some (n : Int)) = true := by kernel_rfl
theorem code_ev (n : Int) (h0 : 0 ≤ n) (h1 : n ≤ 25) : Ev (fun k => cavillaw01_Code.m k (erOf n)) n := by
  refine ⟨40, fun k hk => ?_⟩
  obtain ⟨j, rfl⟩ : ∃ j, k = j + 40 := ⟨k - 40, by omega⟩
  have := List.all_eq_true.1 (code_tab j) n.toNat (by simp; omega)
  rw [show ((n.toNat : Nat) : Int) = n by omega] at this
  simpa using this
theorem w1 : intF [48, 120, 95, 102, 70] = (255, 0) := by kernel_rfl
theorem w2 : floatF [49, 95, 48, 46, 50, 53, 101, 49] = (some (205, 2), 0) := by kernel_rfl
theorem w3 : scanF [48, 56] 0 = (2, 2, 13) := by kernel_rfl
theorem w4 : textN 255 = [50, 53, 53] := by kernel_rfl
theorem w5 : textN 205 = [50, 48, 53] := by kernel_rfl
theorem w6 : textN 2 = [50] := by kernel_rfl
theorem rtext_ev (n d : Nat) (hn : n < M512) (hd : d < M512) (h1 : d ≠ 1) : Ev (fun k => ratio_Text.m k false (toW n) false (toW d)) (textN n ++ [47] ++ textN d) := by
  refine Ev.succ (f := fun k => ratio_Text.b0 k false (toW n) false (toW d)) ?_ (fun k => rfl)
  simp only [ratio_Text.b0]
  have hl : ∀ v, (textN v).length ≤ 155 := by
    intro v
    have := decL_len 155 v
    unfold textN
    split
    · simp
    · rw [List.length_reverse]; exact this
  have h2 := hl n
  have h3 := hl d
  have hc : cmpN d 1 ≠ 0 := by
    unfold cmpN
    split
    · decide
    · split
      · decide
      · omega
  exact Ev.bind (of_ev 1 (by decide)) (Ev.bind (cmp_ev d 1 hd (by decide)) (Ev.ff (by simpa using hc) (Ev.bind (text_ev n hn) (Ev.gk (roomS_iff.2 (by simp; omega)) (Ev.bind (text_ev d hd) (Ev.gk (roomS_iff.2 (by simp; omega)) Ev.ret))))))
theorem works_ev : Ev (fun k => cavillaw09_works.m k) true := by
  refine Ev.succ (f := fun k => cavillaw09_works.b0 k) ?_ (fun k => rfl)
  simp only [cavillaw09_works.b0]
  have e1 := int_ev [48, 120, 95, 102, 70] (by decide)
  have e2 := float_ev [49, 95, 48, 46, 50, 53, 101, 49] (by decide)
  have e3 := scan_ev [48, 56] 0 (by decide)
  rw [w1] at e1
  rw [w2] at e2
  rw [w3] at e3
  have t1 := text_ev 255 (by decide)
  have t2 := rtext_ev 205 2 (by decide) (by decide) (by decide)
  rw [w4] at t1
  rw [w5, w6] at t2
  have c1 := code_ev 13 (by decide) (by decide)
  exact Ev.bind e1 (Ev.bind e2 (Ev.gk rfl (Ev.bind e3 (Ev.tt rfl (Ev.bind t1 (Ev.tt rfl (Ev.tt rfl (Ev.bind t2 (Ev.tt rfl (Ev.tt rfl (Ev.tt rfl (Ev.bind c1 Ev.ret))))))))))))
/-- The first bytes of a text, at most n. -/
def hdn (n : Int) (l : List UInt8) : List UInt8 := cut l 0 (if n < (l.length : Int) then n else (l.length : Int))
theorem hdn_ok (n : Int) (h : 0 ≤ n) (l : List UInt8) : cutB 0 (if n < (l.length : Int) then n else (l.length : Int)) l.length = true := cutB_iff.2 (by split <;> omega)
theorem hdn_len (n : Int) (h : 0 ≤ n) (l : List UInt8) : ((hdn n l).length : Int) = if n < (l.length : Int) then n else (l.length : Int) := by
  unfold hdn
  have := cut_lenI l 0 (if n < (l.length : Int) then n else (l.length : Int)) (by omega) (by split <;> omega) (by split <;> omega)
  omega
end Go.Proofs.YtaakccdfgejgpaaGreatDoor.Pure
namespace Go.Proofs.YtaakccdfgejgpaaGreatDoor.Pure
open Go Abs
set_option linter.unusedVariables false
set_option linter.unusedSimpArgs false

abbrev B16 : Nat := 65536
theorem B16_M : B16 ^ 32 = M512 := by decide
theorem B16_pos (n : Nat) : 0 < B16 ^ n := Nat.pow_pos (by decide)
def ndF : Nat → Nat → Nat
  | 0, _ => 0
  | n + 1, v => if v = 0 then 0 else ndF n (v / B16) + 1
/-- How many digits a number has, and they. -/
def nd (v : Nat) : Nat := ndF v v
def digs (v : Nat) : List Int := toB B16 (nd v) v
theorem ndF_spec : ∀ (n v : Nat), v ≤ n → v < B16 ^ ndF n v ∧ (0 < ndF n v → B16 ^ (ndF n v - 1) ≤ v)
  | 0, v, h => by
    have : v = 0 := by omega
    subst this
    exact ⟨by decide, fun h => absurd h (by decide)⟩
  | n + 1, v, h => by
    unfold ndF
    by_cases h0 : v = 0
    · subst h0
      rw [if_pos rfl]
      exact ⟨by decide, fun h => absurd h (by decide)⟩
    · rw [if_neg h0]
      obtain ⟨h1, h2⟩ := ndF_spec n (v / B16) (by have := Nat.div_lt_self (by omega : 0 < v) (by decide : 1 < B16); omega)
      refine ⟨?_, fun _ => ?_⟩
      · rw [Nat.pow_succ]
        exact (Nat.div_lt_iff_lt_mul (by decide)).1 h1
      · rw [Nat.add_sub_cancel]
        by_cases hz : ndF n (v / B16) = 0
        · rw [hz]; show 1 ≤ v; omega
        · obtain ⟨m, hm⟩ : ∃ m, ndF n (v / B16) = m + 1 := ⟨ndF n (v / B16) - 1, by omega⟩
          have := h2 (by omega)
          rw [hm, Nat.add_sub_cancel] at this
          rw [hm, Nat.pow_succ]
          exact (Nat.le_div_iff_mul_le (by decide)).1 this
theorem nd_hi (v : Nat) : v < B16 ^ nd v := (ndF_spec v v (Nat.le_refl _)).1
theorem nd_lo (v : Nat) (h : 0 < nd v) : B16 ^ (nd v - 1) ≤ v := (ndF_spec v v (Nat.le_refl _)).2 h
theorem pow16_le {a b : Nat} (h : a ≤ b) : B16 ^ a ≤ B16 ^ b := Nat.pow_le_pow_right (by decide) h
theorem nd_le {v n : Nat} (h : v < B16 ^ n) : nd v ≤ n := by
  refine Nat.le_of_not_lt fun hlt => ?_
  have h1 := nd_lo v (by omega)
  have h2 : B16 ^ n ≤ B16 ^ (nd v - 1) := pow16_le (by omega)
  omega
theorem nd_ge {v n : Nat} (h : B16 ^ n ≤ v) : n < nd v := by
  refine Nat.lt_of_not_le fun hle => ?_
  have h1 := nd_hi v
  have h2 := pow16_le hle
  omega
theorem nd_zero : nd 0 = 0 := rfl
theorem nd_pos {v : Nat} (h : v ≠ 0) : 0 < nd v := nd_ge (n := 0) (by show 1 ≤ v; omega)
theorem nd_pos_iff (v : Nat) : 0 < nd v ↔ v ≠ 0 := ⟨fun h e => by rw [e, nd_zero] at h; omega, nd_pos⟩
theorem nd_mono {a b : Nat} (h : a ≤ b) : nd a ≤ nd b := nd_le (Nat.lt_of_le_of_lt h (nd_hi b))
theorem nd32 (v : Nat) : nd v ≤ 32 ↔ v < M512 := by
  rw [← B16_M]
  exact ⟨fun h => Nat.lt_of_lt_of_le (nd_hi v) (pow16_le h), nd_le⟩
theorem digs_len (v : Nat) : (digs v).length = nd v := toB_len _ _ _
theorem digs_zero : digs 0 = [] := rfl
theorem digs_get (v i : Nat) (h : i < nd v) : (digs v).getD i 0 = ((v / B16 ^ i % B16 : Nat) : Int) := toB_get _ _ _ _ h
theorem toB_take (B : Nat) : ∀ (n m v : Nat), m ≤ n → (toB B n v).take m = toB B m v
  | n, 0, v, _ => by simp [toB]
  | 0, m + 1, v, h => by omega
  | n + 1, m + 1, v, h => by
    rw [toB, toB, List.take_succ_cons, toB_take B n m (v / B) (by omega)]
theorem cut_digs (n v : Nat) (h : v < B16 ^ n) : cut (toB B16 n v) 0 (nd v : Int) = digs v := by rw [cut_take, toB_take _ _ _ _ (nd_le h)]; rfl
theorem dg_lt (x : Nat) : x % B16 < B16 := Nat.mod_lt _ (by decide)
theorem trim_go (n v : Nat) (neg : Bool) (hn : n ≤ 100000) : ∀ (i : Nat), i ≤ n → v < B16 ^ i → Ev (fun k => cavilref07_trim.go k (.l1 (toB B16 n v) [] false neg (i : Int))) (neg && decide (v ≠ 0), (nd v : Int))
  | 0, hi, hv => by
    have h0 : v = 0 := by rw [Nat.pow_zero] at hv; omega
    subst h0
    refine Ev.succ (f := fun k => cavilref07_trim.b1 k (cavilref07_trim.go k) (toB B16 n 0) [] false neg ((0 : Nat) : Int)) ?_ (fun k => rfl)
    simp only [cavilref07_trim.b1]
    have hc : cutB 0 ((0 : Nat) : Int) (toB B16 n 0).length = true := cutB_iff.2 (by omega)
    refine Ev.ff rfl (Ev.bif (fun h => Ev.gk hc (Ev.ret' ?_)) (fun h => Ev.gk hc (Ev.ret' ?_)))
    · rw [h]; rfl
    · rw [h]; rfl
  | i + 1, hi, hv => by
    refine Ev.succ (f := fun k => cavilref07_trim.b1 k (cavilref07_trim.go k) (toB B16 n v) [] false neg ((i + 1 : Nat) : Int)) ?_ (fun k => rfl)
    simp only [cavilref07_trim.b1]
    have e1 : wr .i64 (((i + 1 : Nat) : Int) - 1) = (i : Int) := by rw [v64 (by omega) (by omega)]; omega
    have hl := toB_len B16 n v
    have hd : v / B16 ^ i % B16 = v / B16 ^ i := by
      refine Nat.mod_eq_of_lt ((Nat.div_lt_iff_lt_mul (B16_pos i)).2 ?_)
      rw [Nat.pow_succ, Nat.mul_comm] at hv
      exact hv
    rw [e1, Int.toNat_natCast, toB_get _ _ _ _ (show i < n by omega), hd]
    have hc : cutB 0 ((i + 1 : Nat) : Int) (toB B16 n v).length = true := cutB_iff.2 (by omega)
    refine Ev.tt (decide_eq_true (by omega)) (Ev.gk (inB_iff.2 (by omega)) (Ev.bif (fun h => ?_) (fun h => ?_)))
    · have h : v / B16 ^ i = 0 := by
        have : ((v / B16 ^ i : Nat) : Int) = 0 := by simpa using h
        omega
      have hlt : v < B16 ^ i := by
        rcases Nat.div_eq_zero_iff.1 h with h | h
        · have := B16_pos i; omega
        · exact h
      exact trim_go n v neg hn i (by omega) hlt
    · have h : v / B16 ^ i ≠ 0 := by
        intro e
        rw [e] at h
        cases h
      have hge : B16 ^ i ≤ v := by
        refine Nat.le_of_not_lt fun hlt => h (Nat.div_eq_of_lt hlt)
      have hnd : nd v = i + 1 := by have := nd_ge hge; have := nd_le hv; omega
      have hv0 : v ≠ 0 := by have := B16_pos i; omega
      have e2 : decide (((i + 1 : Nat) : Int) > 0) = true := decide_eq_true (by omega)
      refine Ev.bif (fun h => Ev.gk hc (Ev.ret' ?_)) (fun h => Ev.gk hc (Ev.ret' ?_))
      · rw [h, hnd, e2, decide_eq_true hv0]; rfl
      · rw [h, hnd]; rfl
theorem trim_ev (n v : Nat) (neg : Bool) (hn : n ≤ 100000) (hv : v < B16 ^ n) : Ev (fun k => cavilref07_trim.m k neg (toB B16 n v)) (neg && decide (v ≠ 0), (nd v : Int)) := by
  refine Ev.succ (f := fun k => cavilref07_trim.b0 k (cavilref07_trim.go k) neg (toB B16 n v)) ?_ (fun k => rfl)
  simp only [cavilref07_trim.b0]
  rw [toB_len]
  exact trim_go n v neg hn n (Nat.le_refl _) hv
/-! ### Words in, words out -/
theorem w64_16 : W64 = B16 ^ 4 := by decide
theorem word_dig (x j : Nat) (hj : j < 4) : x % W64 / B16 ^ j % B16 = x / B16 ^ j % B16 := by
  have h : j = 0 ∨ j = 1 ∨ j = 2 ∨ j = 3 := by omega
  rcases h with rfl | rfl | rfl | rfl
  · show x % 18446744073709551616 / 1 % 65536 = x / 1 % 65536; omega
  · show x % 18446744073709551616 / 65536 % 65536 = x / 65536 % 65536; omega
  · show x % 18446744073709551616 / 4294967296 % 65536 = x / 4294967296 % 65536; omega
  · show x % 18446744073709551616 / 281474976710656 % 65536 = x / 281474976710656 % 65536; omega
theorem u64quo (x : Nat) (h : x < W64) : quoI .u64 (x : Int) 65536 = ((x / B16 : Nat) : Int) := by
  unfold quoI
  have e : ((x : Int)).tdiv 65536 = ((x / 65536 : Nat) : Int) := (Int.ofNat_tdiv x 65536).symm
  rw [e]
  refine u64i (by omega) ?_
  have : x / 65536 ≤ x := Nat.div_le_self _ _
  have h : x < 18446744073709551616 := h
  omega
theorem rem16 (x : Nat) : remI (x : Int) 65536 = ((x % B16 : Nat) : Int) := by
  unfold remI
  exact (Int.ofNat_tmod x 65536).symm
theorem from_in {r : Bool × List Int} (v i : Nat) (hi : i < 8) (l : List Int) (hcont : Ev (fun k => cavilref07_From.go k (.l1 false (toW v) [] false (toB B16 (4 * i + 4) v) ((i + 1 : Nat) : Int))) r) : ∀ (m j : Nat), j + m = 4 →
    Ev (fun k => cavilref07_From.go k (.l2 false (toW v) [] false (toB B16 (4 * i + j) v) (i : Int) ((v / W64 ^ i % W64 / B16 ^ j : Nat) : Int) (j : Int))) r
  | 0, j, h => by
    obtain rfl : j = 4 := by omega
    refine Ev.succ (f := fun k => cavilref07_From.b2 k (cavilref07_From.go k) false (toW v) [] false (toB B16 (4 * i + 4) v) (i : Int) _ ((4 : Nat) : Int)) ?_ (fun k => rfl)
    simp only [cavilref07_From.b2]
    have e1 : wr .i64 ((i : Int) + 1) = ((i + 1 : Nat) : Int) := by rw [v64 (by omega) (by omega)]; omega
    rw [e1]
    exact Ev.ff rfl hcont
  | m + 1, j, h => by
    refine Ev.succ (f := fun k => cavilref07_From.b2 k (cavilref07_From.go k) false (toW v) [] false (toB B16 (4 * i + j) v) (i : Int) _ (j : Int)) ?_ (fun k => rfl)
    simp only [cavilref07_From.b2]
    have e1 : wr .i64 ((j : Int) + 1) = ((j + 1 : Nat) : Int) := by rw [v64 (by omega) (by omega)]; omega
    have hlt := Nat.lt_of_le_of_lt (Nat.div_le_self (v / W64 ^ i % W64) (B16 ^ j)) (word_lt v i)
    have e2 : v / W64 ^ i % W64 / B16 ^ j % B16 = v / B16 ^ (4 * i + j) % B16 := by
      rw [word_dig _ j (by omega), w64_16, ← Nat.pow_mul, Nat.div_div_eq_div_mul, ← Nat.pow_add]
    have e3 : v / W64 ^ i % W64 / B16 ^ j / B16 = v / W64 ^ i % W64 / B16 ^ (j + 1) := by rw [Nat.div_div_eq_div_mul, ← Nat.pow_succ]
    have hd := dg_lt (v / B16 ^ (4 * i + j))
    have hd : v / B16 ^ (4 * i + j) % B16 < 65536 := hd
    rw [rem16, u64quo _ hlt, e1, e2, e3, v64 (by omega) (by omega)]
    have e4 : toB B16 (4 * i + j) v ++ [((v / B16 ^ (4 * i + j) % B16 : Nat) : Int)] = toB B16 (4 * i + (j + 1)) v := (toB_app B16 (4 * i + j) v).symm
    rw [e4]
    exact Ev.tt (decide_eq_true (by omega)) (Ev.gk (room_iff.2 (by rw [toB_len]; omega)) (from_in v i hi l hcont m (j + 1) (by omega)))
theorem from_go (v : Nat) (hv : v < M512) : ∀ (m i : Nat), i + m = 8 → Ev (fun k => cavilref07_From.go k (.l1 false (toW v) [] false (toB B16 (4 * i) v) (i : Int))) (false, digs v)
  | 0, i, h => by
    obtain rfl : i = 8 := by omega
    refine Ev.succ (f := fun k => cavilref07_From.b1 k (cavilref07_From.go k) false (toW v) [] false (toB B16 (4 * 8) v) ((8 : Nat) : Int)) ?_ (fun k => rfl)
    simp only [cavilref07_From.b1]
    have hv' : v < B16 ^ 32 := by rw [B16_M]; exact hv
    refine Ev.ff rfl (Ev.bind (trim_ev 32 v false (by decide) hv') (Ev.ret' ?_))
    rw [cut_digs 32 v hv']
    rfl
  | m + 1, i, h => by
    refine Ev.succ (f := fun k => cavilref07_From.b1 k (cavilref07_From.go k) false (toW v) [] false (toB B16 (4 * i) v) (i : Int)) ?_ (fun k => rfl)
    simp only [cavilref07_From.b1, Int.toNat_natCast]
    rw [toW_get v i (by omega)]
    have := from_in v i (by omega) [] (from_go v hv m (i + 1) (by omega)) 4 0 rfl
    rw [Nat.pow_zero, Nat.div_one, Nat.add_zero] at this
    exact Ev.tt (decide_eq_true (by omega)) (Ev.gk (inB_iff.2 (by omega)) this)
theorem from_ev (v : Nat) (hv : v < M512) : Ev (fun k => cavilref07_From.m k false (toW v)) (false, digs v) := by
  refine Ev.succ (f := fun k => cavilref07_From.b0 k (cavilref07_From.go k) false (toW v)) ?_ (fun k => rfl)
  exact from_go v hv 8 0 rfl
/-! ### Order -/
theorem rorder_go (a b : Nat) (hn : nd a = nd b) (h32 : nd a ≤ 100000) : ∀ (i : Nat), i ≤ nd a → Ev (fun k => cavilref07_Order.go k (.l1 (digs a) (digs b) ((i : Int) - 1))) (cmpN (a % B16 ^ i) (b % B16 ^ i))
  | 0, _ => by
    refine Ev.succ (f := fun k => cavilref07_Order.b1 k (cavilref07_Order.go k) (digs a) (digs b) ((0 : Nat) - 1)) ?_ (fun k => rfl)
    simp only [cavilref07_Order.b1]
    refine Ev.ff (by simp) (Ev.ret' ?_)
    simp [cmpN, Nat.mod_one]
  | i + 1, hi => by
    have e0 : ((i + 1 : Nat) : Int) - 1 = i := by omega
    rw [e0]
    refine Ev.succ (f := fun k => cavilref07_Order.b1 k (cavilref07_Order.go k) (digs a) (digs b) (i : Int)) ?_ (fun k => rfl)
    simp only [cavilref07_Order.b1, Int.toNat_natCast, digs_get a i (show i < nd a by omega), digs_get b i (show i < nd b by omega)]
    have ha := digs_len a
    have hb := digs_len b
    rw [v64 (by omega) (by omega), cmp_top B16 a b i (by decide)]
    refine Ev.tt (by simp) (Ev.gk (inB_iff.2 (by omega)) (Ev.gk (inB_iff.2 (by omega)) (Ev.bif (fun h => ?_) (fun h => Ev.gk (inB_iff.2 (by omega)) (Ev.gk (inB_iff.2 (by omega)) (Ev.bif (fun h' => ?_) (fun h' => ?_)))))))
    · have := of_decide_eq_true h
      rw [if_pos (by omega)]
      exact Ev.ret
    · have := of_decide_eq_false h
      have := of_decide_eq_true h'
      rw [if_neg (by omega), if_pos (by omega)]
      exact Ev.ret
    · have := of_decide_eq_false h
      have := of_decide_eq_false h'
      rw [if_neg (by omega), if_neg (by omega)]
      exact rorder_go a b hn h32 i (by omega)
theorem rorder_ev (a b : Nat) (ha : nd a ≤ 100000) (hb : nd b ≤ 100000) : Ev (fun k => cavilref07_Order.m k (digs a) (digs b)) (cmpN a b) := by
  refine Ev.succ (f := fun k => cavilref07_Order.b0 k (cavilref07_Order.go k) (digs a) (digs b)) ?_ (fun k => rfl)
  simp only [cavilref07_Order.b0]
  rw [digs_len, digs_len]
  have key : ∀ x y : Nat, nd x < nd y → x < y := by
    intro x y h
    refine Nat.lt_of_not_le fun hle => ?_
    have := nd_mono hle
    omega
  refine Ev.bif (fun h => Ev.bif (fun h' => ?_) (fun h' => ?_)) (fun h => ?_)
  · have := key a b (by have := of_decide_eq_true h'; omega)
    refine Ev.ret' ?_
    unfold cmpN
    rw [if_pos this]
  · have hne : (nd a : Int) ≠ nd b := by simpa using h
    have := key b a (by have := of_decide_eq_false h'; omega)
    refine Ev.ret' ?_
    unfold cmpN
    rw [if_neg (by omega), if_pos this]
  · have he : (nd a : Int) = nd b := by simpa using h
    have he : nd a = nd b := by omega
    have := rorder_go a b he ha (nd a) (Nat.le_refl _)
    have h1 := nd_hi a
    have h2 := nd_hi b
    rw [← he] at h2
    rw [Nat.mod_eq_of_lt h1, Nat.mod_eq_of_lt h2] at this
    rw [v64 (by omega) (by omega)]
    exact this
theorem rcmp_ev (a b : Nat) (ha : nd a ≤ 100000) (hb : nd b ≤ 100000) : Ev (fun k => cavilref07_Cmp.m k false (digs a) false (digs b)) (cmpN a b) := by
  refine Ev.succ (f := fun k => cavilref07_Cmp.b0 k false (digs a) false (digs b)) ?_ (fun k => rfl)
  exact Ev.ff rfl (Ev.ff rfl (Ev.bind (rorder_ev a b ha hb) Ev.ret))
end Go.Proofs.YtaakccdfgejgpaaGreatDoor.Pure
