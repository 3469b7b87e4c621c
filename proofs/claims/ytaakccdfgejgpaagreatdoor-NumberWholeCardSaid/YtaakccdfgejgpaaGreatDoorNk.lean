/-
  Chapter 09, plain: literals with a point.
-/
import Derived.Test.YtaakccdfgejgpaaGreatDoorNj
namespace Go.Proofs.YtaakccdfgejgpaaGreatDoor.Pure
open Go Abs
set_option linter.unusedVariables false
set_option linter.unusedSimpArgs false

theorem cut_take {α : Type} (l : List α) (n : Nat) : cut l 0 (n : Int) = l.take n := by simp [cut]
theorem cut_drop {α : Type} (l : List α) (n : Nat) : cut l (n : Int) (l.length : Int) = l.drop n := by simp [cut]
def nE (c : UInt8) : Bool := !(decide ((c.toNat : Int) = 101) || decide ((c.toNat : Int) = 69))
def nD (c : UInt8) : Bool := c != 46
/-- What stands before the exponent's letter; that letter and what follows. -/
def mantB (p : List UInt8) : List UInt8 := p.takeWhile nE
def exB (p : List UInt8) : List UInt8 := p.dropWhile nE
def exT (p : List UInt8) : List UInt8 := (exB p).tail
def unsB : List UInt8 → List UInt8
  | [] => []
  | c :: t => if c = 45 ∨ c = 43 then t else c :: t
def allD (s : List UInt8) : Bool := s.all (fun c => dig (c.toNat : Int))
def exN (p : List UInt8) : Int := if exB p = [] then -1 else ((mantB p).length : Int)
theorem mant_ex (p : List UInt8) : mantB p ++ exB p = p := List.takeWhile_append_dropWhile
theorem u8i (c : UInt8) : 0 ≤ (c.toNat : Int) ∧ (c.toNat : Int) < 256 := by have := u8_lt c; omega
theorem exponent_go (p : List UInt8) (hs : p.length ≤ 100000) : ∀ (m i : Nat), i + m = p.length → Ev (fun k => number_exponent.go k (.l1 p (p.length : Int) (i : Int))) (if exB (p.drop i) = [] then -1 else ((i + (mantB (p.drop i)).length : Nat) : Int))
  | 0, i, h => by
    refine Ev.succ (f := fun k => number_exponent.b1 k (number_exponent.go k) p (p.length : Int) (i : Int)) ?_ (fun k => rfl)
    simp only [number_exponent.b1]
    rw [List.drop_eq_nil_of_le (by omega)]
    exact Ev.ff (decide_eq_false (by omega)) Ev.ret
  | m + 1, i, h => by
    refine Ev.succ (f := fun k => number_exponent.b1 k (number_exponent.go k) p (p.length : Int) (i : Int)) ?_ (fun k => rfl)
    simp only [number_exponent.b1, Int.toNat_natCast]
    have ih := exponent_go p hs m (i + 1) (by omega)
    rw [drop_at p i (by omega)]
    generalize p.getD i 0 = c
    have hc := u8i c
    have ei : wr .i64 ((i : Int) + 1) = ((i + 1 : Nat) : Int) := by rw [v64 (by omega) (by omega)]; omega
    rw [ei, or_e _ hc.1 hc.2]
    refine Ev.tt (decide_eq_true (by omega)) (Ev.gk (inB_iff.2 (by omega)) (Ev.bif (fun he => ?_) (fun he => ?_)))
    · have hn : nE c = false := by unfold nE; rw [he]; rfl
      unfold exB mantB
      rw [List.dropWhile_cons, List.takeWhile_cons, hn]
      exact Ev.ret' (by simp)
    · have hn : nE c = true := by unfold nE; rw [he]; rfl
      unfold exB mantB at ih ⊢
      rw [List.dropWhile_cons, List.takeWhile_cons, hn]
      refine ih.to ?_
      simp only [if_true, List.length_cons]
      rw [show i + ((List.takeWhile nE (List.drop (i + 1) p)).length + 1) = i + 1 + (List.takeWhile nE (List.drop (i + 1) p)).length by omega]
theorem exponent_ev (p : List UInt8) (hs : p.length ≤ 100000) : Ev (fun k => number_exponent.m k p) (exN p) := by
  refine Ev.succ (f := fun k => number_exponent.b0 k (number_exponent.go k) p) ?_ (fun k => rfl)
  have := exponent_go p hs p.length 0 (by omega)
  rw [List.drop_zero, Nat.zero_add] at this
  exact this
theorem digits_go (p : List UInt8) (hs : p.length ≤ 100000) : ∀ (m i : Nat), i + m = p.length → Ev (fun k => number_digits.go k (.l1 p (p.length : Int) (i : Int))) (allD (p.drop i))
  | 0, i, h => by
    refine Ev.succ (f := fun k => number_digits.b1 k (number_digits.go k) p (p.length : Int) (i : Int)) ?_ (fun k => rfl)
    simp only [number_digits.b1]
    rw [List.drop_eq_nil_of_le (by omega)]
    exact Ev.ff (decide_eq_false (by omega)) Ev.ret
  | m + 1, i, h => by
    refine Ev.succ (f := fun k => number_digits.b1 k (number_digits.go k) p (p.length : Int) (i : Int)) ?_ (fun k => rfl)
    simp only [number_digits.b1, Int.toNat_natCast]
    have ih := digits_go p hs m (i + 1) (by omega)
    rw [drop_at p i (by omega)]
    generalize p.getD i 0 = c
    have ei : wr .i64 ((i : Int) + 1) = ((i + 1 : Nat) : Int) := by rw [v64 (by omega) (by omega)]; omega
    rw [ei]
    unfold allD at ih ⊢
    rw [List.all_cons]
    refine Ev.tt (decide_eq_true (by omega)) (Ev.gk (inB_iff.2 (by omega)) (Ev.bind (ndigit_ev _) (Ev.bif (fun he => ?_) (fun he => ?_))))
    · have he : dig (c.toNat : Int) = false := by simpa using he
      rw [he, Bool.false_and]
      exact Ev.ret
    · have he : dig (c.toNat : Int) = true := by simpa using he
      rw [he, Bool.true_and]
      exact ih
theorem digits_ev (p : List UInt8) (hs : p.length ≤ 100000) : Ev (fun k => number_digits.m k p) (allD p) := by
  refine Ev.succ (f := fun k => number_digits.b0 k (number_digits.go k) p) ?_ (fun k => rfl)
  exact digits_go p hs p.length 0 (by omega)
/-! ### A letter cut off -/
theorem pre_ev (s : List UInt8) (c : UInt8) : Ev (fun k => stringslite_HasPrefix.m k s [c]) (decide (s.head? = some c)) := by
  refine Ev.succ (f := fun k => stringslite_HasPrefix.b0 k s [c]) ?_ (fun k => rfl)
  simp only [stringslite_HasPrefix.b0]
  cases s with
  | nil => exact Ev.ff rfl Ev.ret
  | cons a t =>
    refine Ev.tt (decide_eq_true (by simp only [List.length_cons, List.length_nil]; omega)) (Ev.gk (cutB_iff.2 (by simp only [List.length_cons, List.length_nil]; omega)) (Ev.ret' ?_))
    have : cut (a :: t) 0 (([c] : List UInt8).length : Int) = [a] := cut_take (a :: t) 1
    rw [this, Bool.eq_iff_iff]
    simp
theorem hasp_ev (s : List UInt8) (c : UInt8) : Ev (fun k => strings_HasPrefix.m k s [c]) (decide (s.head? = some c)) := by
  refine Ev.succ (f := fun k => strings_HasPrefix.b0 k s [c]) ?_ (fun k => rfl)
  exact Ev.bind (pre_ev s c) Ev.ret
def trimB (s : List UInt8) (c : UInt8) : List UInt8 := if s.head? = some c then s.tail else s
theorem trimp_ev (s : List UInt8) (c : UInt8) : Ev (fun k => strings_TrimPrefix.m k s [c]) (trimB s c) := by
  refine Ev.succ (f := fun k => strings_TrimPrefix.b0 k s [c]) ?_ (fun k => rfl)
  refine Ev.bind (a := trimB s c) ?_ Ev.ret
  refine Ev.succ (f := fun k => stringslite_TrimPrefix.b0 k s [c]) ?_ (fun k => rfl)
  unfold trimB
  refine Ev.bind (pre_ev s c) (Ev.bif (fun h => ?_) (fun h => ?_))
  · have h := of_decide_eq_true h
    rw [if_pos h]
    have hl : 1 ≤ s.length := by cases s with | nil => cases h | cons a t => simp
    refine Ev.gk (cutB_iff.2 (by simp only [List.length_cons, List.length_nil]; omega)) (Ev.ret' ?_)
    have : cut s (([c] : List UInt8).length : Int) (s.length : Int) = s.drop 1 := cut_drop s 1
    rw [this, List.drop_one]
  · rw [if_neg (of_decide_eq_false h)]
    exact Ev.ret
theorem uns_trim (s : List UInt8) : unsB s = if trimB s 45 = s then trimB s 43 else trimB s 45 := by
  cases s with
  | nil => rfl
  | cons c t =>
    unfold unsB trimB
    by_cases h : c = 45
    · subst h; simp
    · by_cases h' : c = 43
      · subst h'; simp
      · simp [h, h']
theorem lcut_dot (m : List UInt8) : Lib.cut m [46] = (m.takeWhile nD, (m.dropWhile nD).tail, decide (m.dropWhile nD ≠ [])) := by
  have key : ∀ l : List UInt8, Lib.index l [46] = if l.dropWhile nD = [] then -1 else ((l.takeWhile nD).length : Int) := by
    intro l
    induction l with
    | nil => rfl
    | cons b l ih =>
      rw [index_one_cons, List.dropWhile_cons, List.takeWhile_cons, ih]
      by_cases h : b = 46
      · subst h; rfl
      · have hn : nD b = true := by simp [nD, h]
        rw [if_neg h, hn]
        simp only [if_true]
        by_cases h2 : List.dropWhile nD l = []
        · simp [h2]
        · rw [if_neg h2, if_neg (by omega), if_neg h2]
          simp
  have hta : m.takeWhile nD ++ m.dropWhile nD = m := List.takeWhile_append_dropWhile
  unfold Lib.cut
  rw [key]
  by_cases h : m.dropWhile nD = []
  · rw [if_pos h, if_neg (by decide), h]
    rw [h, List.append_nil] at hta
    rw [hta]
    rfl
  · rw [if_neg h, if_pos (by omega), Int.toNat_natCast, decide_eq_true h]
    generalize m.takeWhile nD = a at *
    generalize m.dropWhile nD = b at *
    subst hta
    simp [List.drop_append]
def partsF (p : List UInt8) : List UInt8 × List UInt8 × List UInt8 × Bool :=
  if exB p ≠ [] ∧ (unsB (exT p) = [] ∨ allD (unsB (exT p)) = false) then ([], [], [], false)
  else ((mantB p).takeWhile nD, ((mantB p).dropWhile nD).tail, exT p, allD ((mantB p).takeWhile nD) && (allD (((mantB p).dropWhile nD).tail) && (decide ((mantB p).takeWhile nD ++ ((mantB p).dropWhile nD).tail ≠ []) && (decide ((mantB p).dropWhile nD ≠ []) || decide (exB p ≠ [])))))
theorem parts_ev (p : List UInt8) (hs : p.length ≤ 100000) : Ev (fun k => number_parts.m k p) (partsF p) := by
  have hme := congrArg List.length (mant_ex p)
  rw [List.length_append] at hme
  have l2 : ¬ (exB p ≠ [] ∧ (unsB (exT p) = [] ∨ allD (unsB (exT p)) = false)) → Ev (fun k => number_parts.go k (.l2 (exT p) (mantB p) (exN p))) (partsF p) := by
    intro hn
    refine Ev.succ (f := fun k => number_parts.b2 k (number_parts.go k) (exT p) (mantB p) (exN p)) ?_ (fun k => rfl)
    simp only [number_parts.b2, lcut_dot]
    have hta := congrArg List.length (List.takeWhile_append_dropWhile (p := nD) (l := mantB p))
    rw [List.length_append] at hta
    have htl := List.length_tail (l := (mantB p).dropWhile nD)
    have hx : decide (exN p ≥ 0) = decide (exB p ≠ []) := by
      unfold exN
      split <;> simp_all
    unfold partsF
    rw [if_neg hn]
    refine Ev.gk ?_ (Ev.bind (digits_ev _ (by omega)) (Ev.bif (fun h1 => Ev.bind (digits_ev _ (by omega)) (Ev.bif (fun h2 => Ev.gk (roomS_iff.2 (by omega)) ?_) (fun h2 => ?_))) (fun h1 => ?_)))
    · unfold lib_cut.ok; rw [Nat.blt_eq]; omega
    · rw [h1, h2, hx]
      simp only [Bool.true_and]
      refine Ev.bif (fun h3 => Ev.bif (fun h4 => ?_) (fun h4 => ?_)) (fun h3 => ?_)
      · have h3' : (mantB p).takeWhile nD ++ ((mantB p).dropWhile nD).tail ≠ [] := by simpa using h3
        rw [decide_eq_true h3', h4]
        exact Ev.ret
      · have h3' : (mantB p).takeWhile nD ++ ((mantB p).dropWhile nD).tail ≠ [] := by simpa using h3
        rw [decide_eq_true h3', h4]
        exact Ev.ret
      · have h3' : ¬ (mantB p).takeWhile nD ++ ((mantB p).dropWhile nD).tail ≠ [] := by simpa using h3
        rw [decide_eq_false h3']
        exact Ev.ret
    · rw [h1, h2]; exact Ev.ret
    · rw [h1]; exact Ev.ret
  refine Ev.succ (f := fun k => number_parts.b0 k (number_parts.go k) p) ?_ (fun k => rfl)
  simp only [number_parts.b0]
  refine Ev.bind (exponent_ev p hs) (Ev.bif (fun h => ?_) (fun h => ?_))
  · have h := of_decide_eq_true h
    have hne : exB p ≠ [] := by intro e; unfold exN at h; rw [if_pos e] at h; omega
    have hxl := List.length_pos_iff.2 hne
    have hx : exN p = ((mantB p).length : Int) := by unfold exN; rw [if_neg hne]
    have e1 : wr .i64 (exN p + 1) = (((mantB p).length + 1 : Nat) : Int) := by rw [hx, v64 (by omega) (by omega)]; omega
    have c1 : cut p 0 (exN p) = mantB p := by
      rw [hx, cut_take]
      have := List.take_left (l₁ := mantB p) (l₂ := exB p)
      rwa [mant_ex] at this
    have c2 : cut p (wr .i64 (exN p + 1)) (p.length : Int) = exT p := by
      rw [e1, cut_drop]
      have := List.drop_append (l₁ := mantB p) (l₂ := exB p) (i := (mantB p).length + 1)
      have hdn : List.drop ((mantB p).length + 1) (mantB p) = [] := List.drop_eq_nil_of_le (by omega)
      rw [mant_ex, hdn, show (mantB p).length + 1 - (mantB p).length = 1 by omega, List.drop_one] at this
      exact this
    have hxT : (exT p).length = (exB p).length - 1 := List.length_tail
    have hul : (unsB (exT p)).length ≤ (exT p).length := by
      cases exT p with
      | nil => exact Nat.le_refl _
      | cons c t =>
        rw [unsB]
        split
        · simp
        · exact Nat.le_refl _
    rw [c1, c2]
    have l3 : ∀ q, q = decide (unsB (exT p) = [] ∨ allD (unsB (exT p)) = false) → Ev (fun k => number_parts.go k (.l3 (exT p) (mantB p) (exN p) q)) (partsF p) := by
      intro q hq
      refine Ev.succ (f := fun k => number_parts.b3 k (number_parts.go k) (exT p) (mantB p) (exN p) q) ?_ (fun k => rfl)
      simp only [number_parts.b3]
      refine Ev.bif (fun h => ?_) (fun h => ?_)
      · rw [h] at hq
        unfold partsF
        rw [if_pos ⟨hne, of_decide_eq_true hq.symm⟩]
        exact Ev.ret
      · rw [h] at hq
        exact l2 (fun h => of_decide_eq_false hq.symm h.2)
    have l1 : Ev (fun k => number_parts.go k (.l1 (exT p) (mantB p) (exN p) (unsB (exT p)))) (partsF p) := by
      refine Ev.succ (f := fun k => number_parts.b1 k (number_parts.go k) (exT p) (mantB p) (exN p) (unsB (exT p))) ?_ (fun k => rfl)
      simp only [number_parts.b1]
      refine Ev.bif (fun h => l3 _ ?_) (fun h => Ev.bind (digits_ev _ (by omega)) (l3 _ ?_))
      · have : unsB (exT p) = [] := by simpa using h
        simp [this]
      · have : unsB (exT p) ≠ [] := by simpa using h
        simp [this]
    rw [uns_trim] at l1
    refine Ev.gk (cutB_iff.2 (by omega)) (Ev.gk (cutB_iff.2 (by omega)) (Ev.bind (trimp_ev _ _) (Ev.bif (fun h => Ev.bind (trimp_ev _ _) ?_) (fun h => ?_))))
    · have h : trimB (exT p) 45 = exT p := by simpa using h
      rw [if_pos h] at l1
      exact l1
    · have h : ¬ trimB (exT p) 45 = exT p := by simpa using h
      rw [if_neg h] at l1
      exact l1
  · have h := of_decide_eq_false h
    have he : exB p = [] := by
      refine Classical.byContradiction fun hne => ?_
      unfold exN at h; rw [if_neg hne] at h; omega
    have hm : mantB p = p := by have := mant_ex p; rwa [he, List.append_nil] at this
    have ht : exT p = [] := by unfold exT; rw [he]; rfl
    have := l2 (fun h => h.1 he)
    rw [hm, ht] at this
    exact this
end Go.Proofs.YtaakccdfgejgpaaGreatDoor.Pure
