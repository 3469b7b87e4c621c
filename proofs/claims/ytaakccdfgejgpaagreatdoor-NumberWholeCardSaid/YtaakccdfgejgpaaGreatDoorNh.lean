/-
  Chapter 09, plain: numbers of texts; ratios.
-/
import Derived.Test.YtaakccdfgejgpaaGreatDoorNg
namespace Go.Proofs.YtaakccdfgejgpaaGreatDoor.Pure
open Go Abs
set_option linter.unusedVariables false
set_option linter.unusedSimpArgs false

def hexv (c : Int) : Int := if 48 ≤ c ∧ c ≤ 57 then c - 48 else if 97 ≤ c ∧ c ≤ 102 then c - 87 else if 65 ≤ c ∧ c ≤ 70 then c - 55 else 99
theorem hexv_lo (c : Int) : 0 ≤ hexv c := by unfold hexv; split <;> (try split) <;> (try split) <;> omega
theorem hexv_hi (c : Int) : hexv c ≤ 99 := by unfold hexv; split <;> (try split) <;> (try split) <;> omega
theorem byte_cases (P : Int → Bool) (h : (List.range 256).all (fun n => P (n : Int)) = true) (c : Int) (h0 : 0 ≤ c) (h1 : c < 256) : P c = true := by
  have := List.all_eq_true.1 h c.toNat (by simp; omega)
  rwa [show ((c.toNat : Nat) : Int) = c by omega] at this
theorem digit_tab (k : Nat) : (List.range 256).all (fun n => cavilref07_Digit.m (k + 20) (n : Int) == some (hexv (n : Int))) = true := by kernel_rfl
theorem digit_ev (c : Int) (h0 : 0 ≤ c) (h1 : c < 256) : Ev (fun k => cavilref07_Digit.m k c) (hexv c) := by
  refine ⟨20, fun k hk => ?_⟩
  obtain ⟨j, rfl⟩ : ∃ j, k = j + 20 := ⟨k - 20, by omega⟩
  have := byte_cases (fun c => cavilref07_Digit.m (j + 20) c == some (hexv c)) (digit_tab j) c h0 h1
  simpa using this
theorem value_tab (k : Nat) : (List.range 256).all (fun n => limb_value.m (k + 20) (n : Int) == some (hexv (n : Int))) = true := by kernel_rfl
theorem value_ev (c : Int) (h0 : 0 ≤ c) (h1 : c < 256) : Ev (fun k => limb_value.m k c) (hexv c) := by
  refine ⟨20, fun k hk => ?_⟩
  obtain ⟨j, rfl⟩ : ∃ j, k = j + 20 := ⟨k - 20, by omega⟩
  have := byte_cases (fun c => limb_value.m (j + 20) c == some (hexv c)) (value_tab j) c h0 h1
  simpa using this
def hexN (c : UInt8) : Nat := (hexv (c.toNat : Int)).toNat
theorem hexN_eq (c : UInt8) : hexv (c.toNat : Int) = (hexN c : Int) := by unfold hexN; have := hexv_lo (c.toNat : Int); omega
theorem hexN_hi (c : UInt8) : hexN c ≤ 99 := by have := hexv_hi (c.toNat : Int); rw [hexN_eq] at this; omega
/-- Digits read, if all fits. -/
def accN (b : Nat) : List UInt8 → Nat → Option Nat
  | [], v => some v
  | c :: s, v => if v * b + hexN c < M512 then accN b s (v * b + hexN c) else none
/-- A number's text: its value, the error's number. -/
def parseN (s : List UInt8) (b : Nat) : Nat × Int :=
  if s = [] then (0, 12) else if s.any (fun c => decide (b ≤ hexN c)) then (0, 13) else match accN b s 0 with
    | some v => (v, 0)
    | none => (0, 9)
theorem accN_lt (b : Nat) : ∀ (s : List UInt8) (v w : Nat), v < M512 → accN b s v = some w → w < M512
  | [], v, w, hv, h => by cases h; exact hv
  | c :: s, v, w, hv, h => by
    unfold accN at h
    split at h
    · rename_i hlt; exact accN_lt b s _ w hlt h
    · cases h
theorem parseN_lt (s : List UInt8) (b : Nat) : (parseN s b).1 < M512 := by
  unfold parseN
  split
  · show 0 < M512; decide
  · split
    · show 0 < M512; decide
    · split
      · rename_i v h; exact accN_lt b s 0 v (by decide) h
      · show 0 < M512; decide
theorem parseN_err (s : List UInt8) (b : Nat) : 0 ≤ (parseN s b).2 ∧ (parseN s b).2 ≤ 25 := by
  unfold parseN
  split
  · simp
  · split
    · simp
    · split <;> simp
def erOf (n : Int) : Er := if n = 0 then .nil else .no n
theorem erOf_nil (n : Int) : (erOf n).isNil = decide (n = 0) := by
  unfold erOf
  split
  · rename_i h; simp [h, Er.isNil]
  · rename_i h; simp [h, Er.isNil]
theorem drop_at (s : List UInt8) (i : Nat) (h : i < s.length) : s.drop i = s.getD i 0 :: s.drop (i + 1) := by
  rw [List.drop_eq_getElem_cons h, List.getD_eq_getElem?_getD, List.getElem?_eq_getElem h]
  rfl
def resP : Option Nat → Bool × List Int × Er
  | some v => (false, toW v, .nil)
  | none => (false, List.replicate 8 0, .no 9)
theorem parse_acc (s : List UInt8) (b : Nat) (z0 : Bool) (z : List Int) (hb : b ≤ 16) (hs : s.length ≤ 100000) : ∀ (m i v : Nat), i + m = s.length → v < M512 →
    Ev (fun k => limb_Parse.go k (.l3 z0 z false (toW v) s (b : Int) (s.length : Int) (i : Int))) (resP (accN b (s.drop i) v))
  | 0, i, v, h, hv => by
    refine Ev.succ (f := fun k => limb_Parse.b3 k (limb_Parse.go k) z0 z false (toW v) s (b : Int) (s.length : Int) (i : Int)) ?_ (fun k => rfl)
    simp only [limb_Parse.b3]
    rw [List.drop_eq_nil_of_le (by omega)]
    exact Ev.ff (decide_eq_false (by omega)) Ev.ret
  | m + 1, i, v, h, hv => by
    refine Ev.succ (f := fun k => limb_Parse.b3 k (limb_Parse.go k) z0 z false (toW v) s (b : Int) (s.length : Int) (i : Int)) ?_ (fun k => rfl)
    simp only [limb_Parse.b3, Int.toNat_natCast]
    rw [drop_at s i (by omega)]
    generalize s.getD i 0 = c
    have hc := u8_lt c
    have hh := hexN_hi c
    have hbM : b < M512 := Nat.lt_of_le_of_lt hb (by decide)
    have hhM : hexN c < M512 := Nat.lt_of_le_of_lt hh (by decide)
    have bad : ∀ (t : Bool × List Int × Er), t = (false, List.replicate 8 0, .no 9) → v * b + hexN c ≥ M512 →
        Ev (fun k => limb_Parse.go k (.l4 z0 z false (toW v) t.1 t.2.1 s (b : Int) t.2.2 (s.length : Int) (i : Int))) (resP (accN b (c :: s.drop (i + 1)) v)) := by
      rintro t rfl hge
      refine Ev.succ (f := fun k => limb_Parse.b4 k (limb_Parse.go k) z0 z false (toW v) false (List.replicate 8 0) s (b : Int) (.no 9) (s.length : Int) (i : Int)) ?_ (fun k => rfl)
      rw [accN, if_neg (by omega)]
      exact Ev.tt rfl Ev.ret
    refine Ev.tt (decide_eq_true (by omega)) (Ev.gk (inB_iff.2 (by omega)) (Ev.bind (of_ev b (by omega)) (Ev.bind (mul_ev v b hv hbM) ?_)))
    by_cases h1 : v * b < M512
    · have e1 : fitN (v * b) = (false, toW (v * b), .nil) := by unfold fitN; rw [if_pos h1]
      rw [e1]
      refine Ev.tt rfl (Ev.bind (value_ev _ (by omega) (by omega)) ?_)
      rw [hexN_eq]
      refine Ev.bind (of_ev (hexN c) (by omega)) (Ev.bind (add_ev (v * b) (hexN c) h1 hhM) ?_)
      by_cases h2 : v * b + hexN c < M512
      · have e2 : fitN (v * b + hexN c) = (false, toW (v * b + hexN c), .nil) := by unfold fitN; rw [if_pos h2]
        rw [e2]
        refine Ev.succ (f := fun k => limb_Parse.b4 k (limb_Parse.go k) z0 z false (toW v) false (toW (v * b + hexN c)) s (b : Int) .nil (s.length : Int) (i : Int)) ?_ (fun k => rfl)
        simp only [limb_Parse.b4]
        have ei : wr .i64 ((i : Int) + 1) = ((i + 1 : Nat) : Int) := by rw [v64 (by omega) (by omega)]; omega
        rw [ei, accN, if_pos h2]
        exact Ev.ff rfl (parse_acc s b z0 z hb hs m (i + 1) _ (by omega) h2)
      · exact bad _ (by unfold fitN; rw [if_neg h2]) (by omega)
    · have e1 : fitN (v * b) = (false, List.replicate 8 0, .no 9) := by unfold fitN; rw [if_neg h1]
      rw [e1]
      exact Ev.ff rfl (bad _ rfl (by omega))
def resQ (t : Nat × Int) : Bool × List Int × Er := (false, toW t.1, erOf t.2)
theorem parse_ev (s : List UInt8) (b : Nat) (hb : b = 2 ∨ b = 8 ∨ b = 10 ∨ b = 16) (hs : s.length ≤ 100000) : Ev (fun k => limb_Parse.m k s (b : Int)) (resQ (parseN s b)) := by
  have l2 : s ≠ [] → ∀ (m i : Nat), i + m = s.length → Ev (fun k => limb_Parse.go k (.l2 false (List.replicate 8 (0 : Int)) s s (b : Int) (s.length : Int) (i : Int))) (resQ (if (s.drop i).any (fun c => decide (b ≤ hexN c)) then (0, 13) else match accN b s 0 with | some v => (v, 0) | none => (0, 9))) := by
    intro hne m
    induction m with
    | zero =>
      intro i h
      refine Ev.succ (f := fun k => limb_Parse.b2 k (limb_Parse.go k) false (List.replicate 8 (0 : Int)) s s (b : Int) (s.length : Int) (i : Int)) ?_ (fun k => rfl)
      simp only [limb_Parse.b2]
      rw [List.drop_eq_nil_of_le (by omega)]
      refine Ev.ff (decide_eq_false (by omega)) ?_
      have := parse_acc s b false (List.replicate 8 (0 : Int)) (by omega) hs s.length 0 0 (by omega) (by decide)
      rw [toW_zero] at this
      refine this.to ?_
      rw [List.drop_zero]
      cases accN b s 0 with
      | some v => rfl
      | none => simp only [resP, resQ, List.any_nil, Bool.false_eq_true, if_false]; rw [toW_zero]; rfl
    | succ m ih =>
      intro i h
      refine Ev.succ (f := fun k => limb_Parse.b2 k (limb_Parse.go k) false (List.replicate 8 (0 : Int)) s s (b : Int) (s.length : Int) (i : Int)) ?_ (fun k => rfl)
      simp only [limb_Parse.b2, Int.toNat_natCast]
      have hd := drop_at s i (by omega)
      have ih := ih (i + 1) (by omega)
      rw [hd, List.any_cons]
      generalize s.getD i 0 = c
      have hc := u8_lt c
      have ei : wr .i64 ((i : Int) + 1) = ((i + 1 : Nat) : Int) := by rw [v64 (by omega) (by omega)]; omega
      refine Ev.tt (decide_eq_true (by omega)) (Ev.gk (inB_iff.2 (by omega)) (Ev.bind (value_ev _ (by omega) (by omega)) ?_))
      rw [hexN_eq, ei]
      refine Ev.bif (fun h => ?_) (fun h => ?_)
      · have h := of_decide_eq_true h
        rw [decide_eq_true (show b ≤ hexN c by omega), Bool.true_or, if_pos rfl]
        refine Ev.ret' ?_
        unfold resQ
        rw [toW_zero]
        rfl
      · have h := of_decide_eq_false h
        rw [decide_eq_false (show ¬ b ≤ hexN c by omega), Bool.false_or]
        exact ih
  have l1 : Ev (fun k => limb_Parse.go k (.l1 false (List.replicate 8 (0 : Int)) s (b : Int) false)) (resQ (parseN s b)) := by
    refine Ev.succ (f := fun k => limb_Parse.b1 k (limb_Parse.go k) false (List.replicate 8 (0 : Int)) s (b : Int) false) ?_ (fun k => rfl)
    simp only [limb_Parse.b1]
    unfold parseN
    refine Ev.ff rfl (Ev.bif (fun h => ?_) (fun h => ?_))
    · rw [if_pos (by simpa using h)]
      refine Ev.ret' ?_
      unfold resQ
      rw [toW_zero]
      rfl
    · have hne : s ≠ [] := by simpa using h
      rw [if_neg hne]
      exact l2 hne s.length 0 (by omega)
  refine Ev.succ (f := fun k => limb_Parse.b0 k (limb_Parse.go k) s (b : Int)) ?_ (fun k => rfl)
  simp only [limb_Parse.b0]
  rcases hb with rfl | rfl | rfl | rfl
  · exact Ev.ff rfl l1
  · exact Ev.tt rfl (Ev.ff rfl l1)
  · exact Ev.tt rfl (Ev.tt rfl (Ev.ff rfl l1))
  · exact Ev.tt rfl (Ev.tt rfl (Ev.tt rfl l1))

/-! ### Ratios -/
def okR (n d : Nat) : Bool := decide (d ≠ 0) && decide (Nat.gcd n d = 1)
theorem check_ev (n d : Nat) (hn : n < M512) (hd : d < M512) : Ev (fun k => ratio_Check.m k false (toW n) false (toW d)) (if okR n d = true then .nil else .no 8) := by
  refine Ev.succ (f := fun k => ratio_Check.b0 k (ratio_Check.go k) false (toW n) false (toW d)) ?_ (fun k => rfl)
  simp only [ratio_Check.b0]
  refine Ev.bind (of_ev 0 (by decide)) (Ev.bind (canon_ev n) ?_)
  refine Ev.ff (by simp) (Ev.bind (canon_ev d) (Ev.ff (by simp) (Ev.bind (cmp_ev d 0 hd (by decide)) ?_)))
  have e0 : (decide (cmpN d 0 ≤ 0)) = decide (d = 0) := by
    rw [decide_eq_decide]
    unfold cmpN
    split
    · omega
    · split <;> omega
  rw [e0]
  refine Ev.succ (f := fun k => ratio_Check.b1 k (ratio_Check.go k) false (toW n) false (toW d) _) ?_ (fun k => rfl)
  simp only [ratio_Check.b1]
  unfold okR
  by_cases h : d = 0
  · refine Ev.tt (by simpa using h) (Ev.ret' ?_)
    simp [h]
  · have hg : Nat.gcd n d < M512 := Nat.lt_of_le_of_lt (Nat.gcd_le_right n (by omega)) hd
    refine Ev.ff (by simpa using h) (Ev.bind (gcd_ev n d hn hd) (Ev.bind (of_ev 1 (by decide)) (Ev.bind (cmp_ev _ 1 hg (by decide)) ?_)))
    refine Ev.bif (fun hc => Ev.ret' ?_) (fun hc => Ev.ret' ?_)
    · have : cmpN (Nat.gcd n d) 1 ≠ 0 := by simpa using hc
      have h1 : Nat.gcd n d ≠ 1 := by intro e; rw [e] at this; exact this rfl
      rw [if_neg (by simp [h1])]
    · have : cmpN (Nat.gcd n d) 1 = 0 := by simpa using hc
      have h1 : Nat.gcd n d = 1 := by
        unfold cmpN at this
        split at this
        · cases this
        · split at this
          · cases this
          · omega
      rw [if_pos (by simp [h1, h])]
/-- A ratio as the program holds it. -/
abbrev ratW (n d : Nat) (e : Er) : Bool × List Int × Bool × List Int × Er := (false, toW n, false, toW d, e)
theorem make_ev (n d : Nat) (hn : n < M512) (hd : d < M512) (h0 : d ≠ 0) : Ev (fun k => ratio_Make.m k false (toW n) false (toW d)) (ratW (n / Nat.gcd n d) (d / Nat.gcd n d) .nil) := by
  refine Ev.succ (f := fun k => ratio_Make.b0 k false (toW n) false (toW d)) ?_ (fun k => rfl)
  simp only [ratio_Make.b0]
  have hg : Nat.gcd n d < M512 := Nat.lt_of_le_of_lt (Nat.gcd_le_right n (by omega)) hd
  have hg0 : 0 < Nat.gcd n d := Nat.gcd_pos_of_pos_right n (by omega)
  rw [isZr d hd]
  exact Ev.bind (gcd_ev n d hn hd) (Ev.ff (decide_eq_false h0) (Ev.bind (div_ev n _ hn hg hg0) (Ev.bind (div_ev d _ hd hg hg0) (Ev.ff rfl Ev.ret))))
theorem keep_ev (e : Er) (n : Bool) (w : List Int) (f : Er) : Ev (fun k => ratio_failed_keep.m k e n w f) (n, w, if e.isNil then f else e) := by
  refine Ev.succ (f := fun k => ratio_failed_keep.b0 k e n w f) ?_ (fun k => rfl)
  simp only [ratio_failed_keep.b0]
  refine Ev.bif (fun h => Ev.bif (fun h' => ?_) (fun h' => ?_)) (fun h => ?_)
  · rw [h]; exact Ev.ret
  · rw [h]
    have hf : f = .nil := by cases f <;> simp [Er.isNil] at h' ⊢
    have he : e = .nil := by cases e <;> simp [Er.isNil] at h ⊢
    rw [hf, he]; exact Ev.ret
  · rw [h]; exact Ev.ret
theorem smul_ev (e : Er) (a b : Nat) (ha : a < M512) (hb : b < M512) : Ev (fun k => ratio_sums_mul.m k e false (toW a) false (toW b)) ((fitN (a * b)).1, (fitN (a * b)).2.1, if e.isNil then (fitN (a * b)).2.2 else e) := by
  refine Ev.succ (f := fun k => ratio_sums_mul.b0 k e false (toW a) false (toW b)) ?_ (fun k => rfl)
  exact Ev.bind (mul_ev a b ha hb) (Ev.bind (keep_ev _ _ _ _) Ev.ret)
theorem smul_ok (a b : Nat) (ha : a < M512) (hb : b < M512) (h : a * b < M512) : Ev (fun k => ratio_sums_mul.m k .nil false (toW a) false (toW b)) (false, toW (a * b), .nil) := by
  refine (smul_ev .nil a b ha hb).to ?_
  unfold fitN
  rw [if_pos h]
  rfl
theorem smul_ov (a b : Nat) (ha : a < M512) (hb : b < M512) (h : ¬ a * b < M512) : Ev (fun k => ratio_sums_mul.m k .nil false (toW a) false (toW b)) (false, List.replicate 8 0, .no 9) := by
  refine (smul_ev .nil a b ha hb).to ?_
  unfold fitN
  rw [if_neg h]
  rfl
/-- Both products in lowest terms, if they fit. -/
def lowR (n d : Nat) : Option (Nat × Nat) := if n < M512 ∧ d < M512 then some (n / Nat.gcd n d, d / Nat.gcd n d) else none
def resR : Option (Nat × Nat) → Bool × List Int × Bool × List Int × Er
  | some (n, d) => ratW n d .nil
  | none => (false, List.replicate 8 0, false, List.replicate 8 0, .no 9)
theorem done_ok (n d : Nat) (hn : n < M512) (hd : d < M512) (h0 : d ≠ 0) : Ev (fun k => ratio_sums_done.m k .nil false (toW n) false (toW d)) (false, toW (n / Nat.gcd n d), false, toW (d / Nat.gcd n d), .nil, .nil) := by
  refine Ev.succ (f := fun k => ratio_sums_done.b0 k .nil false (toW n) false (toW d)) ?_ (fun k => rfl)
  simp only [ratio_sums_done.b0]
  exact Ev.gk rfl (Ev.ff rfl (Ev.bind (make_ev n d hn hd h0) Ev.ret))
theorem done_bad (x y : Bool) (v w : List Int) : Ev (fun k => ratio_sums_done.m k (.no 9) x v y w) (false, List.replicate 8 0, false, List.replicate 8 0, .no 9, .no 9) := by
  refine Ev.succ (f := fun k => ratio_sums_done.b0 k (.no 9) x v y w) ?_ (fun k => rfl)
  exact Ev.gk rfl (Ev.tt rfl Ev.ret)
/-- Two products and what is made of them. -/
theorem two_ev (a b c d : Nat) (ha : a < M512) (hb : b < M512) (hc : c < M512) (hd : d < M512) (h0 : c * d ≠ 0) :
    Ev (fun k => bindO (ratio_sums_mul.m k .nil false (toW a) false (toW b)) fun r2 => bindO (ratio_sums_mul.m k r2.2.2 false (toW c) false (toW d)) fun r3 => bindO (ratio_sums_done.m k r3.2.2 r2.1 r2.2.1 r3.1 r3.2.1) fun r4 =>
      some (r4.1, r4.2.1, r4.2.2.1, r4.2.2.2.1, r4.2.2.2.2.1)) (resR (lowR (a * b) (c * d))) := by
  unfold lowR
  by_cases h1 : a * b < M512
  · by_cases h2 : c * d < M512
    · rw [if_pos ⟨h1, h2⟩]
      exact Ev.bind (smul_ok a b ha hb h1) (Ev.bind (smul_ok c d hc hd h2) (Ev.bind (done_ok _ _ h1 h2 h0) Ev.ret))
    · rw [if_neg (fun h => h2 h.2)]
      exact Ev.bind (smul_ok a b ha hb h1) (Ev.bind (smul_ov c d hc hd h2) (Ev.bind (done_bad _ _ _ _) Ev.ret))
  · rw [if_neg (fun h => h1 h.1)]
    exact Ev.bind (smul_ov a b ha hb h1) (Ev.bind (smul_ev _ c d hc hd) (Ev.bind (done_bad _ _ _ _) Ev.ret))
theorem begin_ev (a b c d : Nat) (ha : a < M512) (hb : b < M512) (hc : c < M512) (hd : d < M512) (h1 : okR a b = true) (h2 : okR c d = true) : Ev (fun k => ratio_begin.m k false (toW a) false (toW b) false (toW c) false (toW d)) (.r2 .nil .nil) := by
  refine Ev.succ (f := fun k => ratio_begin.b0 k false (toW a) false (toW b) false (toW c) false (toW d)) ?_ (fun k => rfl)
  have e1 := check_ev a b ha hb
  have e2 := check_ev c d hc hd
  rw [if_pos h1] at e1
  rw [if_pos h2] at e2
  exact Ev.bind e1 (Ev.ff rfl (Ev.bind e2 Ev.ret))
theorem okR_ne {n d : Nat} (h : okR n d = true) : d ≠ 0 ∧ Nat.gcd n d = 1 := by simpa [okR] using h
theorem rmul_ev (a b c d : Nat) (ha : a < M512) (hb : b < M512) (hc : c < M512) (hd : d < M512) (h1 : okR a b = true) (h2 : okR c d = true) : Ev (fun k => ratio_Mul.m k false (toW a) false (toW b) false (toW c) false (toW d)) (resR (lowR (a * c) (b * d))) := by
  refine Ev.succ (f := fun k => ratio_Mul.b0 k false (toW a) false (toW b) false (toW c) false (toW d)) ?_ (fun k => rfl)
  refine Ev.bind (begin_ev a b c d ha hb hc hd h1 h2) (Ev.ff rfl (two_ev a c b d ha hc hb hd ?_))
  exact Nat.mul_ne_zero (okR_ne h1).1 (okR_ne h2).1
theorem rquo_ev (a b c d : Nat) (ha : a < M512) (hb : b < M512) (hc : c < M512) (hd : d < M512) (h1 : okR a b = true) (h2 : okR c d = true) (h0 : c ≠ 0) : Ev (fun k => ratio_Quo.m k false (toW a) false (toW b) false (toW c) false (toW d)) (resR (lowR (a * d) (b * c))) := by
  refine Ev.succ (f := fun k => ratio_Quo.b0 k false (toW a) false (toW b) false (toW c) false (toW d)) ?_ (fun k => rfl)
  have hc0 : cmpN c 0 = 1 := by unfold cmpN; rw [if_neg (by omega), if_pos (by omega)]
  refine Ev.bind (begin_ev a b c d ha hb hc hd h1 h2) (Ev.ff rfl (Ev.bind (of_ev 0 (by decide)) (Ev.bind (cmp_ev c 0 hc (by decide)) ?_)))
  rw [hc0]
  exact Ev.ff rfl (two_ev a d b c ha hd hb hc (Nat.mul_ne_zero (okR_ne h1).1 h0))
theorem rof_ev (n : Nat) (h : n < 1000) : Ev (fun k => ratio_Of.m k (n : Int)) (false, toW n, false, toW 1) := by
  refine Ev.succ (f := fun k => ratio_Of.b0 k (n : Int)) ?_ (fun k => rfl)
  exact Ev.bind (of_ev n (by omega)) (Ev.bind (of_ev 1 (by decide)) Ev.ret)
theorem lowR_ok {n d n' d' : Nat} (h : lowR n d = some (n', d')) (h0 : d ≠ 0) : n' < M512 ∧ d' < M512 ∧ okR n' d' = true := by
  unfold lowR at h
  split at h
  · rename_i hh
    cases h
    have hg : 0 < Nat.gcd n d := Nat.gcd_pos_of_pos_right n (by omega)
    refine ⟨Nat.lt_of_le_of_lt (Nat.div_le_self _ _) hh.1, Nat.lt_of_le_of_lt (Nat.div_le_self _ _) hh.2, ?_⟩
    unfold okR
    have h1 : d / Nat.gcd n d ≠ 0 := by
      rw [Nat.div_ne_zero_iff]
      exact ⟨by omega, Nat.gcd_le_right n (by omega)⟩
    have h2 : Nat.gcd (n / Nat.gcd n d) (d / Nat.gcd n d) = 1 := by rw [Nat.gcd_div (Nat.gcd_dvd_left n d) (Nat.gcd_dvd_right n d), Nat.div_self hg]
    simp [h1, h2]
  · cases h
end Go.Proofs.YtaakccdfgejgpaaGreatDoor.Pure
