/-
  Chapter 10, plain: the implementation's decoding.
-/
import Derived.Test.YtjgjbdphjccpcaaDoorPh
namespace Go.Proofs.YtjgjbdphjccpcaaDoor.Pure
open Go Abs
set_option linter.unusedVariables false
set_option linter.unusedSimpArgs false

def erOf (n : Int) : Er := if n = 0 then .nil else .no n
def leadF (a : Int) : Int × Int := if a < 128 then (1, a) else if 192 ≤ a ∧ a < 224 then (2, a % 32) else if 224 ≤ a ∧ a < 240 then (3, a % 16) else if 240 ≤ a ∧ a < 248 then (4, a % 8) else (0, 0)
theorem lead_ev (a : Int) (h0 : 0 ≤ a) (h1 : a < 256) : Ev (fun k => utf_lead.m k a) (leadF a) := by
  have e31 := u8_and31 a h0 h1
  have e15 := u8_and15 a h0 h1
  have e7 := u8_and7 a h0 h1
  have l2 : ∀ q, q = decide (240 > a ∧ a ≥ 224) → (128 ≤ a ∧ ¬ (192 ≤ a ∧ a < 224)) → Ev (fun k => utf_lead.go k (.l2 a q)) (leadF a) := by
    intro q hq hn
    refine Ev.succ (f := fun k => utf_lead.b2 k (utf_lead.go k) a q) ?_ (fun k => rfl)
    simp only [utf_lead.b2]
    have f1 : wr .i32 (a % 16) = a % 16 := w32 (by omega) (by omega)
    have f2 : wr .i32 (a % 8) = a % 8 := w32 (by omega) (by omega)
    rw [e15, e7, f1, f2]
    unfold leadF
    rw [if_neg (by omega), if_neg (by omega)]
    refine Ev.bif (fun h => ?_) (fun h => ?_)
    · rw [h] at hq
      have : 240 > a ∧ a ≥ 224 := of_decide_eq_true hq.symm
      rw [if_pos (by omega)]
      exact Ev.ret
    · rw [h] at hq
      have : ¬ (240 > a ∧ a ≥ 224) := of_decide_eq_false hq.symm
      rw [if_neg (by omega)]
      refine Ev.bif (fun h' => ?_) (fun h' => ?_)
      · have := of_decide_eq_true h'
        refine Ev.bif (fun h'' => ?_) (fun h'' => ?_)
        · have := of_decide_eq_true h''
          rw [if_pos (by omega)]
          exact Ev.ret
        · have := of_decide_eq_false h''
          rw [if_neg (by omega)]
          exact Ev.ret
      · have := of_decide_eq_false h'
        rw [if_neg (by omega)]
        exact Ev.ret
  have l1 : ∀ q, q = decide (224 > a ∧ a ≥ 192) → 128 ≤ a → Ev (fun k => utf_lead.go k (.l1 a q)) (leadF a) := by
    intro q hq hn
    refine Ev.succ (f := fun k => utf_lead.b1 k (utf_lead.go k) a q) ?_ (fun k => rfl)
    simp only [utf_lead.b1]
    have f1 : wr .i32 (a % 32) = a % 32 := w32 (by omega) (by omega)
    rw [e31, f1]
    refine Ev.bif (fun h => ?_) (fun h => ?_)
    · rw [h] at hq
      have : 224 > a ∧ a ≥ 192 := of_decide_eq_true hq.symm
      unfold leadF
      rw [if_neg (by omega), if_pos (by omega)]
      exact Ev.ret
    · rw [h] at hq
      have : ¬ (224 > a ∧ a ≥ 192) := of_decide_eq_false hq.symm
      refine Ev.bif (fun h' => l2 _ ?_ (by omega)) (fun h' => l2 _ ?_ (by omega))
      · have := of_decide_eq_true h'
        by_cases hh : a < 240
        · rw [decide_eq_true hh, decide_eq_true (by omega)]
        · rw [decide_eq_false hh, decide_eq_false (by omega)]
      · have := of_decide_eq_false h'
        rw [decide_eq_false (by omega)]
  refine Ev.succ (f := fun k => utf_lead.b0 k (utf_lead.go k) a) ?_ (fun k => rfl)
  simp only [utf_lead.b0]
  refine Ev.bif (fun h => ?_) (fun h => ?_)
  · have := of_decide_eq_true h
    unfold leadF
    rw [if_pos this, show wr .i32 a = a from w32 (by omega) (by omega)]
    exact Ev.ret
  · have := of_decide_eq_false h
    refine Ev.bif (fun h' => l1 _ ?_ (by omega)) (fun h' => l1 _ ?_ (by omega))
    · have := of_decide_eq_true h'
      by_cases hh : a < 224
      · rw [decide_eq_true hh, decide_eq_true (by omega)]
      · rw [decide_eq_false hh, decide_eq_false (by omega)]
    · have := of_decide_eq_false h'
      rw [decide_eq_false (by omega)]
theorem and192_tab : (List.range 256).all (fun n => (bits .and .u8 ((n : Nat) : Int) 192 != 128) == !cont (n : Int)) = true := by kernel_rfl
theorem and192 (c : Int) (h0 : 0 ≤ c) (h1 : c < 256) : (bits .and .u8 c 192 != 128) = !cont c := by
  have := byte_cases (fun c => (bits .and .u8 c 192 != 128) == !cont c) and192_tab c h0 h1
  simpa using this
/-- The bytes behind the first. -/
def contF (s : List UInt8) : Nat → Int → Int → Option Int
  | 0, _, v => some v
  | m + 1, j, v => if cont (byt s j) = true then contF s m (j + 1) (v * 64 + byt s j % 64) else none
def leastF (n : Int) : Int := if n = 2 then 128 else if n = 3 then 2048 else if n = 4 then 65536 else 0
theorem least_ev (n : Int) : Ev (fun k => utf_least.m k n) (leastF n) := by
  refine Ev.succ (f := fun k => utf_least.b0 k n) ?_ (fun k => rfl)
  simp only [utf_least.b0]
  unfold leastF
  refine Ev.bif (fun h => Ev.ret' ?_) (fun h => Ev.bif (fun h => Ev.ret' ?_) (fun h => Ev.bif (fun h => Ev.ret' ?_) (fun h => Ev.ret' ?_))) <;> simp_all
def decI (n : Nat) : Option Int → Int × Int × Er
  | some v => if vld v = true ∧ leastF n ≤ v then (v, n, .nil) else (0, 0, .no 3)
  | none => (0, 0, .no 3)
theorem i_l3 (s : List UInt8) (n : Nat) (hs : s.length ≤ 100000) (hl : n ≤ s.length) (hn : 1 ≤ n) (hn4 : n ≤ 4) : ∀ (m : Nat) (j v : Int), j + m = n - 1 → 0 ≤ j → 0 ≤ v → v < 128 * 64 ^ (3 - m) →
    Ev (fun k => utf_Decode.go k (.l3 s (cut s 1 n) v n ((n : Int) - 1) j)) (decI n (contF s m (1 + j) v))
  | m, j, v, hj, hj0, hv, hv' => by
    refine Ev.succ (f := fun k => utf_Decode.b3 k (utf_Decode.go k) s (cut s 1 n) v n ((n : Int) - 1) j) ?_ (fun k => rfl)
    simp only [utf_Decode.b3]
    cases m with
    | zero =>
      refine Ev.ff (by simp; omega) (Ev.bind (valid_ev v) ?_)
      unfold contF decI
      simp only
      refine Ev.bif (fun h => ?_) (fun h => ?_)
      · rw [if_neg (fun hh => by rw [hh.1] at h; cases h)]
        exact Ev.ret
      · have hvv : vld v = true := by simpa using h
        refine Ev.bind (least_ev n) (Ev.bif (fun h' => ?_) (fun h' => ?_))
        · have := of_decide_eq_true h'
          rw [if_neg (fun hh => by omega)]
          exact Ev.ret
        · have := of_decide_eq_false h'
          rw [if_pos ⟨hvv, by omega⟩]
          exact Ev.ret
    | succ m =>
      have hc := cut_lenI s 1 n (by omega) (by omega) (by omega)
      have hcb := cut_byt s 1 n j (by omega) (by omega) (by omega) hj0 (by omega)
      have hb := byt_lo s (1 + j)
      have hb' := byt_hi s (1 + j)
      refine Ev.tt (by simp; omega) (Ev.gk (inB_iff.2 (by omega)) ?_)
      show Ev (fun k => bif (bits .and .u8 (byt (cut s 1 n) j) 192 != 128) then some ((0 : Int), (0 : Int), Er.no 3) else utf_Decode.go k (.l3 s (cut s 1 n) (bits .or .i32 (shlI .i32 v 6) (wr .i32 (bits .and .u8 (byt (cut s 1 n) j) 63))) n ((n : Int) - 1) (wr .i64 (j + 1)))) _
      rw [hcb, and192 _ hb hb', u8_and63 _ hb hb']
      unfold contF
      refine Ev.bif (fun h => ?_) (fun h => ?_)
      · rw [if_neg (by simpa using h)]
        exact Ev.ret
      · rw [if_pos (by simpa using h)]
        have hp : (64 : Int) ^ (3 - m) = 64 * 64 ^ (3 - (m + 1)) := by
          have : 3 - m = (3 - (m + 1)) + 1 := by omega
          rw [this, Int.pow_succ]; omega
        have hp2 : (64 : Int) ^ (3 - m) ≤ 64 ^ 3 := by
          have : (64 : Nat) ^ (3 - m) ≤ 64 ^ 3 := Nat.pow_le_pow_right (by decide) (by omega)
          exact_mod_cast this
        have hp3 : (64 : Int) ^ 3 = 262144 := by decide
        have e1 : shlI .i32 v 6 = v * 64 := by
          show IntKind.i32.wrap (v * 64) = v * 64
          exact w32 (by omega) (by omega)
        have e2 : wr .i32 (byt s (1 + j) % 64) = byt s (1 + j) % 64 := w32 (by omega) (by omega)
        rw [e1, e2, i32_or6 _ _ (by omega) (by omega) (by omega) (by omega) (by omega)]
        have e3 : wr .i64 (j + 1) = j + 1 := w64 (by omega) (by omega)
        rw [e3]
        have := i_l3 s n hs hl hn hn4 m (j + 1) (v * 64 + byt s (1 + j) % 64) (by omega) (by omega) (by omega) (by omega)
        rwa [show (1 : Int) + (j + 1) = 1 + j + 1 by omega] at this
theorem decode_ev (s : List UInt8) (hs : s.length ≤ 100000) : Ev (fun k => utf_Decode.m k s 0) ((decF s).1, (decF s).2.1, erOf (decF s).2.2) := by
  refine Ev.succ (f := fun k => utf_Decode.b0 k (utf_Decode.go k) s 0) ?_ (fun k => rfl)
  simp only [utf_Decode.b0]
  refine Ev.ff (by decide) ?_
  refine Ev.succ (f := fun k => utf_Decode.b1 k (utf_Decode.go k) s 0 (decide ((0 : Int) ≥ (s.length : Int)))) ?_ (fun k => rfl)
  simp only [utf_Decode.b1]
  refine Ev.bif (fun h => ?_) (fun h => ?_)
  · have : s.length = 0 := by have := of_decide_eq_true h; omega
    unfold decF
    simp only [this, if_true]
    exact Ev.ret
  · have h1 : 1 ≤ s.length := by have := of_decide_eq_false h; omega
    have hL0 : ¬ s.length = 0 := by omega
    have ha := byt_lo s 0
    have ha' := byt_hi s 0
    refine Ev.gk (inB_iff.2 (by omega)) ?_
    show Ev (fun k => bindO (utf_lead.m k (byt s 0)) _) _
    refine Ev.bind (lead_ev _ ha ha') ?_
    have bad : ∀ r, r = (((0 : Int), (0 : Int), (3 : Int))) → ∀ x y, Ev (fun k => utf_Decode.go k (.l2 s 0 x y true)) (r.1, r.2.1, erOf r.2.2) := by
      rintro r rfl x y
      refine Ev.succ (f := fun k => utf_Decode.b2 k (utf_Decode.go k) s 0 x y true) ?_ (fun k => rfl)
      simp only [utf_Decode.b2]
      exact Ev.tt rfl Ev.ret
    have good : ∀ (n : Nat) (v : Int) (r : Int × Int × Er), 1 ≤ n → n ≤ 4 → n ≤ s.length → 0 ≤ v → v < 128 * 64 ^ (3 - (n - 1)) → r = decI n (contF s (n - 1) 1 v) → Ev (fun k => utf_Decode.go k (.l2 s 0 v n false)) r := by
      intro n v r hn hn4 hl hv hv' hr
      refine Ev.succ (f := fun k => utf_Decode.b2 k (utf_Decode.go k) s 0 v n false) ?_ (fun k => rfl)
      simp only [utf_Decode.b2]
      have e0 : wr .i64 ((0 : Int) + 1) = 1 := by decide
      have e1 : wr .i64 (0 + (n : Int)) = n := (w64 (by omega) (by omega)).trans (by omega)
      rw [e0, e1]
      have hc := cut_lenI s 1 n (by omega) (by omega) (by omega)
      rw [hc, hr]
      refine Ev.ff rfl (Ev.gk (cutB_iff.2 (by omega)) ?_)
      have := i_l3 s n hs hl hn hn4 (n - 1) 0 v (by omega) (by omega) hv hv'
      simpa using this
    have eL : wr .i64 ((s.length : Int) - 0) = s.length := (w64 (by omega) (by omega)).trans (by omega)
    rw [eL]
    have hb := byt_lo s 1
    have hb' := byt_hi s 1
    have hc := byt_lo s 2
    have hc' := byt_hi s 2
    have hd := byt_lo s 3
    have hd' := byt_hi s 3
    unfold leadF
    by_cases a1 : byt s 0 < 128
    · rw [if_pos a1]
      refine Ev.ff rfl ?_
      rw [show decide ((s.length : Int) < (1 : Int)) = false by simp; omega]
      refine good 1 _ _ (by decide) (by decide) h1 ha (by simp; omega) ?_
      have hv : vld (byt s 0) = true := by rw [vld_iff]; omega
      unfold decF decI contF leastF
      simp [hL0, a1, hv, ha, erOf]
    · rw [if_neg a1]
      by_cases a2 : 192 ≤ byt s 0 ∧ byt s 0 < 224
      · rw [if_pos a2]
        refine Ev.ff (by simp) ?_
        by_cases l2 : 2 ≤ s.length
        · rw [show decide ((s.length : Int) < (2 : Int)) = false by simp; omega]
          refine good 2 _ _ (by decide) (by decide) l2 (by omega) (by simp; omega) ?_
          have n3 : ¬ (224 ≤ byt s 0) := by omega
          have n4 : ¬ (240 ≤ byt s 0) := by omega
          have hv : vld (v2 (byt s 0) (byt s 1)) = true := by rw [vld_iff]; unfold v2; omega
          unfold decF decI contF contF leastF
          have e : byt s 0 % 32 * 64 + byt s 1 % 64 = v2 (byt s 0) (byt s 1) := rfl
          by_cases hk : cont (byt s 1) = true
          · by_cases hm : 128 ≤ v2 (byt s 0) (byt s 1)
            · simp [hL0, a1, l2, a2, n3, n4, hk, e, hv, hm, erOf]
            · simp [hL0, a1, l2, a2, n3, n4, hk, e, hv, hm, erOf]
          · simp [hL0, a1, l2, a2, n3, n4, hk, erOf]
        · rw [show decide ((s.length : Int) < (2 : Int)) = true by simp; omega]
          refine bad _ ?_ _ _
          unfold decF
          simp only [hL0, if_false, a1]
          rw [if_neg (fun h => l2 h.1), if_neg (fun h => l2 (by omega)), if_neg (fun h => l2 (by omega))]
      · rw [if_neg a2]
        by_cases a3 : 224 ≤ byt s 0 ∧ byt s 0 < 240
        · rw [if_pos a3]
          refine Ev.ff (by simp) ?_
          have n2 : ¬ (byt s 0 < 224) := by omega
          have n4 : ¬ (240 ≤ byt s 0) := by omega
          by_cases l3 : 3 ≤ s.length
          · rw [show decide ((s.length : Int) < (3 : Int)) = false by simp; omega]
            refine good 3 _ _ (by decide) (by decide) l3 (by omega) (by simp; omega) ?_
            unfold decF decI contF contF contF leastF
            have e : (byt s 0 % 16 * 64 + byt s 1 % 64) * 64 + byt s 2 % 64 = v3 (byt s 0) (byt s 1) (byt s 2) := rfl
            by_cases hk : cont (byt s 1) = true
            · by_cases hk2 : cont (byt s 2) = true
              · by_cases hm : 2048 ≤ v3 (byt s 0) (byt s 1) (byt s 2)
                · by_cases hv : vld (v3 (byt s 0) (byt s 1) (byt s 2)) = true
                  · simp [hL0, a1, l3, n2, a3, n4, hk, hk2, e, hv, hm, erOf]
                  · simp [hL0, a1, l3, n2, a3, n4, hk, hk2, e, hv, hm, erOf]
                · simp [hL0, a1, l3, n2, a3, n4, hk, hk2, e, hm, erOf]
              · simp [hL0, a1, l3, n2, a3, n4, hk, hk2, erOf]
            · simp [hL0, a1, l3, n2, a3, n4, hk, erOf]
          · rw [show decide ((s.length : Int) < (3 : Int)) = true by simp; omega]
            refine bad _ ?_ _ _
            unfold decF
            simp only [hL0, if_false, a1]
            rw [if_neg (fun h => by omega), if_neg (fun h => l3 h.1), if_neg (fun h => l3 (by omega))]
        · rw [if_neg a3]
          by_cases a4 : 240 ≤ byt s 0 ∧ byt s 0 < 248
          · rw [if_pos a4]
            refine Ev.ff (by simp) ?_
            have n2 : ¬ (byt s 0 < 224) := by omega
            have n3 : ¬ (byt s 0 < 240) := by omega
            by_cases l4 : 4 ≤ s.length
            · rw [show decide ((s.length : Int) < (4 : Int)) = false by simp; omega]
              refine good 4 _ _ (by decide) (by decide) l4 (by omega) (by simp; omega) ?_
              unfold decF decI contF contF contF contF leastF
              have e : ((byt s 0 % 8 * 64 + byt s 1 % 64) * 64 + byt s 2 % 64) * 64 + byt s 3 % 64 = v4 (byt s 0) (byt s 1) (byt s 2) (byt s 3) := rfl
              by_cases hk : cont (byt s 1) = true
              · by_cases hk2 : cont (byt s 2) = true
                · by_cases hk3 : cont (byt s 3) = true
                  · by_cases hm : 65536 ≤ v4 (byt s 0) (byt s 1) (byt s 2) (byt s 3)
                    · by_cases hv : vld (v4 (byt s 0) (byt s 1) (byt s 2) (byt s 3)) = true
                      · simp [hL0, a1, l4, n2, n3, a4, hk, hk2, hk3, e, hv, hm, erOf]
                      · simp [hL0, a1, l4, n2, n3, a4, hk, hk2, hk3, e, hv, hm, erOf]
                    · simp [hL0, a1, l4, n2, n3, a4, hk, hk2, hk3, e, hm, erOf]
                  · simp [hL0, a1, l4, n2, n3, a4, hk, hk2, hk3, erOf]
                · simp [hL0, a1, l4, n2, n3, a4, hk, hk2, erOf]
              · simp [hL0, a1, l4, n2, n3, a4, hk, erOf]
            · rw [show decide ((s.length : Int) < (4 : Int)) = true by simp; omega]
              refine bad _ ?_ _ _
              unfold decF
              simp only [hL0, if_false, a1]
              rw [if_neg (fun h => by omega), if_neg (fun h => by omega), if_neg (fun h => l4 h.1)]
          · rw [if_neg a4]
            refine Ev.tt rfl (bad _ ?_ _ _)
            unfold decF
            simp only [hL0, if_false, a1]
            rw [if_neg (fun h => a2 ⟨h.2.1, h.2.2.1⟩), if_neg (fun h => a3 ⟨h.2.1, h.2.2.1⟩), if_neg (fun h => a4 ⟨h.2.1, h.2.2.1⟩)]
end Go.Proofs.YtjgjbdphjccpcaaDoor.Pure
