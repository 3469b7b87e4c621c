/-
  Chapter 09, plain: division by ten.
-/
import Derived.Test.YtaakccdfgejgpaaGreatDoorNe
namespace Go.Proofs.YtaakccdfgejgpaaGreatDoor.Pure
open Go Abs
set_option linter.unusedVariables false
set_option linter.unusedSimpArgs false

theorem blen10 : blen 10 = 4 := by decide
theorem lz_ev : Ev (fun k => bits_LeadingZeros64.m k 10) 60 := by
  refine Ev.succ (f := fun k => bits_LeadingZeros64.b0 k 10) ?_ (fun k => rfl)
  simp only [bits_LeadingZeros64.b0]
  have h := len64_ev 10 (by decide)
  rw [blen10] at h
  exact Ev.bind h (Ev.ret' rfl)
theorem quoZ (n d : Int) (h0 : 0 ≤ n) (h : n ≤ 18446744073709551615) (hd : 1 ≤ d) : quoI .u64 n d = n / d := by
  unfold quoI
  rw [Int.tdiv_eq_ediv_of_nonneg h0]
  have h1 : 0 ≤ n / d := Int.ediv_nonneg h0 (by omega)
  have h2 : n / d ≤ n := Int.ediv_le_self d h0
  exact u64i h1 (by omega)
theorem remZ (n d : Int) (h0 : 0 ≤ n) : remI n d = n % d := Int.tmod_eq_emod_of_nonneg h0
theorem shr32Z (a : Int) : shrI .u64 a 32 = a / 4294967296 := by
  show a.fdiv 4294967296 = _
  exact Int.fdiv_eq_ediv_of_nonneg _ (by decide)
theorem shr60Z (a : Int) : shrI .u64 a 60 = a / 1152921504606846976 := by
  show a.fdiv 1152921504606846976 = _
  exact Int.fdiv_eq_ediv_of_nonneg _ (by decide)
theorem shr4Z (a : Int) : shrI .u64 a 4 = a / 16 := by
  show a.fdiv 16 = _
  exact Int.fdiv_eq_ediv_of_nonneg _ (by decide)
theorem shl60Z (a : Int) : shlI .u64 a 60 = a * 1152921504606846976 % 18446744073709551616 := wru _
theorem mask32Z (a : Int) (h0 : 0 ≤ a) (h : a ≤ 18446744073709551615) : Go.bits .and .u64 a 4294967295 = a % 4294967296 := by
  have := maskN a.toNat (by omega)
  rw [show ((a.toNat : Nat) : Int) = a by omega] at this
  rw [this]
  omega
theorem p60 : (2 : Nat) ^ 60 = 1152921504606846976 := by decide
theorem or60Z (a b : Int) (h0 : 0 ≤ a) (h1 : a < 10) (h2 : 0 ≤ b) (h3 : b < 1152921504606846976) : Go.bits .or .u64 (a * 1152921504606846976) b = a * 1152921504606846976 + b := by
  have eW : W64 = 18446744073709551616 := rfl
  have q1 : (a.toNat * 1152921504606846976) % 2 ^ 60 = 0 := by rewrite [p60]; exact Nat.mul_mod_left _ _
  have q2 : b.toNat < 2 ^ 60 := by rewrite [p60]; omega
  have q3 : a.toNat * 1152921504606846976 < W64 := by rewrite [eW]; omega
  have q4 : b.toNat < W64 := by rewrite [eW]; omega
  have := orN (a.toNat * 1152921504606846976) b.toNat 60 q1 q2 q3 q4
  clear q1 q2 q3 q4
  rw [show ((a.toNat * 1152921504606846976 : Nat) : Int) = a * 1152921504606846976 by omega, show ((b.toNat : Nat) : Int) = b by omega] at this
  rw [this]
  omega
theorem h1Z (U : Int) (h0 : 0 ≤ U) (h : U ≤ 18446744073709551615) : quoI .u64 U 2684354560 = U / 2684354560 := quoZ U _ h0 h (by decide)
theorem h2Z (U : Int) (h0 : 0 ≤ U) (h : U ≤ 18446744073709551615) : wr .u64 (U / 2684354560 * 2684354560) = U / 2684354560 * 2684354560 := u64i (by omega) (by omega)
theorem h3Z (U : Int) (h0 : 0 ≤ U) (h : U ≤ 18446744073709551615) : wr .u64 (U - U / 2684354560 * 2684354560) = U % 2684354560 := by
  rw [u64i (by omega) (by omega)]; omega
theorem noc (a b : Int) : (decide ((wr .u64 (a * 0)) > wr .u64 b)) = false := by
  have e : wr .u64 (a * 0) = 0 := by rw [Int.mul_zero]; rfl
  rw [e, wru]
  apply decide_eq_false
  omega
theorem k1Z (U c : Int) (h0 : 0 ≤ U) (h : U < 11529215046068469760) (c0 : 0 ≤ c) (hc : c < 4294967296) : (wr .u64 ((wr .u64 ((wr .u64 (U * 4294967296)) + c)) - (wr .u64 (U / 2684354560 * 11529215046068469760)))) = U % 2684354560 * 4294967296 + c := by
  simp only [wru]
  omega
theorem k2Z (q1 q0 : Int) (a0 : 0 ≤ q1) (a1 : q1 < 4294967296) (b0 : 0 ≤ q0) (b1 : q0 < 4294967296) : wr .u64 ((wr .u64 (q1 * 4294967296)) + q0) = q1 * 4294967296 + q0 := by
  simp only [wru]
  omega
/-- The first quotient digit is right at once; so is the second one. -/
theorem div_l3 (U c V : Int) (u0 : 0 ≤ U) (hU : U < 11529215046068469760) (c0 : 0 ≤ c) (hc : c < 4294967296) (hV : V = U % 2684354560 * 4294967296 + c) :
    Ev (fun k => bits_Div64.go k (.l3 11529215046068469760 60 2684354560 0 U c 0 (U / 2684354560) (U % 2684354560))) (U / 2684354560 * 4294967296 + V / 2684354560, V % 2684354560 * 4294967296 / 1152921504606846976) := by
  have g1 : ¬ (U / 2684354560 ≥ 4294967296) := by omega
  have v0 : 0 ≤ V := by omega
  have vl : V < 11529215046068469760 := by omega
  have g0 : ¬ (V / 2684354560 ≥ 4294967296) := by omega
  have e1 := k1Z U c u0 hU c0 hc
  rw [← hV] at e1
  have e2 := (k1Z V 0 v0 vl (by decide) (by decide)).trans (Int.add_zero _)
  have e3 := k2Z (U / 2684354560) (V / 2684354560) (by omega) (by omega) (by omega) (by omega)
  have d1 := h1Z V v0 (by omega)
  have d2 := h2Z V v0 (by omega)
  have d3 := h3Z V v0 (by omega)
  refine Ev.succ (f := fun k => bits_Div64.b3 k (bits_Div64.go k) _ _ _ _ _ _ _ _ _) ?_ (fun k => rfl)
  simp only [bits_Div64.b3]
  rewrite [decide_eq_false g1, noc]
  refine Ev.ff rfl ?_
  refine Ev.succ (f := fun k => bits_Div64.b4 k (bits_Div64.go k) _ _ _ _ _ _ _ _ _ false) ?_ (fun k => rfl)
  refine Ev.ff rfl ?_
  refine Ev.succ (f := fun k => bits_Div64.b5 k (bits_Div64.go k) _ _ _ _ _ _ _ _) ?_ (fun k => rfl)
  simp only [bits_Div64.b5]
  rewrite [e1, d1, d2, d3]
  refine Ev.gk rfl ?_
  refine Ev.succ (f := fun k => bits_Div64.b6 k (bits_Div64.go k) _ _ _ _ _ _ _ _ _) ?_ (fun k => rfl)
  simp only [bits_Div64.b6]
  rewrite [decide_eq_false g0, noc]
  refine Ev.ff rfl ?_
  refine Ev.succ (f := fun k => bits_Div64.b7 k (bits_Div64.go k) _ _ _ _ _ _ _ _ _ false) ?_ (fun k => rfl)
  refine Ev.ff rfl ?_
  refine Ev.succ (f := fun k => bits_Div64.b8 k (bits_Div64.go k) _ _ _ _ _ _) ?_ (fun k => rfl)
  simp only [bits_Div64.b8]
  rewrite [e2, e3, shr60Z]
  exact Ev.gk rfl Ev.ret
theorem finZ (r w : Int) (r0 : 0 ≤ r) (hr : r < 10) (w0 : 0 ≤ w) (hw : w ≤ 18446744073709551615) (U V : Int) (hU : U = r * 1152921504606846976 + w / 16) (hV : V = U % 2684354560 * 4294967296 + w * 1152921504606846976 % 18446744073709551616 / 4294967296) :
    U / 2684354560 * 4294967296 + V / 2684354560 = (r * 18446744073709551616 + w) / 10 ∧ V % 2684354560 * 4294967296 / 1152921504606846976 = (r * 18446744073709551616 + w) % 10 := by
  have h1 : w * 1152921504606846976 % 18446744073709551616 / 4294967296 = w % 16 * 268435456 := by omega
  rw [h1] at hV
  clear h1
  omega
/-- bits.Div64 by ten. -/
theorem div64_ev (r w : Int) (r0 : 0 ≤ r) (hr : r < 10) (w0 : 0 ≤ w) (hw : w ≤ 18446744073709551615) : Ev (fun k => bits_Div64.m k r w 10) ((r * 18446744073709551616 + w) / 10, (r * 18446744073709551616 + w) % 10) := by
  refine Ev.succ (f := fun k => bits_Div64.b0 k (bits_Div64.go k) r w 10) ?_ (fun k => rfl)
  refine Ev.ff rfl ?_
  refine Ev.succ (f := fun k => bits_Div64.b1 k (bits_Div64.go k) r w 10) ?_ (fun k => rfl)
  simp only [bits_Div64.b1]
  refine Ev.ff (decide_eq_false (by omega)) ?_
  refine Ev.succ (f := fun k => bits_Div64.b2 k (bits_Div64.go k) r w 10) ?_ (fun k => rfl)
  simp only [bits_Div64.b2]
  refine Ev.bif (fun h => ?_) (fun h => Ev.bind lz_ev ?_)
  · have h : r = 0 := eq_of_beq h
    subst h
    rw [quoZ w 10 w0 hw (by decide), remZ w 10 w0, Int.zero_mul, Int.zero_add]
    exact Ev.gk rfl (Ev.gk rfl Ev.ret)
  · have h60 : wr .u64 60 = 60 := rfl
    have h4 : wr .u64 (64 - wr .u64 60) = 4 := rfl
    have a1 : shlI .u64 10 60 = 11529215046068469760 := by rfl
    have a2 : shlI .u64 r 60 = r * 1152921504606846976 := by rewrite [shl60Z]; omega
    have a5 := or60Z r (w / 16) r0 hr (by omega) (by omega)
    have a6 : shrI .u64 11529215046068469760 32 = 2684354560 := by rfl
    have a7 : Go.bits .and .u64 11529215046068469760 4294967295 = 0 := by rfl
    have a8 : Go.bits .and .u64 (w * 1152921504606846976 % 18446744073709551616) 4294967295 = 0 := by
      rewrite [mask32Z _ (by omega) (by omega)]
      omega
    obtain ⟨U, hU⟩ : ∃ U, U = r * 1152921504606846976 + w / 16 := ⟨_, rfl⟩
    obtain ⟨V, hV⟩ : ∃ V, V = U % 2684354560 * 4294967296 + w * 1152921504606846976 % 18446744073709551616 / 4294967296 := ⟨_, rfl⟩
    have u0 : 0 ≤ U := by omega
    have ul : U < 11529215046068469760 := by omega
    rewrite [← hU] at a5
    rewrite [h4]
    simp only [h60, a1, a2, shr4Z, shl60Z, a5, a6, a7, a8, shr32Z, h1Z U u0 (by omega), h2Z U u0 (by omega), h3Z U u0 (by omega)]
    refine Ev.gk rfl (Ev.gk rfl (Ev.gk rfl (Ev.gk rfl (Ev.gk rfl ?_))))
    refine (div_l3 U _ V u0 ul (by omega) (by omega) hV).to ?_
    obtain ⟨m1, m2⟩ := finZ r w r0 hr w0 hw U V hU hV
    rewrite [m1, m2]
    rfl
end Go.Proofs.YtaakccdfgejgpaaGreatDoor.Pure
