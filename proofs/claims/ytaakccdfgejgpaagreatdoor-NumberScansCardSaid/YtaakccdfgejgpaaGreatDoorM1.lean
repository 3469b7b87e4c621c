/-
  Chapter 09, plain: numbers as rows of digits, and what is reckoned with them.
-/
import Derived.Test.YtaakccdfgejgpaaGreatDoorG2
import Derived.Test.YtaakccdfgejgpaaGreatDoorEv
import Derived.Lib.Mul64
namespace Go.Proofs.YtaakccdfgejgpaaGreatDoor.Pure
open Go Abs
set_option linter.unusedVariables false
set_option linter.unusedSimpArgs false

theorem v64 {n : Int} (h0 : -9223372036854775808 ≤ n) (h1 : n ≤ 9223372036854775807) : wr .i64 n = n := w64 h0 h1
theorem u64i {n : Int} (h0 : 0 ≤ n) (h1 : n ≤ 18446744073709551615) : wr .u64 n = n := IntWalk.u64_in n ⟨h0, h1⟩
theorem wru (n : Int) : wr .u64 n = n % 18446744073709551616 := by
  show IntKind.u64.wrap n = _
  unfold IntKind.wrap
  simp [IntKind.signed, IntKind.bits]
theorem getD_byt (l : List UInt8) (i : Int) : ((l.getD i.toNat 0).toNat : Int) = byt l i := rfl
theorem beq_dec (a b : Int) : (a == b) = decide (a = b) := by rw [Bool.eq_iff_iff]; simp

/-- n digits of v by the base B, the lowest first. -/
def toB (B : Nat) : Nat → Nat → List Int
  | 0, _ => []
  | n + 1, v => ((v % B : Nat) : Int) :: toB B n (v / B)
theorem toB_len (B : Nat) : ∀ n v, (toB B n v).length = n
  | 0, _ => rfl
  | n + 1, v => by simp [toB, toB_len B n]
theorem toB_get (B : Nat) : ∀ (n v i : Nat), i < n → (toB B n v).getD i 0 = ((v / B ^ i % B : Nat) : Int)
  | 0, _, _, h => by omega
  | n + 1, v, 0, h => by simp [toB]
  | n + 1, v, i + 1, h => by
    have := toB_get B n (v / B) i (by omega)
    rw [Nat.div_div_eq_div_mul, ← Nat.pow_succ'] at this
    simpa [toB] using this
theorem toB_zero (B : Nat) : ∀ n, toB B n 0 = List.replicate n 0
  | 0 => rfl
  | n + 1 => by simp [toB, toB_zero B n, List.replicate_succ]
theorem toB_mod (B : Nat) (hB : 0 < B) : ∀ n v, toB B n (v % B ^ n) = toB B n v
  | 0, _ => rfl
  | n + 1, v => by
    have h1 : v % B ^ (n + 1) % B = v % B := Nat.mod_mod_of_dvd v ⟨B ^ n, by rw [Nat.pow_succ, Nat.mul_comm]⟩
    have h2 : v % B ^ (n + 1) / B = v / B % B ^ n := by rw [Nat.pow_succ, Nat.mul_comm, Nat.mod_mul_right_div_self]
    rw [toB, h1, h2, toB_mod B hB n, toB]
theorem toB_app (B : Nat) : ∀ n v, toB B (n + 1) v = toB B n v ++ [((v / B ^ n % B : Nat) : Int)]
  | 0, v => by simp [toB]
  | n + 1, v => by
    have := toB_app B n (v / B)
    rw [Nat.div_div_eq_div_mul, ← Nat.pow_succ'] at this
    rw [toB, this, toB]
    rfl
/-- One digit is changed. -/
theorem toB_set (B : Nat) (hB : 0 < B) : ∀ (n i l w x h : Nat), i < n → l < B ^ i → w < B → x < B → (toB B n (l + (w + B * h) * B ^ i)).set i (x : Int) = toB B n (l + (x + B * h) * B ^ i)
  | 0, _, _, _, _, _, h, _, _, _ => by omega
  | n + 1, 0, l, w, x, h, _, hl, hw, hx => by
    have : l = 0 := by simpa using hl
    subst this
    simp only [Nat.zero_add, Nat.pow_zero, Nat.mul_one, toB, List.set_cons_zero]
    rw [Nat.add_mul_mod_self_left, Nat.mod_eq_of_lt hx, Nat.add_mul_div_left _ _ hB, Nat.add_mul_div_left _ _ hB, Nat.div_eq_of_lt hw, Nat.div_eq_of_lt hx]
  | n + 1, i + 1, l, w, x, h, hi, hl, hw, hx => by
    have key : ∀ y : Nat, (l + (y + B * h) * B ^ (i + 1)) % B = l % B ∧ (l + (y + B * h) * B ^ (i + 1)) / B = l / B + (y + B * h) * B ^ i := by
      intro y
      have e : l + (y + B * h) * B ^ (i + 1) = l + B * ((y + B * h) * B ^ i) := by rw [Nat.pow_succ]; grind
      rw [e, Nat.add_mul_mod_self_left, Nat.add_mul_div_left _ _ hB]
      exact ⟨rfl, rfl⟩
    have hl' : l / B < B ^ i := by rw [Nat.div_lt_iff_lt_mul hB, ← Nat.pow_succ]; exact hl
    rw [toB, toB, (key w).1, (key w).2, (key x).1, (key x).2, List.set_cons_succ, toB_set B hB n i (l / B) w x h (by omega) hl' hw hx]
theorem split3 (B v i : Nat) (hB : 0 < B) : v = v % B ^ i + (v / B ^ i % B + B * (v / B ^ (i + 1))) * B ^ i := by
  have h1 := Nat.mod_add_div v (B ^ i)
  have h2 := Nat.mod_add_div (v / B ^ i) B
  rw [Nat.div_div_eq_div_mul, ← Nat.pow_succ] at h2
  rw [h2, Nat.mul_comm]
  exact h1.symm
/-- A digit is added to. -/
theorem toB_add (B : Nat) (hB : 0 < B) (n i v d : Nat) (hi : i < n) (hd : v / B ^ i % B + d < B) : (toB B n v).set i ((v / B ^ i % B + d : Nat) : Int) = toB B n (v + d * B ^ i) := by
  have e := split3 B v i hB
  have hp : 0 < B ^ i := Nat.pow_pos hB
  have := toB_set B hB n i (v % B ^ i) (v / B ^ i % B) (v / B ^ i % B + d) (v / B ^ (i + 1)) hi (Nat.mod_lt _ hp) (Nat.mod_lt _ hB) hd
  rw [← e] at this
  rw [this]
  congr 1
  have : (v / B ^ i % B + d + B * (v / B ^ (i + 1))) * B ^ i = (v / B ^ i % B + B * (v / B ^ (i + 1))) * B ^ i + d * B ^ i := by grind
  omega
theorem mod_next (B v i : Nat) : v % B ^ (i + 1) = v % B ^ i + (v / B ^ i % B) * B ^ i := by
  rw [Nat.pow_succ, Nat.mod_mul, Nat.mul_comm]
theorem dm_uniq {n r q m : Nat} (h : n = r + q * m) (hr : r < m) : n % m = r ∧ n / m = q := by
  subst h
  constructor
  · rw [Nat.add_mul_mod_self_right, Nat.mod_eq_of_lt hr]
  · rw [Nat.add_mul_div_right _ _ (by omega), Nat.div_eq_of_lt hr, Nat.zero_add]
/-- A column of a sum. -/
theorem sum_step (B a b i : Nat) (hB : 0 < B) : let t := a / B ^ i % B + b / B ^ i % B + (a % B ^ i + b % B ^ i) / B ^ i
    (a % B ^ (i + 1) + b % B ^ (i + 1)) % B ^ (i + 1) = (a % B ^ i + b % B ^ i) % B ^ i + t % B * B ^ i ∧ (a % B ^ (i + 1) + b % B ^ (i + 1)) / B ^ (i + 1) = t / B := by
  intro t
  have hp : 0 < B ^ i := Nat.pow_pos hB
  have h1 := mod_next B a i
  have h2 := mod_next B b i
  have h3 := Nat.mod_add_div (a % B ^ i + b % B ^ i) (B ^ i)
  have h4 := Nat.mod_add_div t B
  have hlt := Nat.mod_lt (a % B ^ i + b % B ^ i) hp
  have htl := Nat.mod_lt t hB
  refine dm_uniq ?_ ?_
  · rw [Nat.pow_succ]
    grind
  · rw [Nat.pow_succ]
    have : (t % B + 1) * B ^ i ≤ B * B ^ i := Nat.mul_le_mul_right _ (by omega)
    rw [Nat.mul_comm (B ^ i) B]
    rw [Nat.add_mul] at this
    omega

/-! ### Sizes: eight words -/
abbrev W64 : Nat := 18446744073709551616
abbrev M512 : Nat := 13407807929942597099574024998205846127479365820592393377723561443721764030073546976801874298166903427690031858186486050853753882811946569946433649006084096
theorem M512_eq : W64 ^ 8 = M512 := by decide
def toW (v : Nat) : List Int := toB W64 8 v
theorem toW_len (v : Nat) : (toW v).length = 8 := toB_len _ _ _
theorem toW_get (v i : Nat) (h : i < 8) : (toW v).getD i 0 = ((v / W64 ^ i % W64 : Nat) : Int) := toB_get _ _ _ _ h
theorem toW_zero : toW 0 = List.replicate 8 0 := toB_zero _ _
theorem toW_zero' : toW 0 = ([0, 0, 0, 0, 0, 0, 0, 0] : List Int) := by rw [toW_zero]; rfl
theorem word_lt (v i : Nat) : v / W64 ^ i % W64 < W64 := Nat.mod_lt _ (by decide)
theorem toW_inj {a b : Nat} (ha : a < M512) (hb : b < M512) (h : toW a = toW b) : a = b := by
  have key : ∀ n a b, a < W64 ^ n → b < W64 ^ n → toB W64 n a = toB W64 n b → a = b := by
    intro n
    induction n with
    | zero => intro a b ha hb _; simp at ha hb; omega
    | succ n ih =>
      intro a b ha hb h
      simp only [toB, List.cons.injEq] at h
      rw [Nat.pow_succ] at ha hb
      have := ih (a / W64) (b / W64) (by rw [Nat.div_lt_iff_lt_mul (by decide)]; exact ha) (by rw [Nat.div_lt_iff_lt_mul (by decide)]; exact hb) h.2
      have h1 : a % W64 = b % W64 := by exact_mod_cast h.1
      rw [← Nat.mod_add_div a W64, ← Nat.mod_add_div b W64, h1, this]
  exact key 8 a b (by rw [M512_eq]; exact ha) (by rw [M512_eq]; exact hb) h
theorem isZ (v : Nat) (h : v < M512) : (toW v == ([0, 0, 0, 0, 0, 0, 0, 0] : List Int)) = decide (v = 0) := by
  rw [← toW_zero', Bool.eq_iff_iff]
  simp only [beq_iff_eq, decide_eq_true_eq]
  exact ⟨fun e => toW_inj h (by decide) e, fun e => by rw [e]⟩
theorem isZr (v : Nat) (h : v < M512) : (toW v == (List.replicate 8 (0 : Int))) = decide (v = 0) := isZ v h
theorem made_ev (v : Nat) : Ev (fun k => limb_made.m k false (toW v)) (false, toW v) := by
  refine Ev.succ (f := fun k => limb_made.b0 k false (toW v)) ?_ (fun k => rfl)
  exact Ev.ff rfl Ev.ret
theorem canon_ev (v : Nat) : Ev (fun k => limb_Canon.m k false (toW v)) (false, toW v) := by
  refine Ev.succ (f := fun k => limb_Canon.b0 k false (toW v)) ?_ (fun k => rfl)
  exact Ev.bind (made_ev v) Ev.ret
theorem of_ev (n : Nat) (h : n < 9223372036854775808) : Ev (fun k => limb_Of.m k (n : Int)) (false, toW n) := by
  refine Ev.succ (f := fun k => limb_Of.b0 k (n : Int)) ?_ (fun k => rfl)
  simp only [limb_Of.b0]
  have e : toW n = ([(n : Int), 0, 0, 0, 0, 0, 0, 0] : List Int) := by
    have h1 : n % W64 = n := Nat.mod_eq_of_lt (by show n < 18446744073709551616; omega)
    have h2 : n / W64 = 0 := Nat.div_eq_of_lt (by show n < 18446744073709551616; omega)
    show ((n % W64 : Nat) : Int) :: toB W64 7 (n / W64) = _
    rw [h1, h2, toB_zero]
    rfl
  rw [u64i (n := (n : Int)) (by omega) (by omega)]
  refine Ev.ff (by simp) (Ev.ret' ?_)
  rw [e]
/-- The order of two numbers. -/
def cmpN (a b : Nat) : Int := if a < b then -1 else if b < a then 1 else 0
theorem cmp_top (B a b i : Nat) (hB : 0 < B) : cmpN (a % B ^ (i + 1)) (b % B ^ (i + 1)) = if a / B ^ i % B < b / B ^ i % B then -1 else if a / B ^ i % B > b / B ^ i % B then 1 else cmpN (a % B ^ i) (b % B ^ i) := by
  have hp : 0 < B ^ i := Nat.pow_pos hB
  have h1 := mod_next B a i
  have h2 := mod_next B b i
  have l1 := Nat.mod_lt a hp
  have l2 := Nat.mod_lt b hp
  generalize a / B ^ i % B = x at *
  generalize b / B ^ i % B = y at *
  generalize a % B ^ i = u at *
  generalize b % B ^ i = w at *
  rw [h1, h2]
  by_cases hxy : x < y
  · have : (x + 1) * B ^ i ≤ y * B ^ i := Nat.mul_le_mul_right _ hxy
    rw [Nat.add_mul] at this
    rw [if_pos hxy]
    unfold cmpN
    rw [if_pos (by omega)]
  · rw [if_neg hxy]
    by_cases hyx : x > y
    · have : (y + 1) * B ^ i ≤ x * B ^ i := Nat.mul_le_mul_right _ hyx
      rw [Nat.add_mul] at this
      rw [if_pos hyx]
      unfold cmpN
      rw [if_neg (by omega), if_pos (by omega)]
    · rw [if_neg hyx]
      have : x = y := by omega
      subst this
      unfold cmpN
      split <;> split <;> (try split) <;> (try split) <;> omega
theorem order_go (a b : Nat) : ∀ (i : Nat), i ≤ 8 → Ev (fun k => limb_order.go k (.l1 (toW a) (toW b) ((i : Int) - 1))) (cmpN (a % W64 ^ i) (b % W64 ^ i))
  | 0, _ => by
    refine Ev.succ (f := fun k => limb_order.b1 k (limb_order.go k) (toW a) (toW b) ((0 : Nat) - 1)) ?_ (fun k => rfl)
    simp only [limb_order.b1]
    refine Ev.ff (by simp) (Ev.ret' ?_)
    simp [cmpN, Nat.mod_one]
  | i + 1, hi => by
    have e0 : ((i + 1 : Nat) : Int) - 1 = i := by omega
    rw [e0]
    refine Ev.succ (f := fun k => limb_order.b1 k (limb_order.go k) (toW a) (toW b) (i : Int)) ?_ (fun k => rfl)
    simp only [limb_order.b1, Int.toNat_natCast, toW_get _ i (show i < 8 by omega)]
    rw [v64 (by omega) (by omega), cmp_top W64 a b i (by decide)]
    refine Ev.tt (by simp) (Ev.gk (inB_iff.2 (by omega)) (Ev.gk (inB_iff.2 (by omega)) (Ev.bif (fun h => ?_) (fun h => Ev.gk (inB_iff.2 (by omega)) (Ev.gk (inB_iff.2 (by omega)) (Ev.bif (fun h' => ?_) (fun h' => ?_)))))))
    · have := of_decide_eq_true h
      rw [if_pos (by omega)]
      exact Ev.ret
    · have := of_decide_eq_false h
      have := of_decide_eq_true h'
      rw [if_neg (by omega), if_pos (by omega)]
      exact Ev.ret
    · have := of_decide_eq_false h
      have := of_decide_eq_false h'
      rw [if_neg (by omega), if_neg (by omega)]
      exact order_go a b i (by omega)
theorem order_ev (a b : Nat) (ha : a < M512) (hb : b < M512) : Ev (fun k => limb_order.m k (toW a) (toW b)) (cmpN a b) := by
  refine Ev.succ (f := fun k => limb_order.b0 k (limb_order.go k) (toW a) (toW b)) ?_ (fun k => rfl)
  have := order_go a b 8 (by decide)
  rw [M512_eq, Nat.mod_eq_of_lt ha, Nat.mod_eq_of_lt hb] at this
  exact this
theorem cmp_ev (a b : Nat) (ha : a < M512) (hb : b < M512) : Ev (fun k => limb_Cmp.m k false (toW a) false (toW b)) (cmpN a b) := by
  refine Ev.succ (f := fun k => limb_Cmp.b0 k (limb_Cmp.go k) false (toW a) false (toW b)) ?_ (fun k => rfl)
  refine Ev.bind (canon_ev a) (Ev.bind (canon_ev b) (Ev.ff rfl ?_))
  refine Ev.succ (f := fun k => limb_Cmp.b1 k (limb_Cmp.go k) false (toW a) false (toW b) false) ?_ (fun k => rfl)
  refine Ev.ff rfl (Ev.tt rfl ?_)
  refine Ev.succ (f := fun k => limb_Cmp.b2 k (limb_Cmp.go k) false (toW a) false (toW b) false) ?_ (fun k => rfl)
  exact Ev.ff rfl (Ev.ff rfl (Ev.bind (order_ev a b ha hb) Ev.ret))
end Go.Proofs.YtaakccdfgejgpaaGreatDoor.Pure
namespace Go.Proofs.YtaakccdfgejgpaaGreatDoor.Pure
open Go Abs
set_option linter.unusedVariables false
set_option linter.unusedSimpArgs false

theorem cmod (n : Nat) : ((n : Int) % 18446744073709551616) = ((n % W64 : Nat) : Int) := by simp [W64]
theorem cdiv (n : Nat) : ((n : Int) / 18446744073709551616) = ((n / W64 : Nat) : Int) := by simp [W64]
/-- A word that was nothing is set. -/
theorem toW_put (S i x : Nat) (hi : i < 8) (hS : S < W64 ^ i) (hx : x < W64) : (toW S).set i (x : Int) = toW (S + x * W64 ^ i) := by
  have := toB_set W64 (by decide) 8 i S 0 x 0 hi hS (by decide) hx
  show (toB W64 8 S).set i (x : Int) = toB W64 8 (S + x * W64 ^ i)
  simpa using this
theorem pw (i : Nat) : 0 < W64 ^ i := Nat.pow_pos (by decide)
theorem plus_go (a b : Nat) (z : List Int) : ∀ (m i : Nat), i + m = 8 →
    Ev (fun k => limb_plus.go k (.l1 (toW a) (toW b) z (toW ((a % W64 ^ i + b % W64 ^ i) % W64 ^ i)) (((a % W64 ^ i + b % W64 ^ i) / W64 ^ i : Nat) : Int) (i : Int))) (toW ((a % W64 ^ 8 + b % W64 ^ 8) % W64 ^ 8), decide ((a % W64 ^ 8 + b % W64 ^ 8) / W64 ^ 8 = 0))
  | 0, i, h => by
    obtain rfl : i = 8 := by omega
    refine Ev.succ (f := fun k => limb_plus.b1 k (limb_plus.go k) _ _ z _ _ _) ?_ (fun k => rfl)
    simp only [limb_plus.b1]
    refine Ev.ff (by simp) (Ev.ret' ?_)
    rw [beq_dec]
    congr 1
    rw [decide_eq_decide]
    omega
  | m + 1, i, h => by
    refine Ev.succ (f := fun k => limb_plus.b1 k (limb_plus.go k) _ _ z _ _ _) ?_ (fun k => rfl)
    simp only [limb_plus.b1, Int.toNat_natCast, toW_get _ i (show i < 8 by omega)]
    rw [v64 (by omega) (by omega)]
    have hp := pw i
    have l1 := Nat.mod_lt a hp
    have l2 := Nat.mod_lt b hp
    obtain ⟨s1, s2⟩ := sum_step W64 a b i (by decide)
    have hc : (a % W64 ^ i + b % W64 ^ i) / W64 ^ i ≤ 1 := by
      have : (a % W64 ^ i + b % W64 ^ i) / W64 ^ i < 2 := by rw [Nat.div_lt_iff_lt_mul hp]; omega
      omega
    have ih := plus_go a b z m (i + 1) (by omega)
    rw [s1, s2] at ih
    rw [← Int.natCast_add, ← Int.natCast_add, cmod, cdiv, toW_put _ i _ (by omega) (Nat.mod_lt _ hp) (Nat.mod_lt _ (by decide))]
    exact Ev.tt (by simp; omega) (Ev.gk (inB_iff.2 (by omega)) (Ev.gk (inB_iff.2 (by omega)) (Ev.gk (decide_eq_true (by exact_mod_cast hc)) (Ev.gk (inB_iff.2 (by omega)) ih))))
theorem plus_ev (a b : Nat) (ha : a < M512) (hb : b < M512) : Ev (fun k => limb_plus.m k (toW a) (toW b)) (toW ((a + b) % M512), decide (a + b < M512)) := by
  refine Ev.succ (f := fun k => limb_plus.b0 k (limb_plus.go k) (toW a) (toW b)) ?_ (fun k => rfl)
  have := plus_go a b (List.replicate 8 (0 : Int)) 8 0 (by decide)
  simp only [Nat.pow_zero, Nat.mod_one, Nat.zero_div, Nat.add_zero, M512_eq, Nat.mod_eq_of_lt ha, Nat.mod_eq_of_lt hb, toW_zero] at this
  refine this.to ?_
  congr 1
  rw [decide_eq_decide, Nat.div_eq_zero_iff]
  have : M512 ≠ 0 := by decide
  omega
/-- A column of a difference. -/
theorem sub_step (a b i : Nat) : let u := a % W64 ^ i; let v := b % W64 ^ i; let c := if u < v then 1 else 0; let x := a / W64 ^ i % W64; let y := b / W64 ^ i % W64
    let c' := if x < y + c then 1 else 0
    (if a % W64 ^ (i + 1) < b % W64 ^ (i + 1) then 1 else 0) = c' ∧ x + c' * W64 - y - c < W64 ∧ y + c ≤ x + c' * W64 ∧
    a % W64 ^ (i + 1) + c' * W64 ^ (i + 1) - b % W64 ^ (i + 1) = (u + c * W64 ^ i - v) + (x + c' * W64 - y - c) * W64 ^ i ∧ u + c * W64 ^ i - v < W64 ^ i := by
  intro u v c x y c'
  have hp := pw i
  have hu : u < W64 ^ i := Nat.mod_lt a hp
  have hv : v < W64 ^ i := Nat.mod_lt b hp
  have hx : x < W64 := word_lt a i
  have hy : y < W64 := word_lt b i
  have h1 : a % W64 ^ (i + 1) = u + x * W64 ^ i := mod_next W64 a i
  have h2 : b % W64 ^ (i + 1) = v + y * W64 ^ i := mod_next W64 b i
  have hc : c = if u < v then 1 else 0 := rfl
  have hc' : c' = if x < y + c then 1 else 0 := rfl
  clear_value u v x y c c'
  rw [h1, h2, Nat.pow_succ]
  generalize W64 ^ i = P at *
  have eW : W64 = 18446744073709551616 := rfl
  by_cases huv : u < v
  · rw [if_pos huv] at hc
    subst hc
    by_cases hxy : x < y + 1
    · rw [if_pos hxy] at hc'
      subst hc'
      have h3 : x * P ≤ y * P := Nat.mul_le_mul_right _ (by omega)
      refine ⟨by rw [if_pos (by omega)], by omega, by omega, ?_, by omega⟩
      have h4 : (x + 1 * W64 - y - 1) * P + (y + 1) * P = (x + W64) * P := by rw [← Nat.add_mul]; congr 1; omega
      rw [Nat.add_mul, Nat.add_mul] at h4
      have h5 : W64 * P = P * W64 := Nat.mul_comm _ _
      omega
    · rw [if_neg hxy] at hc'
      subst hc'
      have h3 : (y + 1) * P ≤ x * P := Nat.mul_le_mul_right _ (by omega)
      rw [Nat.add_mul] at h3
      refine ⟨by rw [if_neg (by omega)], by omega, by omega, ?_, by omega⟩
      have h4 : (x + 0 * W64 - y - 1) * P + (y + 1) * P = x * P := by rw [← Nat.add_mul]; congr 1; omega
      rw [Nat.add_mul] at h4
      omega
  · rw [if_neg huv] at hc
    subst hc
    by_cases hxy : x < y + 0
    · rw [if_pos hxy] at hc'
      subst hc'
      have h3 : (x + 1) * P ≤ y * P := Nat.mul_le_mul_right _ (by omega)
      rw [Nat.add_mul] at h3
      refine ⟨by rw [if_pos (by omega)], by omega, by omega, ?_, by omega⟩
      have h4 : (x + 1 * W64 - y - 0) * P + y * P = (x + W64) * P := by rw [← Nat.add_mul]; congr 1; omega
      rw [Nat.add_mul] at h4
      have h5 : W64 * P = P * W64 := Nat.mul_comm _ _
      omega
    · rw [if_neg hxy] at hc'
      subst hc'
      have h3 : y * P ≤ x * P := Nat.mul_le_mul_right _ (by omega)
      refine ⟨by rw [if_neg (by omega)], by omega, by omega, ?_, by omega⟩
      have h4 : (x + 0 * W64 - y - 0) * P + y * P = x * P := by rw [← Nat.add_mul]; congr 1; omega
      omega
theorem minus_go (a b : Nat) (z : List Int) : ∀ (m i : Nat), i + m = 8 →
    Ev (fun k => limb_minus.go k (.l1 (toW a) (toW b) z (toW (a % W64 ^ i + (if a % W64 ^ i < b % W64 ^ i then 1 else 0) * W64 ^ i - b % W64 ^ i)) ((if a % W64 ^ i < b % W64 ^ i then 1 else 0 : Nat) : Int) (i : Int)))
      (toW (a % W64 ^ 8 + (if a % W64 ^ 8 < b % W64 ^ 8 then 1 else 0) * W64 ^ 8 - b % W64 ^ 8))
  | 0, i, h => by
    obtain rfl : i = 8 := by omega
    refine Ev.succ (f := fun k => limb_minus.b1 k (limb_minus.go k) _ _ z _ _ _) ?_ (fun k => rfl)
    simp only [limb_minus.b1]
    exact Ev.ff (by simp) Ev.ret
  | m + 1, i, h => by
    refine Ev.succ (f := fun k => limb_minus.b1 k (limb_minus.go k) _ _ z _ _ _) ?_ (fun k => rfl)
    simp only [limb_minus.b1, Int.toNat_natCast, toW_get _ i (show i < 8 by omega)]
    rw [v64 (by omega) (by omega)]
    obtain ⟨s1, s2, s3, s4, s5⟩ := sub_step a b i
    have ih := minus_go a b z m (i + 1) (by omega)
    rw [s1, s4] at ih
    have hc1 : (if a % W64 ^ i < b % W64 ^ i then 1 else 0) ≤ 1 := by split <;> omega
    generalize (if a % W64 ^ i < b % W64 ^ i then 1 else 0) = c at *
    have hx := word_lt a i
    have hy := word_lt b i
    generalize a / W64 ^ i % W64 = x at *
    generalize b / W64 ^ i % W64 = y at *
    have e1 : ((x : Int) - (y : Int) - (c : Int)) % 18446744073709551616 = ((x + (if x < y + c then 1 else 0) * W64 - y - c : Nat) : Int) := by
      have eW : W64 = 18446744073709551616 := rfl
      rw [eW] at hx hy s3 ⊢
      by_cases hlt : x < y + c
      · rw [if_pos hlt] at s3 ⊢; omega
      · rw [if_neg hlt] at s3 ⊢; omega
    have e2 : (if (x : Int) < (y : Int) + (c : Int) then (1 : Int) else 0) = ((if x < y + c then 1 else 0 : Nat) : Int) := by
      by_cases hlt : x < y + c
      · rw [if_pos hlt, if_pos (by omega)]; rfl
      · rw [if_neg hlt, if_neg (by omega)]; rfl
    rw [e1, e2, toW_put _ i _ (by omega) s5 s2]
    exact Ev.tt (by simp; omega) (Ev.gk (inB_iff.2 (by omega)) (Ev.gk (inB_iff.2 (by omega)) (Ev.gk (decide_eq_true (by omega)) (Ev.gk (inB_iff.2 (by omega)) ih))))
theorem minus_ev (a b : Nat) (ha : a < M512) (hb : b ≤ a) : Ev (fun k => limb_minus.m k (toW a) (toW b)) (toW (a - b)) := by
  refine Ev.succ (f := fun k => limb_minus.b0 k (limb_minus.go k) (toW a) (toW b)) ?_ (fun k => rfl)
  have := minus_go a b (List.replicate 8 (0 : Int)) 8 0 (by decide)
  simp only [Nat.pow_zero, Nat.mod_one, M512_eq, Nat.mod_eq_of_lt ha, Nat.mod_eq_of_lt (show b < M512 by omega), if_neg (show ¬ a < b by omega)] at this
  show Ev (fun k => limb_minus.go k (.l1 (toW a) (toW b) (List.replicate 8 (0 : Int)) (List.replicate 8 (0 : Int)) 0 0)) (toW (a - b))
  simpa [toW_zero] using this
/-- A number if it fits, and the error's number. -/
def fitN (v : Nat) : Bool × List Int × Er := if v < M512 then (false, toW v, .nil) else (false, List.replicate 8 0, .no 9)
theorem fit_ev (v w : Nat) (c : Bool) (hc : c = decide (v < M512)) (hw : v < M512 → w = v) : Ev (fun k => limb_fit.m k false (toW w) c) (fitN v) := by
  refine Ev.succ (f := fun k => limb_fit.b0 k false (toW w) c) ?_ (fun k => rfl)
  simp only [limb_fit.b0]
  subst hc
  unfold fitN
  by_cases h : v < M512
  · rw [if_pos h, hw h]
    exact Ev.ff (by simp [h]) (Ev.bind (made_ev v) Ev.ret)
  · rw [if_neg h]
    exact Ev.tt (by simp [h]) Ev.ret
theorem add_ev (a b : Nat) (ha : a < M512) (hb : b < M512) : Ev (fun k => limb_Add.m k false (toW a) false (toW b)) (fitN (a + b)) := by
  refine Ev.succ (f := fun k => limb_Add.b0 k false (toW a) false (toW b)) ?_ (fun k => rfl)
  simp only [limb_Add.b0]
  exact Ev.tt rfl (Ev.bind (plus_ev a b ha hb) (Ev.bind (fit_ev (a + b) _ _ rfl (fun h => Nat.mod_eq_of_lt h)) Ev.ret))
end Go.Proofs.YtaakccdfgejgpaaGreatDoor.Pure
namespace Go.Proofs.YtaakccdfgejgpaaGreatDoor.Pure
open Go Abs
set_option linter.unusedVariables false
set_option linter.unusedSimpArgs false

theorem maskN (a : Nat) (ha : a < 18446744073709551616) : Go.bits .and .u64 (a : Int) 4294967295 = ((a % 4294967296 : Nat) : Int) := by
  have h := u64_and_nat a 4294967295 ha (by omega)
  rw [Nat.and_two_pow_sub_one_eq_mod a 32] at h
  exact h
theorem shr32 (a : Nat) : shrI .u64 (a : Int) 32 = ((a / 4294967296 : Nat) : Int) := by
  show (a : Int).fdiv 4294967296 = _
  rw [Int.fdiv_eq_ediv_of_nonneg _ (by decide)]
  omega
theorem wrapN (a : Nat) (ha : a < 18446744073709551616) : wr .u64 (a : Int) = (a : Int) := u64i (by omega) (by omega)
theorem wrapM (a : Nat) : wr .u64 (a : Int) = ((a % W64 : Nat) : Int) := by rw [wru, cmod]
theorem mulN (a b : Nat) : (a : Int) * (b : Int) = ((a * b : Nat) : Int) := (Int.natCast_mul a b).symm
theorem addN (a b : Nat) : (a : Int) + (b : Int) = ((a + b : Nat) : Int) := (Int.natCast_add a b).symm
theorem mul64_ev (x y : Nat) (hx : x < W64) (hy : y < W64) : Ev (fun k => bits_Mul64.m k (x : Int) (y : Int)) (((x * y / W64 : Nat) : Int), ((x * y % W64 : Nat) : Int)) := by
  refine Ev.succ (f := fun k => bits_Mul64.b0 k (x : Int) (y : Int)) ?_ (fun k => rfl)
  simp only [bits_Mul64.b0]
  have hx : x < 18446744073709551616 := hx
  have hy : y < 18446744073709551616 := hy
  obtain ⟨bd, bt, bw, hhi⟩ := Lib.mul64_hi x y hx hy
  have ba := Lib.half_mul_le (a := x / 4294967296) (b := y / 4294967296) (by omega) (by omega)
  have bb := Lib.half_mul_le (a := x / 4294967296) (b := y % 4294967296) (by omega) (by omega)
  have bc := Lib.half_mul_le (a := x % 4294967296) (b := y / 4294967296) (by omega) (by omega)
  have ba' : x / 4294967296 * (y / 4294967296) < 18446744073709551616 := by omega
  have bb' : x / 4294967296 * (y % 4294967296) < 18446744073709551616 := by omega
  have bc' : x % 4294967296 * (y / 4294967296) < 18446744073709551616 := by omega
  have bh1 : x / 4294967296 * (y / 4294967296) + (x / 4294967296 * (y % 4294967296) + x % 4294967296 * (y % 4294967296) / 4294967296) / 4294967296 < 18446744073709551616 := by omega
  have bh : x / 4294967296 * (y / 4294967296) + (x / 4294967296 * (y % 4294967296) + x % 4294967296 * (y % 4294967296) / 4294967296) / 4294967296 + ((x / 4294967296 * (y % 4294967296) + x % 4294967296 * (y % 4294967296) / 4294967296) % 4294967296 + x % 4294967296 * (y / 4294967296)) / 4294967296 < 18446744073709551616 := by omega
  simp only [maskN x hx, maskN y hy, shr32, mulN, addN, wrapN _ bd, wrapN _ bb', wrapN _ bt, maskN _ bt, wrapN _ bc', wrapN _ bw, wrapN _ ba', wrapN _ bh1, wrapN _ bh, wrapM (x * y)]
  rw [hhi]
  exact Ev.ret

def Row (a b i : Nat) (s : List Int) (ok : Bool) : Prop := s.length = 8 ∧ (ok = true → ∃ S, s = toW S ∧ S < M512 ∧ S = a % W64 ^ i * b) ∧ (ok = false → M512 ≤ a * b)
def Col (a b i k : Nat) (s : List Int) (ok : Bool) (c : Int) : Prop := s.length = 8 ∧ (ok = true → ∃ S cn : Nat, s = toW S ∧ c = (cn : Int) ∧ S < M512 ∧ cn < W64 ∧ (i + k ≤ 8 ∨ cn = 0) ∧ S + cn * W64 ^ (i + k) = a % W64 ^ i * b + a / W64 ^ i % W64 * (b % W64 ^ k) * W64 ^ i) ∧ (ok = false → M512 ≤ a * b)
/-- What is done so far is no more than the product. -/
theorem part_le (a b i k : Nat) : a % W64 ^ i * b + a / W64 ^ i % W64 * (b % W64 ^ k) * W64 ^ i ≤ a * b := by
  have h1 := mod_next W64 a i
  have h2 : a % W64 ^ (i + 1) ≤ a := Nat.mod_le _ _
  have h3 : b % W64 ^ k ≤ b := Nat.mod_le _ _
  have h4 : a / W64 ^ i % W64 * (b % W64 ^ k) * W64 ^ i ≤ a / W64 ^ i % W64 * b * W64 ^ i := Nat.mul_le_mul_right _ (Nat.mul_le_mul_left _ h3)
  have h5 : a % W64 ^ (i + 1) * b ≤ a * b := Nat.mul_le_mul_right _ h2
  have h6 : a % W64 ^ (i + 1) * b = a % W64 ^ i * b + a / W64 ^ i % W64 * b * W64 ^ i := by rw [h1]; grind
  omega
theorem part_next (a b i k : Nat) : a % W64 ^ i * b + a / W64 ^ i % W64 * (b % W64 ^ (k + 1)) * W64 ^ i = a % W64 ^ i * b + a / W64 ^ i % W64 * (b % W64 ^ k) * W64 ^ i + a / W64 ^ i % W64 * (b / W64 ^ k % W64) * W64 ^ (i + k) := by
  rw [mod_next W64 b k, Nat.pow_add]
  grind
theorem pow_mono (i : Nat) (h : 8 ≤ i) : M512 ≤ W64 ^ i := by rw [← M512_eq]; exact Nat.pow_le_pow_right (by decide) h
/-- One word of a row. -/
theorem col_step (a b i k : Nat) (S cn : Nat) (hk : i + k < 8) (hS : S < M512) (hc : cn < W64) (e : S + cn * W64 ^ (i + k) = a % W64 ^ i * b + a / W64 ^ i % W64 * (b % W64 ^ k) * W64 ^ i) :
    let x := a / W64 ^ i % W64; let y := b / W64 ^ k % W64; let t := S / W64 ^ (i + k) % W64 + (x * y % W64 + cn) % W64; let c' := x * y / W64 + (x * y % W64 + cn) / W64 + t / W64
    c' < W64 ∧ ∃ S', (toW S).set (i + k) ((t % W64 : Nat) : Int) = toW S' ∧ S' < M512 ∧ S' + c' * W64 ^ (i + (k + 1)) = a % W64 ^ i * b + a / W64 ^ i % W64 * (b % W64 ^ (k + 1)) * W64 ^ i := by
  intro x y t c'
  have hx : x < W64 := word_lt a i
  have hy : y < W64 := word_lt b k
  have hw : S / W64 ^ (i + k) % W64 < W64 := word_lt S (i + k)
  rw [part_next, ← e, show i + (k + 1) = (i + k) + 1 by omega, Nat.pow_succ]
  have hsp := split3 W64 S (i + k) (by decide)
  have hp := pw (i + k)
  have hl := Nat.mod_lt S hp
  have hset := fun z hz => toB_set W64 (by decide) 8 (i + k) (S % W64 ^ (i + k)) (S / W64 ^ (i + k) % W64) z (S / W64 ^ (i + k + 1)) hk hl hw hz
  rw [← hsp] at hset
  have hS8 : S < W64 ^ (i + k + 1) * W64 ^ (7 - (i + k)) := by rw [← Nat.pow_add, show i + k + 1 + (7 - (i + k)) = 8 by omega, M512_eq]; exact hS
  have hh : S / W64 ^ (i + k + 1) < W64 ^ (7 - (i + k)) := by rw [Nat.div_lt_iff_lt_mul (pw _), Nat.mul_comm]; exact hS8
  have hM : M512 = W64 ^ (7 - (i + k)) * (W64 * W64 ^ (i + k)) := by rw [← Nat.pow_succ', ← Nat.pow_add, show 7 - (i + k) + (i + k + 1) = 8 by omega, M512_eq]
  have d1 := Nat.mod_add_div (x * y) W64
  have d2 := Nat.mod_add_div (x * y % W64 + cn) W64
  have d3 := Nat.mod_add_div t W64
  have ht : t = S / W64 ^ (i + k) % W64 + (x * y % W64 + cn) % W64 := rfl
  have hc' : c' = x * y / W64 + (x * y % W64 + cn) / W64 + t / W64 := rfl
  have hxy : x * y ≤ (W64 - 1) * (W64 - 1) := Nat.mul_le_mul (by omega) (by omega)
  have htl := Nat.mod_lt t (show 0 < W64 by decide)
  have hsum : t % W64 + W64 * c' = x * y + cn + S / W64 ^ (i + k) % W64 := by rw [hc']; grind
  have hX : a / W64 ^ i % W64 = x := rfl
  have hY : b / W64 ^ k % W64 = y := rfl
  clear_value x y
  refine ⟨?_, S % W64 ^ (i + k) + (t % W64 + W64 * (S / W64 ^ (i + k + 1))) * W64 ^ (i + k), hset (t % W64) htl, ?_, ?_⟩
  · have : W64 * c' < W64 * W64 := by
      have e1 : (W64 - 1) * (W64 - 1) + W64 + W64 ≤ W64 * W64 + 1 := by decide
      omega
    exact Nat.lt_of_mul_lt_mul_left this
  · rw [hM]
    generalize W64 ^ (i + k) = P at *
    generalize W64 ^ (7 - (i + k)) = Z at *
    generalize S / W64 ^ (i + k + 1) = h at *
    have q1 : (t % W64 + W64 * h + 1) * P ≤ (W64 * (h + 1)) * P := Nat.mul_le_mul_right _ (by rw [Nat.mul_add]; omega)
    have q2 : (h + 1) * (W64 * P) ≤ Z * (W64 * P) := Nat.mul_le_mul_right _ hh
    have q3 : (W64 * (h + 1)) * P = (h + 1) * (W64 * P) := by grind
    rw [Nat.add_mul (t % W64 + W64 * h) 1 P] at q1
    omega
  · have q : (t % W64 + W64 * c') * W64 ^ (i + k) = (x * y + cn + S / W64 ^ (i + k) % W64) * W64 ^ (i + k) := by rw [hsum]
    rw [hX, hY]
    clear hset hS8 hh hM d1 d2 d3 ht hc' hxy htl hsum hS e hX hY
    clear_value t c'
    generalize t % W64 = T at *
    generalize S / W64 ^ (i + k) % W64 = w at *
    generalize S / W64 ^ (i + k + 1) = h at *
    generalize S % W64 ^ (i + k) = l at *
    generalize W64 ^ (i + k) = P at *
    rw [hsp]
    clear hsp
    grind
theorem mul_in (a b i : Nat) (z : List Int) (hi : i < 8) (hb : b < M512) (R : Bool × List Int × Er) (hnext : ∀ s ok, Row a b (i + 1) s ok → Ev (fun k => limb_Mul.go k (.l1 false (toW a) false (toW b) false z s ok (toW a) ((i + 1 : Nat) : Int))) R) :
    ∀ (m k : Nat) (s : List Int) (ok : Bool) (c : Int), k + m = 8 → Col a b i k s ok c → Ev (fun n => limb_Mul.go n (.l2 false (toW a) false (toW b) false z s ok (i : Int) ((a / W64 ^ i % W64 : Nat) : Int) c (toW a) (i : Int) (toW b) (k : Int))) R
  | 0, k, s, ok, c, h, hc => by
    obtain rfl : k = 8 := by omega
    refine Ev.succ (f := fun n => limb_Mul.b2 n (limb_Mul.go n) false (toW a) false (toW b) false z s ok (i : Int) ((a / W64 ^ i % W64 : Nat) : Int) c (toW a) (i : Int) (toW b) ((8 : Nat) : Int)) ?_ (fun k => rfl)
    simp only [limb_Mul.b2]
    have ei : wr .i64 ((i : Int) + 1) = ((i + 1 : Nat) : Int) := by rw [v64 (by omega) (by omega)]; omega
    rw [ei]
    obtain ⟨c1, c2, c3⟩ := hc
    have he : a % W64 ^ i * b + a / W64 ^ i % W64 * (b % W64 ^ 8) * W64 ^ i = a % W64 ^ (i + 1) * b := by
      rw [M512_eq, Nat.mod_eq_of_lt hb, mod_next W64 a i]
      grind
    have hle := part_le a b i 8
    refine Ev.ff (by simp) (Ev.bif (fun ho => ?_) (fun ho => ?_))
    · obtain ⟨S, cn, rfl, rfl, g1, g2, g3, g4⟩ := c2 ho
      refine hnext _ _ ⟨c1, fun hz => ?_, fun hz => ?_⟩
      · have hz : cn = 0 := by simpa using hz
        subst hz
        simp only [Nat.zero_mul, Nat.add_zero] at g4
        exact ⟨S, rfl, g1, by rw [g4, he]⟩
      · have hz : cn ≠ 0 := by simpa using hz
        have h8 : i + 8 ≤ 8 := g3.resolve_right hz
        obtain rfl : i = 0 := by omega
        have : 1 * W64 ^ (0 + 8) ≤ cn * W64 ^ (0 + 8) := Nat.mul_le_mul_right _ (by omega)
        simp only [Nat.zero_add, M512_eq] at this g4 hle
        omega
    · exact hnext s false ⟨c1, fun hz => (by cases hz), fun _ => c3 ho⟩
  | m + 1, k, s, ok, c, h, hc => by
    refine Ev.succ (f := fun n => limb_Mul.b2 n (limb_Mul.go n) false (toW a) false (toW b) false z s ok (i : Int) ((a / W64 ^ i % W64 : Nat) : Int) c (toW a) (i : Int) (toW b) (k : Int)) ?_ (fun k => rfl)
    simp only [limb_Mul.b2, Int.toNat_natCast, toW_get b k (show k < 8 by omega)]
    have ew : wr .i64 ((i : Int) + (k : Int)) = ((i + k : Nat) : Int) := by rw [v64 (by omega) (by omega)]; omega
    have ek : wr .i64 ((k : Int) + 1) = ((k + 1 : Nat) : Int) := by rw [v64 (by omega) (by omega)]; omega
    rw [ew, ek]
    have ih := mul_in a b i z hi hb R hnext m (k + 1)
    have hx := word_lt a i
    have hy := word_lt b k
    obtain ⟨c1, c2, c3⟩ := hc
    refine Ev.tt (by simp; omega) (Ev.gk (inB_iff.2 (by omega)) (Ev.bind (mul64_ev _ _ hx hy) (Ev.bif (fun hg => ?_) (fun hg => ?_))))
    · -- beyond the eighth word
      have hge : 8 ≤ i + k := by have := of_decide_eq_true hg; omega
      have l3 : ∀ o, (o = true → ok = true ∧ a / W64 ^ i % W64 * (b / W64 ^ k % W64) = 0 ∧ c = 0) → (o = false → M512 ≤ a * b) →
          Ev (fun n => limb_Mul.go n (.l3 false (toW a) false (toW b) false z s o (i : Int) ((a / W64 ^ i % W64 : Nat) : Int) (toW a) (i : Int) (toW b) (k : Int))) R := by
        intro o h1 h2
        refine Ev.succ (f := fun n => limb_Mul.b3 n (limb_Mul.go n) false (toW a) false (toW b) false z s o (i : Int) ((a / W64 ^ i % W64 : Nat) : Int) (toW a) (i : Int) (toW b) (k : Int)) ?_ (fun k => rfl)
        simp only [limb_Mul.b3]
        rw [ek]
        refine ih s o 0 (by omega) ⟨c1, fun ho => ?_, h2⟩
        obtain ⟨q1, q2, q3⟩ := h1 ho
        obtain ⟨S, cn, rfl, rfl, g1, g2, g3, g4⟩ := c2 q1
        have hcn : cn = 0 := by omega
        subst hcn
        refine ⟨S, 0, rfl, rfl, g1, by decide, .inr rfl, ?_⟩
        rw [part_next, q2]
        simpa using g4
      have bad : ok = true → (a / W64 ^ i % W64 * (b / W64 ^ k % W64) ≠ 0 ∨ c ≠ 0) → M512 ≤ a * b := by
        intro ho hn
        obtain ⟨S, cn, rfl, rfl, g1, g2, g3, g4⟩ := c2 ho
        have hle := part_le a b i (k + 1)
        rw [part_next] at hle
        have hm := pow_mono (i + k) hge
        rcases hn with hn | hn
        · have : 1 * W64 ^ (i + k) ≤ a / W64 ^ i % W64 * (b / W64 ^ k % W64) * W64 ^ (i + k) := Nat.mul_le_mul_right _ (by omega)
          omega
        · have : 1 * W64 ^ (i + k) ≤ cn * W64 ^ (i + k) := Nat.mul_le_mul_right _ (by omega)
          omega
      have dm := Nat.mod_add_div (a / W64 ^ i % W64 * (b / W64 ^ k % W64)) W64
      refine Ev.bif (fun ho => Ev.bif (fun h1 => Ev.bif (fun h2 => ?_) (fun h2 => ?_)) (fun h1 => ?_)) (fun ho => l3 _ (fun h => by cases h) (fun _ => c3 ho))
      · have h1 : a / W64 ^ i % W64 * (b / W64 ^ k % W64) / W64 = 0 := by
          have := eq_of_beq h1; omega
        have h2 : a / W64 ^ i % W64 * (b / W64 ^ k % W64) % W64 = 0 := by
          have := eq_of_beq h2; omega
        have hz : a / W64 ^ i % W64 * (b / W64 ^ k % W64) = 0 := by rw [← dm, h1, h2]; rfl
        refine l3 _ (fun h => ⟨ho, hz, by simpa using h⟩) (fun h => bad ho (.inr (by simpa using h)))
      · refine l3 _ (fun h => by cases h) (fun _ => bad ho (.inl fun e => ?_))
        rw [e] at h2; simp at h2
      · refine l3 _ (fun h => by cases h) (fun _ => bad ho (.inl fun e => ?_))
        rw [e] at h1; simp at h1
    · have hlt : i + k < 8 := by have := of_decide_eq_false hg; omega
      refine Ev.gk rfl (Ev.gk (inB_iff.2 (by omega)) (Ev.gk rfl (Ev.gk (inB_iff.2 (by omega)) ?_)))
      simp only [Int.toNat_natCast, Int.add_zero]
      refine ih _ ok _ (by omega) ⟨by rw [List.length_set]; exact c1, fun ho => ?_, c3⟩
      obtain ⟨S, cn, rfl, rfl, g1, g2, g3, g4⟩ := c2 ho
      obtain ⟨q1, S', q2, q3, q4⟩ := col_step a b i k S cn hlt g1 g2 g4
      rw [toW_get S (i + k) hlt]
      simp only [addN, cmod, cdiv]
      have hw1 : a / W64 ^ i % W64 * (b / W64 ^ k % W64) / W64 + (a / W64 ^ i % W64 * (b / W64 ^ k % W64) % W64 + cn) / W64 < W64 := Nat.lt_of_le_of_lt (Nat.le_add_right _ _) q1
      rw [wrapN _ hw1, addN, wrapN _ q1]
      exact ⟨S', _, q2, rfl, q3, q1, .inl (by omega), q4⟩
theorem mul_go (a b : Nat) (z : List Int) (hb : b < M512) (ha : a < M512) : ∀ (m i : Nat) (s : List Int) (ok : Bool), i + m = 8 → Row a b i s ok → Ev (fun k => limb_Mul.go k (.l1 false (toW a) false (toW b) false z s ok (toW a) (i : Int))) (fitN (a * b))
  | 0, i, s, ok, h, hr => by
    obtain rfl : i = 8 := by omega
    refine Ev.succ (f := fun n => limb_Mul.b1 n (limb_Mul.go n) false (toW a) false (toW b) false z s ok (toW a) ((8 : Nat) : Int)) ?_ (fun k => rfl)
    simp only [limb_Mul.b1]
    obtain ⟨r1, r2, r3⟩ := hr
    refine Ev.ff (by simp) ?_
    cases ok with
    | true =>
      obtain ⟨S, rfl, g1, g2⟩ := r2 rfl
      rw [M512_eq, Nat.mod_eq_of_lt ha] at g2
      subst g2
      exact Ev.bind (fit_ev (a * b) (a * b) true (by simpa using g1) (fun _ => rfl)) Ev.ret
    | false =>
      have hge := r3 rfl
      have hf : Ev (fun k => limb_fit.m k (!(false == false)) s false) (fitN (a * b)) := by
        refine Ev.succ (f := fun k => limb_fit.b0 k false s false) ?_ (fun k => rfl)
        simp only [limb_fit.b0]
        unfold fitN
        rw [if_neg (by omega)]
        exact Ev.tt rfl Ev.ret
      exact Ev.bind hf Ev.ret
  | m + 1, i, s, ok, h, hr => by
    refine Ev.succ (f := fun n => limb_Mul.b1 n (limb_Mul.go n) false (toW a) false (toW b) false z s ok (toW a) (i : Int)) ?_ (fun k => rfl)
    simp only [limb_Mul.b1, Int.toNat_natCast, toW_get a i (show i < 8 by omega)]
    obtain ⟨r1, r2, r3⟩ := hr
    refine Ev.tt (by simp; omega) (Ev.gk (inB_iff.2 (by omega)) ?_)
    refine mul_in a b i z (by omega) hb _ (fun s' ok' hr' => mul_go a b z hb ha m (i + 1) s' ok' (by omega) hr') 8 0 s ok 0 (by omega) ⟨r1, fun ho => ?_, r3⟩
    obtain ⟨S, rfl, g1, g2⟩ := r2 ho
    refine ⟨S, 0, rfl, rfl, g1, by decide, .inr rfl, ?_⟩
    rw [g2]
    simp [Nat.mod_one]
theorem mul_ev (a b : Nat) (ha : a < M512) (hb : b < M512) : Ev (fun k => limb_Mul.m k false (toW a) false (toW b)) (fitN (a * b)) := by
  refine Ev.succ (f := fun k => limb_Mul.b0 k (limb_Mul.go k) false (toW a) false (toW b)) ?_ (fun k => rfl)
  simp only [limb_Mul.b0]
  refine mul_go a b _ hb ha 8 0 _ true (by decide) ⟨by simp, fun _ => ⟨0, toW_zero.symm, by decide, ?_⟩, fun h => by cases h⟩
  simp [Nat.mod_one]
end Go.Proofs.YtaakccdfgejgpaaGreatDoor.Pure
namespace Go.Proofs.YtaakccdfgejgpaaGreatDoor.Pure
open Go Abs
set_option linter.unusedVariables false
set_option linter.unusedSimpArgs false

/-- How many bits a number has. -/
def blen (v : Nat) : Nat := if v = 0 then 0 else v.log2 + 1
theorem blen_lt (v : Nat) : v < 2 ^ blen v := by
  unfold blen
  split
  · omega
  · exact Nat.lt_log2_self
theorem blen_le (v : Nat) (h : v ≠ 0) : 2 ^ (blen v - 1) ≤ v ∧ 1 ≤ blen v := by
  unfold blen
  rw [if_neg h]
  exact ⟨Nat.log2_self_le h, by omega⟩
theorem blen_of (v n : Nat) (h : v < 2 ^ n) (h' : n = 0 ∨ 2 ^ (n - 1) ≤ v) : blen v = n := by
  by_cases hv : v = 0
  · subst hv
    rcases h' with h' | h'
    · rw [h']; rfl
    · have := Nat.pow_pos (n := n - 1) (show 0 < 2 by decide); omega
  · have h1 := blen_lt v
    obtain ⟨h2, h3⟩ := blen_le v hv
    rcases h' with h' | h'
    · subst h'; simp at h; omega
    · have a1 : 2 ^ (blen v - 1) < 2 ^ n := Nat.lt_of_le_of_lt h2 h
      have a2 : 2 ^ (n - 1) < 2 ^ blen v := Nat.lt_of_le_of_lt h' h1
      rw [Nat.pow_lt_pow_iff_right (by decide)] at a1 a2
      omega
theorem blen_shift (v s : Nat) (h : v / 2 ^ s ≠ 0) : blen v = blen (v / 2 ^ s) + s := by
  have h1 := blen_lt (v / 2 ^ s)
  obtain ⟨h2, h3⟩ := blen_le _ h
  refine blen_of v _ ?_ (.inr ?_)
  · rw [Nat.div_lt_iff_lt_mul (Nat.pow_pos (by decide)), ← Nat.pow_add] at h1
    exact h1
  · rw [Nat.le_div_iff_mul_le (Nat.pow_pos (by decide)), ← Nat.pow_add] at h2
    rwa [show blen (v / 2 ^ s) - 1 + s = blen (v / 2 ^ s) + s - 1 by omega] at h2
theorem blen_le_of (v n : Nat) (h : v < 2 ^ n) : blen v ≤ n := by
  by_cases hv : v = 0
  · subst hv; exact Nat.zero_le _
  · obtain ⟨h2, h3⟩ := blen_le v hv
    have := Nat.lt_of_le_of_lt h2 h
    rw [Nat.pow_lt_pow_iff_right (by decide)] at this
    omega
def lenT : List UInt8 := [0, 1, 2, 2, 3, 3, 3, 3, 4, 4, 4, 4, 4, 4, 4, 4, 5, 5, 5, 5, 5, 5, 5, 5, 5, 5, 5, 5, 5, 5, 5, 5] ++ List.replicate 32 6 ++ List.replicate 64 7 ++ List.replicate 128 8
theorem len_tab : (List.range 256).all (fun n => byt lenT ((n : Nat) : Int) == (blen n : Int)) = true := by kernel_rfl
theorem len_at (n : Nat) (h : n < 256) : byt lenT (n : Int) = (blen n : Int) := by
  have := List.all_eq_true.1 len_tab n (by simpa using h)
  simpa using this
theorem shrN (a s : Nat) (hs : s ≤ 64) : shrI .u64 (a : Int) (s : Int) = ((a / 2 ^ s : Nat) : Int) := by
  have e : shrI .u64 (a : Int) (s : Int) = (a : Int).fdiv (2 ^ s) := by
    unfold shrI
    rw [Int.toNat_natCast, show min s (IntKind.bits .u64) = s from Nat.min_eq_left hs]
  rw [e, Int.fdiv_eq_ediv_of_nonneg _ (Int.le_of_lt (Int.pow_pos (by decide)))]
  simp
theorem shlN (a s : Nat) (hs : s ≤ 64) : shlI .u64 (a : Int) (s : Int) = ((a * 2 ^ s % W64 : Nat) : Int) := by
  have e : shlI .u64 (a : Int) (s : Int) = IntKind.u64.wrap ((a : Int) * 2 ^ s) := by
    unfold shlI
    rw [Int.toNat_natCast, show min s (IntKind.bits .u64) = s from Nat.min_eq_left hs]
  rw [e]
  have := wrapM (a * 2 ^ s)
  rw [← this]
  simp
set_option maxRecDepth 100000 in
theorem len64_ev (x : Nat) (hx : x < W64) : Ev (fun k => bits_Len64.m k (x : Int)) (blen x : Int) := by
  have hx : x < 18446744073709551616 := hx
  have l2 : ∀ y n : Nat, y < 65536 → n ≤ 48 → (blen x : Int) = blen y + n → Ev (fun k => bits_Len64.go k (.l2 (y : Int) (n : Int))) (blen x : Int) := by
    intro y n hy hn he
    refine Ev.succ (f := fun k => bits_Len64.b2 k (bits_Len64.go k) (y : Int) (n : Int)) ?_ (fun k => rfl)
    show Ev (fun k => bif (decide ((y : Int) ≥ 256)) then gk (inB (wr .u8 (shrI .u64 (y : Int) 8)) lenT.length) (some (wr .i64 ((wr .i64 ((n : Int) + 8)) + (wr .i64 (byt lenT (wr .u8 (shrI .u64 (y : Int) 8)))))))
      else gk (inB (wr .u8 (y : Int)) lenT.length) (some (wr .i64 ((n : Int) + (wr .i64 (byt lenT (wr .u8 (y : Int)))))))) _
    have w8' : ∀ z : Nat, z < 256 → wr .u8 (z : Int) = (z : Int) := fun z hz => w8 (by omega) (by omega)
    refine Ev.bif (fun h => ?_) (fun h => ?_)
    · have h := of_decide_eq_true h
      have hd : y / 256 < 256 := by omega
      have e1 := shrN y 8 (by decide)
      have hne : y / 2 ^ 8 ≠ 0 := by show y / 256 ≠ 0; omega
      have hb := blen_shift y 8 hne
      have hl := blen_le_of (y / 256) 8 (by omega)
      have hb : blen y = blen (y / 256) + 8 := hb
      show Ev (fun k => gk (inB (wr .u8 (shrI .u64 (y : Int) ((8 : Nat) : Int))) lenT.length) (some (wr .i64 ((wr .i64 ((n : Int) + 8)) + (wr .i64 (byt lenT (wr .u8 (shrI .u64 (y : Int) ((8 : Nat) : Int))))))))) _
      have e2 : y / 2 ^ 8 = y / 256 := rfl
      rw [e1, e2, w8' _ hd, len_at _ hd, v64 (n := (n : Int) + 8) (by omega) (by omega), v64 (n := (blen (y / 256) : Int)) (by omega) (by omega), v64 (by omega) (by omega)]
      exact Ev.gk (inB_iff.2 ⟨by omega, by show ((y / 256 : Nat) : Int) < 256; omega⟩) (Ev.ret' (by omega))
    · have h := of_decide_eq_false h
      have hd : y < 256 := by omega
      have hl := blen_le_of y 8 (by omega)
      show Ev (fun k => gk (inB (wr .u8 (y : Int)) lenT.length) (some (wr .i64 ((n : Int) + (wr .i64 (byt lenT (wr .u8 (y : Int)))))))) _
      rw [w8' _ hd, len_at _ hd, v64 (n := (blen y : Int)) (by omega) (by omega), v64 (by omega) (by omega)]
      exact Ev.gk (inB_iff.2 ⟨by omega, by show (y : Int) < 256; omega⟩) (Ev.ret' (by omega))
  have l1 : ∀ y n : Nat, y < 4294967296 → n ≤ 32 → (blen x : Int) = blen y + n → Ev (fun k => bits_Len64.go k (.l1 (y : Int) (n : Int))) (blen x : Int) := by
    intro y n hy hn he
    refine Ev.succ (f := fun k => bits_Len64.b1 k (bits_Len64.go k) (y : Int) (n : Int)) ?_ (fun k => rfl)
    simp only [bits_Len64.b1]
    refine Ev.bif (fun h => ?_) (fun h => ?_)
    · have h := of_decide_eq_true h
      have e1 : shrI .u64 (y : Int) 16 = ((y / 65536 : Nat) : Int) := shrN y 16 (by decide)
      have hb : blen y = blen (y / 65536) + 16 := blen_shift y 16 (by show y / 65536 ≠ 0; omega)
      have e2 : wr .i64 ((n : Int) + 16) = ((n + 16 : Nat) : Int) := by rw [v64 (by omega) (by omega)]; omega
      rw [e1, e2]
      exact l2 _ _ (by omega) (by omega) (by omega)
    · have h := of_decide_eq_false h
      exact l2 _ _ (by omega) (by omega) he
  refine Ev.succ (f := fun k => bits_Len64.b0 k (bits_Len64.go k) (x : Int)) ?_ (fun k => rfl)
  simp only [bits_Len64.b0]
  refine Ev.bif (fun h => ?_) (fun h => ?_)
  · have h := of_decide_eq_true h
    have e1 : shrI .u64 (x : Int) 32 = ((x / 4294967296 : Nat) : Int) := shrN x 32 (by decide)
    have hb : blen x = blen (x / 4294967296) + 32 := blen_shift x 32 (by show x / 4294967296 ≠ 0; omega)
    rw [e1]
    exact l1 _ 32 (by omega) (by omega) (by omega)
  · have h := of_decide_eq_false h
    exact l1 x 0 (by omega) (by omega) (by omega)
theorem W64_pow (i : Nat) : W64 ^ i = 2 ^ (64 * i) := by
  rw [show W64 = 2 ^ 64 from rfl, ← Nat.pow_mul]
theorem length_go (v : Nat) : ∀ i : Nat, i ≤ 8 → v < W64 ^ i → Ev (fun k => limb_length.go k (.l1 (toW v) ((i : Int) - 1))) (blen v : Int)
  | 0, _, h => by
    have : v = 0 := by simpa using h
    subst this
    refine Ev.succ (f := fun k => limb_length.b1 k (limb_length.go k) (toW 0) _) ?_ (fun k => rfl)
    simp only [limb_length.b1]
    exact Ev.ff (by simp) Ev.ret
  | i + 1, hi, h => by
    have e0 : ((i + 1 : Nat) : Int) - 1 = i := by omega
    rw [e0]
    refine Ev.succ (f := fun k => limb_length.b1 k (limb_length.go k) (toW v) (i : Int)) ?_ (fun k => rfl)
    simp only [limb_length.b1, Int.toNat_natCast, toW_get _ i (show i < 8 by omega)]
    have hd : v / W64 ^ i < W64 := by rw [Nat.div_lt_iff_lt_mul (pw i), ← Nat.pow_succ']; exact h
    have hw : v / W64 ^ i % W64 = v / W64 ^ i := Nat.mod_eq_of_lt hd
    rw [hw]
    have hl := blen_le_of (v / W64 ^ i) 64 hd
    refine Ev.tt (by simp) (Ev.gk (inB_iff.2 (by omega)) (Ev.bif (fun hne => Ev.gk (inB_iff.2 (by omega)) (Ev.bind (len64_ev _ hd) (Ev.ret' ?_))) (fun hz => ?_)))
    · have hne : v / W64 ^ i ≠ 0 := by intro e; rw [e] at hne; simp at hne
      have hb := blen_shift v (64 * i) (by rw [← W64_pow]; exact hne)
      rw [← W64_pow] at hb
      rw [v64 (n := 64 * (i : Int)) (by omega) (by omega), v64 (by omega) (by omega)]
      omega
    · have hz : v / W64 ^ i = 0 := by
        have : ((v / W64 ^ i : Nat) : Int) = 0 := by simpa using hz
        omega
      rw [v64 (by omega) (by omega)]
      refine length_go v i (by omega) ?_
      rw [Nat.div_eq_zero_iff] at hz
      have := pw i
      omega
theorem length_ev (v : Nat) (h : v < M512) : Ev (fun k => limb_length.m k (toW v)) (blen v : Int) := by
  refine Ev.succ (f := fun k => limb_length.b0 k (limb_length.go k) (toW v)) ?_ (fun k => rfl)
  exact length_go v 8 (by decide) (by rw [M512_eq]; exact h)

/-! ### Shifts up -/
/-- A word of a number that is shifted up by fewer bits than a word has. -/
theorem up_word (a r j : Nat) (hr : r < 64) : a * 2 ^ r / W64 ^ j % W64 = a / W64 ^ j % W64 * 2 ^ r % W64 + (if 0 < j then a / W64 ^ (j - 1) % W64 / 2 ^ (64 - r) else 0) ∧
    a / W64 ^ j % W64 * 2 ^ r % W64 % 2 ^ r = 0 ∧ (if 0 < j then a / W64 ^ (j - 1) % W64 / 2 ^ (64 - r) else 0) < 2 ^ r := by
  have hR : 0 < 2 ^ r := Nat.pow_pos (by decide)
  have hT : 0 < 2 ^ (64 - r) := Nat.pow_pos (by decide)
  have hRT : 2 ^ r * 2 ^ (64 - r) = W64 := by rw [← Nat.pow_add, show r + (64 - r) = 64 by omega]
  have hlow : a / W64 ^ j % W64 * 2 ^ r % W64 % 2 ^ r = 0 := by
    rw [← hRT, Nat.mod_mul_right_mod, Nat.mul_mod_left]
  have hc : (if 0 < j then a / W64 ^ (j - 1) % W64 / 2 ^ (64 - r) else 0) < 2 ^ r := by
    split
    · rw [Nat.div_lt_iff_lt_mul hT, hRT]; exact word_lt _ _
    · exact hR
  refine ⟨?_, hlow, hc⟩
  have hq : a * 2 ^ r / W64 ^ j = a / W64 ^ j * 2 ^ r + (if 0 < j then a / W64 ^ (j - 1) % W64 / 2 ^ (64 - r) else 0) := by
    by_cases hj : 0 < j
    · rw [if_pos hj]
      obtain ⟨p, rfl⟩ : ∃ p, j = p + 1 := ⟨j - 1, by omega⟩
      rw [Nat.add_sub_cancel]
      have hsp := split3 W64 a p (by decide)
      have hp := pw p
      have hl := Nat.mod_lt a hp
      generalize hw : a / W64 ^ p % W64 = w at *
      generalize hh : a / W64 ^ (p + 1) = h at *
      generalize a % W64 ^ p = l at *
      have hwd := Nat.mod_add_div w (2 ^ (64 - r))
      have hwl := Nat.mod_lt w hT
      generalize w / 2 ^ (64 - r) = u at *
      generalize w % 2 ^ (64 - r) = t at *
      refine (dm_uniq (r := l * 2 ^ r + t * W64 ^ p * 2 ^ r) (m := W64 ^ (p + 1)) ?_ ?_).2
      · rw [Nat.pow_succ, ← hRT, hsp, ← hwd, ← hRT]
        generalize W64 ^ p = P at *
        generalize 2 ^ r = R at *
        generalize 2 ^ (64 - r) = T at *
        clear hsp hwd hRT hlow hc
        grind
      · rw [Nat.pow_succ]
        have h1 : l * 2 ^ r < W64 ^ p * 2 ^ r := Nat.mul_lt_mul_of_pos_right hl hR
        have h2 : (t + 1) * (W64 ^ p * 2 ^ r) ≤ 2 ^ (64 - r) * (W64 ^ p * 2 ^ r) := Nat.mul_le_mul_right _ hwl
        have h3 : 2 ^ (64 - r) * (W64 ^ p * 2 ^ r) = W64 ^ p * W64 := by rw [← hRT]; grind
        rw [Nat.add_mul, h3, ← Nat.mul_assoc] at h2
        omega
    · obtain rfl : j = 0 := by omega
      simp
  have hm : a / W64 ^ j * 2 ^ r % W64 = a / W64 ^ j % W64 * 2 ^ r % W64 := by rw [Nat.mod_mul_mod]
  rw [hq]
  generalize (if 0 < j then a / W64 ^ (j - 1) % W64 / 2 ^ (64 - r) else 0) = c at *
  rw [← hm] at hlow ⊢
  generalize a / W64 ^ j * 2 ^ r = Y at *
  have h1 := Nat.mod_add_div Y W64
  have h2 := Nat.mod_lt Y (show 0 < W64 by decide)
  have h3 : Y % W64 + 2 ^ r ≤ W64 := by
    have h4 := Nat.mod_add_div (Y % W64) (2 ^ r)
    rw [hlow, Nat.zero_add] at h4
    have h5 : Y % W64 / 2 ^ r < 2 ^ (64 - r) := by rw [Nat.div_lt_iff_lt_mul hR, Nat.mul_comm, hRT]; exact h2
    have h6 : 2 ^ r * (Y % W64 / 2 ^ r + 1) ≤ 2 ^ r * 2 ^ (64 - r) := Nat.mul_le_mul_left _ h5
    rw [hRT, Nat.mul_add] at h6
    omega
  exact (dm_uniq (r := Y % W64 + c) (q := Y / W64) (m := W64) (by rw [Nat.mul_comm (Y / W64)]; omega) (by omega)).1
end Go.Proofs.YtaakccdfgejgpaaGreatDoor.Pure
namespace Go.Proofs.YtaakccdfgejgpaaGreatDoor.Pure
open Go Abs
set_option linter.unusedVariables false
set_option linter.unusedSimpArgs false

theorem quoN (n d : Nat) (hd : 0 < d) (h : n < 9223372036854775808) : quoI .i64 (n : Int) (d : Int) = ((n / d : Nat) : Int) := by
  unfold quoI
  rw [Int.tdiv_eq_ediv_of_nonneg (by omega), ← Int.natCast_ediv]
  have := Nat.div_le_self n d
  generalize n / d = q at *
  exact w64 (by omega) (by omega)
theorem M512_two : M512 = 2 ^ (64 * 8) := by rw [← M512_eq, W64_pow]
theorem lt_pow (v n m : Nat) (h : v < 2 ^ n) (hn : n ≤ m) : v < 2 ^ m := Nat.lt_of_lt_of_le h (Nat.pow_le_pow_right (by decide) hn)
theorem blen512 (a : Nat) (h : a < M512) : blen a ≤ 512 := blen_le_of a (64 * 8) (by rw [← M512_two]; exact h)
theorem remN (n d : Nat) : remI (n : Int) (d : Int) = ((n % d : Nat) : Int) := by
  unfold remI
  rw [Int.tmod_eq_emod_of_nonneg (by omega)]
  simp
theorem orN (A c r : Nat) (hA : A % 2 ^ r = 0) (hc : c < 2 ^ r) (h1 : A < W64) (h2 : c < W64) : Go.bits .or .u64 (A : Int) (c : Int) = ((A + c : Nat) : Int) := by
  rw [u64_or_nat A c h1 h2]
  have h := Nat.mod_add_div A (2 ^ r)
  rw [hA, Nat.zero_add] at h
  have := or_low (A / 2 ^ r) c r hc
  rw [Nat.mul_comm, h] at this
  rw [this]
/-- The top words are there. -/
def tops (V i : Nat) : Nat := V / W64 ^ i * W64 ^ i
theorem tops_set (V i w x : Nat) (hi : i < 8) (hw : w < W64) (hx : x < W64) : (toW (w * W64 ^ i + tops V (i + 1))).set i (x : Int) = toW (x * W64 ^ i + tops V (i + 1)) := by
  have h := toB_set W64 (by decide) 8 i 0 w x (V / W64 ^ (i + 1)) hi (pw i) hw hx
  have e : ∀ y, 0 + (y + W64 * (V / W64 ^ (i + 1))) * W64 ^ i = y * W64 ^ i + tops V (i + 1) := by
    intro y
    unfold tops
    rw [Nat.pow_succ]
    grind
  rw [e, e] at h
  exact h
theorem tops_next (V i : Nat) : V / W64 ^ i % W64 * W64 ^ i + tops V (i + 1) = tops V i := by
  unfold tops
  have h := Nat.mod_add_div (V / W64 ^ i) W64
  rw [Nat.div_div_eq_div_mul, ← Nat.pow_succ] at h
  generalize V / W64 ^ (i + 1) = q at *
  rw [← h, Nat.pow_succ]
  simp only [Nat.add_mul_mod_self_left, Nat.mod_mod]
  grind
theorem up_go (a n : Nat) (z : List Int) (hn : n < 512) (hV : a * 2 ^ n < M512) : ∀ (m i : Nat), i = n / 64 + m → i ≤ 8 →
    Ev (fun k => limb_up.go k (.l1 (toW a) z (toW (tops (a * 2 ^ n) i)) (n : Int) ((i : Int) - 1))) (toW (a * 2 ^ n))
  | 0, i, hi, h8 => by
    refine Ev.succ (f := fun k => limb_up.b1 k (limb_up.go k) _ z _ _ _) ?_ (fun k => rfl)
    simp only [limb_up.b1]
    have q := quoN n 64 (by decide) (by omega)
    rw [show ((64 : Nat) : Int) = 64 from rfl] at q
    rw [q]
    refine Ev.ff (by simp; omega) (Ev.ret' ?_)
    congr 1
    unfold tops
    have e : a * 2 ^ n = a * 2 ^ (n % 64) * W64 ^ i := by
      rw [W64_pow, Nat.mul_assoc, ← Nat.pow_add]
      congr 2
      omega
    rw [e, Nat.mul_div_cancel _ (pw i)]
  | m + 1, i', hi, h8 => by
    obtain ⟨i, rfl⟩ : ∃ i, i' = i + 1 := ⟨i' - 1, by omega⟩
    have e0 : ((i + 1 : Nat) : Int) - 1 = i := by omega
    rw [e0]
    refine Ev.succ (f := fun k => limb_up.b1 k (limb_up.go k) _ z _ _ _) ?_ (fun k => rfl)
    simp only [limb_up.b1, Int.toNat_natCast]
    have q := quoN n 64 (by decide) (by omega)
    have rm := remN n 64
    rw [show ((64 : Nat) : Int) = 64 from rfl] at q rm
    rw [q, rm]
    obtain ⟨j, hj⟩ : ∃ j, i = j + n / 64 := ⟨i - n / 64, by omega⟩
    have ej : wr .i64 ((i : Int) - ((n / 64 : Nat) : Int)) = (j : Int) := by rw [v64 (by omega) (by omega)]; omega
    have ei : wr .i64 ((i : Int) - 1) = (i : Int) - 1 := v64 (by omega) (by omega)
    rw [ej, Int.toNat_natCast, toW_get a j (by omega), shlN _ (n % 64) (by omega)]
    have hr : n % 64 < 64 := Nat.mod_lt _ (by decide)
    have hV' : a * 2 ^ n / W64 ^ i % W64 = a * 2 ^ (n % 64) / W64 ^ j % W64 := by
      have e : a * 2 ^ n = a * 2 ^ (n % 64) * W64 ^ (n / 64) := by
        rw [W64_pow, Nat.mul_assoc, ← Nat.pow_add]
        congr 2
        omega
      rw [e, hj, Nat.pow_add, Nat.mul_comm (W64 ^ j), ← Nat.div_div_eq_div_mul, Nat.mul_div_cancel _ (pw _)]
    obtain ⟨u1, u2, u3⟩ := up_word a (n % 64) j hr
    rw [← hV'] at u1
    have ih := up_go a n z hn hV m i (by omega) (by omega)
    have hA : a / W64 ^ j % W64 * 2 ^ (n % 64) % W64 < W64 := Nat.mod_lt _ (by decide)
    have ht := tops_next (a * 2 ^ n) i
    have hs0 := tops_set (a * 2 ^ n) i 0 _ (by omega) (by decide) hA
    rw [Nat.zero_mul, Nat.zero_add] at hs0
    have hVl := word_lt (a * 2 ^ n) i
    rw [hs0]
    have l2 : ∀ c : Bool, (c = true → 0 < j ∧ 0 < n % 64) → (c = false → a * 2 ^ n / W64 ^ i % W64 = a / W64 ^ j % W64 * 2 ^ (n % 64) % W64) →
        Ev (fun k => limb_up.go k (.l2 (toW a) z (toW (a / W64 ^ j % W64 * 2 ^ (n % 64) % W64 * W64 ^ i + tops (a * 2 ^ n) (i + 1))) (n : Int) (i : Int) c)) (toW (a * 2 ^ n)) := by
      intro c h1 h2
      refine Ev.succ (f := fun k => limb_up.b2 k (limb_up.go k) _ z _ _ _ c) ?_ (fun k => rfl)
      simp only [limb_up.b2, Int.toNat_natCast]
      rw [q, rm, ej, ei]
      refine Ev.bif (fun hc => ?_) (fun hc => ?_)
      · obtain ⟨hj0, hr0⟩ := h1 hc
        rw [if_pos hj0] at u1 u3
        have e1 : wr .i64 ((j : Int) - 1) = ((j - 1 : Nat) : Int) := by rw [v64 (by omega) (by omega)]; omega
        have e2 : wr .i64 (64 - ((n % 64 : Nat) : Int)) = ((64 - n % 64 : Nat) : Int) := by rw [v64 (by omega) (by omega)]; omega
        have e3 : (toW (a / W64 ^ j % W64 * 2 ^ (n % 64) % W64 * W64 ^ i + tops (a * 2 ^ n) (i + 1))).getD i 0 = ((a / W64 ^ j % W64 * 2 ^ (n % 64) % W64 : Nat) : Int) := by
          rw [toW_get _ i (by omega)]
          congr 1
          have h := Nat.mod_add_div (a * 2 ^ n / W64 ^ (i + 1)) 1
          unfold tops
          rw [Nat.pow_succ, ← Nat.mul_assoc, Nat.mul_right_comm, ← Nat.add_mul, Nat.mul_div_cancel _ (pw i), Nat.add_mul_mod_self_right, Nat.mod_eq_of_lt hA]
        have hc2 : a / W64 ^ (j - 1) % W64 / 2 ^ (64 - n % 64) < W64 := Nat.lt_of_le_of_lt (Nat.div_le_self _ _) (word_lt _ _)
        rw [e1, e2, Int.toNat_natCast, toW_get a (j - 1) (by omega), shrN _ _ (by omega), e3, orN _ _ (n % 64) u2 u3 hA hc2, ← u1, tops_set (a * 2 ^ n) i _ _ (by omega) hA hVl, ht]
        exact Ev.gk (inB_iff.2 (by omega)) (Ev.gk (inB_iff.2 (by omega)) (Ev.gk (by simp [nn]) (Ev.gk (inB_iff.2 (by omega)) ih)))
      · rw [← h2 hc, ht]
        exact ih
    refine Ev.tt (by simp; omega) (Ev.gk (inB_iff.2 (by omega)) (Ev.gk (by simp [nn]; omega) (Ev.gk (inB_iff.2 (by omega)) (Ev.bif (fun h => l2 _ (fun hc => ?_) (fun hc => ?_)) (fun h => l2 _ (fun hc => by cases hc) (fun _ => ?_))))))
    · have := of_decide_eq_true h; have := of_decide_eq_true hc; omega
    · have := of_decide_eq_false hc
      rw [u1, if_neg (by omega), Nat.add_zero]
    · have h := of_decide_eq_false h
      have hr0 : n % 64 = 0 := by omega
      rw [u1]
      rw [hr0, Nat.pow_zero] at u3
      rw [hr0]
      rw [hr0] at u1
      omega
theorem up_ev (a n : Nat) (hn : n < 512) (hV : a * 2 ^ n < M512) : Ev (fun k => limb_up.m k (toW a) (n : Int)) (toW (a * 2 ^ n)) := by
  refine Ev.succ (f := fun k => limb_up.b0 k (limb_up.go k) (toW a) (n : Int)) ?_ (fun k => rfl)
  simp only [limb_up.b0]
  have h := up_go a n (List.replicate 8 (0 : Int)) hn hV (8 - n / 64) 8 (by omega) (by decide)
  have : tops (a * 2 ^ n) 8 = 0 := by
    unfold tops
    rw [M512_eq, Nat.div_eq_of_lt hV, Nat.zero_mul]
  rw [this, toW_zero] at h
  exact h
/-! ### Quotients -/
theorem bit_set (Q n : Nat) (hn : n < 512) (hQ : Q % 2 ^ (n + 1) = 0) : (toW Q).set (n / 64) (Go.bits .or .u64 ((toW Q).getD (n / 64) 0) (shlI .u64 1 ((n % 64 : Nat) : Int))) = toW (Q + 2 ^ n) := by
  have hs : n % 64 < 64 := Nat.mod_lt _ (by decide)
  rw [toW_get _ _ (by omega)]
  have e1 : shlI .u64 1 ((n % 64 : Nat) : Int) = ((2 ^ (n % 64) : Nat) : Int) := by
    have := shlN 1 (n % 64) (by omega)
    rw [Nat.one_mul, Nat.mod_eq_of_lt (show 2 ^ (n % 64) < W64 from Nat.pow_lt_pow_right (by decide) hs)] at this
    exact this
  have hd : Q / W64 ^ (n / 64) % W64 % 2 ^ (n % 64 + 1) = 0 := by
    have h := Nat.mod_add_div Q (2 ^ (n + 1))
    rw [hQ, Nat.zero_add] at h
    rw [← h, show n + 1 = 64 * (n / 64) + (n % 64 + 1) by omega, Nat.pow_add, ← W64_pow, Nat.mul_assoc, Nat.mul_div_cancel_left _ (pw _)]
    have hW : W64 = 2 ^ (n % 64 + 1) * 2 ^ (63 - n % 64) := by rw [← Nat.pow_add, show n % 64 + 1 + (63 - n % 64) = 64 by omega]
    rw [hW, Nat.mul_mod_mul_left, Nat.mul_mod_right]
  have hlt : Q / W64 ^ (n / 64) % W64 + 2 ^ (n % 64) < W64 := by
    have hw := word_lt Q (n / 64)
    generalize Q / W64 ^ (n / 64) % W64 = w at *
    have h4 := Nat.mod_add_div w (2 ^ (n % 64 + 1))
    rw [hd, Nat.zero_add] at h4
    have hW : W64 = 2 ^ (n % 64 + 1) * 2 ^ (63 - n % 64) := by rw [← Nat.pow_add, show n % 64 + 1 + (63 - n % 64) = 64 by omega]
    have h5 : w / 2 ^ (n % 64 + 1) < 2 ^ (63 - n % 64) := by rw [Nat.div_lt_iff_lt_mul (Nat.pow_pos (by decide)), Nat.mul_comm, ← hW]; exact hw
    have h6 : 2 ^ (n % 64 + 1) * (w / 2 ^ (n % 64 + 1) + 1) ≤ 2 ^ (n % 64 + 1) * 2 ^ (63 - n % 64) := Nat.mul_le_mul_left _ h5
    rw [← hW, Nat.mul_add, h4, Nat.pow_succ] at h6
    have := Nat.pow_pos (n := n % 64) (show 0 < 2 by decide)
    omega
  rw [e1, orN _ _ (n % 64 + 1) hd (by rw [Nat.pow_succ]; have := Nat.pow_pos (n := n % 64) (show 0 < 2 by decide); omega) (word_lt _ _) (Nat.lt_of_le_of_lt (Nat.le_add_left _ _) hlt)]
  have := toB_add W64 (by decide) 8 (n / 64) Q (2 ^ (n % 64)) (by omega) hlt
  have e2 : 2 ^ (n % 64) * W64 ^ (n / 64) = 2 ^ n := by rw [W64_pow, ← Nat.pow_add]; congr 1; omega
  rw [e2] at this
  exact this
theorem part_go (a b : Nat) (ha : a < M512) (hb : 0 < b) : ∀ (n Q r : Nat), blen b + n ≤ blen a + 1 → a = Q * b + r → r < b * 2 ^ n → Q % 2 ^ n = 0 →
    Ev (fun k => limb_part.go k (.l1 (toW b) (toW Q) (toW r) ((n : Int) - 1))) (toW (a / b), toW (a % b))
  | 0, Q, r, _, he, hr, _ => by
    refine Ev.succ (f := fun k => limb_part.b1 k (limb_part.go k) (toW b) (toW Q) (toW r) _) ?_ (fun k => rfl)
    simp only [limb_part.b1]
    refine Ev.ff (by simp) (Ev.ret' ?_)
    obtain ⟨h1, h2⟩ := dm_uniq (n := a) (r := r) (q := Q) (m := b) (by omega) (by simpa using hr)
    rw [h1, h2]
  | n + 1, Q, r, hn, he, hr, hQ => by
    have e0 : ((n + 1 : Nat) : Int) - 1 = n := by omega
    rw [e0]
    refine Ev.succ (f := fun k => limb_part.b1 k (limb_part.go k) (toW b) (toW Q) (toW r) (n : Int)) ?_ (fun k => rfl)
    simp only [limb_part.b1]
    have h512 : blen a ≤ 512 := blen512 a ha
    have hb1 := blen_lt b
    have hn1 : 1 ≤ blen b := (blen_le b (by omega)).2
    have hV : b * 2 ^ n < M512 := by
      have : b * 2 ^ n < 2 ^ (blen b) * 2 ^ n := Nat.mul_lt_mul_of_pos_right hb1 (Nat.pow_pos (by decide))
      rw [← Nat.pow_add] at this
      obtain ⟨m, hm⟩ : ∃ m, m = 64 * 8 := ⟨_, rfl⟩
      have h2 := M512_two
      rw [← hm] at h2
      rw [h2]
      exact lt_pow _ _ m this (by omega)
    have hrM : r < M512 := by
      have : r ≤ a := by rw [he]; exact Nat.le_add_left _ _
      omega
    have hQn : Q % 2 ^ n = 0 := by
      have h := Nat.mod_mod_of_dvd Q (show 2 ^ n ∣ 2 ^ (n + 1) from ⟨2, by rw [Nat.pow_succ]⟩)
      rw [hQ] at h
      simpa using h.symm
    have ei : wr .i64 ((n : Int) - 1) = (n : Int) - 1 := v64 (by omega) (by omega)
    have q := quoN n 64 (by decide) (by omega)
    have rm := remN n 64
    rw [show ((64 : Nat) : Int) = 64 from rfl] at q rm
    refine Ev.tt (by simp) (Ev.bind (up_ev b n (by omega) hV) (Ev.bind (order_ev _ _ hV hrM) (Ev.bif (fun h => ?_) (fun h => ?_))))
    · have hle : b * 2 ^ n ≤ r := by
        have h := of_decide_eq_true h
        unfold cmpN at h
        split at h
        · omega
        · split at h
          · omega
          · omega
      rw [q, rm, ei, Int.toNat_natCast, bit_set Q n (by omega) hQ]
      refine Ev.bind (minus_ev r _ hrM hle) (Ev.gk (inB_iff.2 (by omega)) (Ev.gk (by simp [nn]; omega) (Ev.gk (inB_iff.2 (by omega)) ?_)))
      refine part_go a b ha hb n (Q + 2 ^ n) (r - b * 2 ^ n) (by omega) ?_ ?_ ?_
      · have : (Q + 2 ^ n) * b = Q * b + b * 2 ^ n := by rw [Nat.add_mul, Nat.mul_comm (2 ^ n)]
        omega
      · rw [Nat.pow_succ, ← Nat.mul_assoc] at hr
        omega
      · rw [Nat.add_mod, hQn]; simp
    · have hlt : r < b * 2 ^ n := by
        have h := of_decide_eq_false h
        unfold cmpN at h
        split at h
        · omega
        · split at h
          · omega
          · omega
      rw [ei]
      exact part_go a b ha hb n Q r (by omega) he hlt hQn
theorem part_ev (a b : Nat) (ha : a < M512) (hbM : b < M512) (hb : 0 < b) : Ev (fun k => limb_part.m k (toW a) (toW b)) (toW (a / b), toW (a % b)) := by
  refine Ev.succ (f := fun k => limb_part.b0 k (limb_part.go k) (toW a) (toW b)) ?_ (fun k => rfl)
  simp only [limb_part.b0]
  have l1 := blen512 a ha
  have l2 := blen512 b hbM
  have ha1 := blen_lt a
  obtain ⟨hb1, hb2⟩ := blen_le b (by omega)
  refine Ev.bind (length_ev a ha) (Ev.bind (length_ev b hbM) ?_)
  rw [v64 (by omega) (by omega), ← toW_zero]
  by_cases h : blen b ≤ blen a
  · have e : (blen a : Int) - blen b = ((blen a - blen b + 1 : Nat) : Int) - 1 := by omega
    rw [e]
    refine part_go a b ha hb (blen a - blen b + 1) 0 a (by omega) (by simp) ?_ (by simp)
    have : 2 ^ (blen b - 1) * 2 ^ (blen a - blen b + 1) ≤ b * 2 ^ (blen a - blen b + 1) := Nat.mul_le_mul_right _ hb1
    rw [← Nat.pow_add, show blen b - 1 + (blen a - blen b + 1) = blen a by omega] at this
    omega
  · refine Ev.succ (f := fun k => limb_part.b1 k (limb_part.go k) (toW b) (toW 0) (toW a) _) ?_ (fun k => rfl)
    simp only [limb_part.b1]
    refine Ev.ff (by simp; omega) (Ev.ret' ?_)
    have hlt : a < b := by
      have : 2 ^ blen a ≤ 2 ^ (blen b - 1) := Nat.pow_le_pow_right (by decide) (by omega)
      omega
    rw [Nat.div_eq_of_lt hlt, Nat.mod_eq_of_lt hlt]
theorem div_ev (a b : Nat) (ha : a < M512) (hbM : b < M512) (hb : 0 < b) : Ev (fun k => limb_Div.m k false (toW a) false (toW b)) (false, toW (a / b), false, toW (a % b), .nil) := by
  refine Ev.succ (f := fun k => limb_Div.b0 k false (toW a) false (toW b)) ?_ (fun k => rfl)
  simp only [limb_Div.b0]
  rw [isZ b hbM]
  refine Ev.ff (by simp; omega) (Ev.bind (part_ev a b ha hbM hb) (Ev.bind (made_ev _) (Ev.bind (made_ev _) Ev.ret)))
theorem gcd_go (o : Bool) (z : List Int) : ∀ (y x : Nat), x < M512 → y < M512 → Ev (fun k => limb_Gcd.go k (.l1 o z (toW x) (toW y))) (false, toW (Nat.gcd x y)) := by
  intro y
  induction y using Nat.strongRecOn with
  | _ y ih =>
    intro x hx hy
    refine Ev.succ (f := fun k => limb_Gcd.b1 k (limb_Gcd.go k) o z (toW x) (toW y)) ?_ (fun k => rfl)
    simp only [limb_Gcd.b1]
    rw [isZ y hy]
    by_cases h : y = 0
    · subst h
      rw [Nat.gcd_zero_right]
      exact Ev.ff rfl (Ev.bind (made_ev x) Ev.ret)
    · refine Ev.tt (by simp [h]) (Ev.bind (part_ev x y hx hy (by omega)) ?_)
      have hlt := Nat.mod_lt x (show 0 < y by omega)
      refine (ih (x % y) hlt y hy (by omega)).to ?_
      rw [Nat.gcd_comm x y, Nat.gcd_rec y x, Nat.gcd_comm]
theorem gcd_ev (a b : Nat) (ha : a < M512) (hb : b < M512) : Ev (fun k => limb_Gcd.m k false (toW a) false (toW b)) (false, toW (Nat.gcd a b)) := by
  refine Ev.succ (f := fun k => limb_Gcd.b0 k (limb_Gcd.go k) false (toW a) false (toW b)) ?_ (fun k => rfl)
  exact gcd_go _ _ b a ha hb
end Go.Proofs.YtaakccdfgejgpaaGreatDoor.Pure
namespace Go.Proofs.YtaakccdfgejgpaaGreatDoor.Pure
open Go Abs
set_option linter.unusedVariables false
set_option linter.unusedSimpArgs false

theorem blen10 : blen 10 = 4 := by decide
theorem lz_ev : Ev (fun k => bits_LeadingZeros64.m k 10) 60 := by
  refine Ev.succ (f := fun k => bits_LeadingZeros64.b0 k 10) ?_ (fun k => rfl)
  simp only [bits_LeadingZeros64.b0]
  have h := len64_ev 10 (by decide)
  rw [blen10] at h
  exact Ev.bind h (Ev.ret' rfl)
theorem quoZ (n d : Int) (h0 : 0 ≤ n) (h : n ≤ 18446744073709551615) (hd : 1 ≤ d) : quoI .u64 n d = n / d := by
  unfold quoI
  rw [Int.tdiv_eq_ediv_of_nonneg h0]
  have h1 : 0 ≤ n / d := Int.ediv_nonneg h0 (by omega)
  have h2 : n / d ≤ n := Int.ediv_le_self d h0
  exact u64i h1 (by omega)
theorem remZ (n d : Int) (h0 : 0 ≤ n) : remI n d = n % d := Int.tmod_eq_emod_of_nonneg h0
theorem shr32Z (a : Int) : shrI .u64 a 32 = a / 4294967296 := by
  show a.fdiv 4294967296 = _
  exact Int.fdiv_eq_ediv_of_nonneg _ (by decide)
theorem shr60Z (a : Int) : shrI .u64 a 60 = a / 1152921504606846976 := by
  show a.fdiv 1152921504606846976 = _
  exact Int.fdiv_eq_ediv_of_nonneg _ (by decide)
theorem shr4Z (a : Int) : shrI .u64 a 4 = a / 16 := by
  show a.fdiv 16 = _
  exact Int.fdiv_eq_ediv_of_nonneg _ (by decide)
theorem shl60Z (a : Int) : shlI .u64 a 60 = a * 1152921504606846976 % 18446744073709551616 := wru _
theorem mask32Z (a : Int) (h0 : 0 ≤ a) (h : a ≤ 18446744073709551615) : Go.bits .and .u64 a 4294967295 = a % 4294967296 := by
  have := maskN a.toNat (by omega)
  rw [show ((a.toNat : Nat) : Int) = a by omega] at this
  rw [this]
  omega
theorem p60 : (2 : Nat) ^ 60 = 1152921504606846976 := by decide
theorem or60Z (a b : Int) (h0 : 0 ≤ a) (h1 : a < 10) (h2 : 0 ≤ b) (h3 : b < 1152921504606846976) : Go.bits .or .u64 (a * 1152921504606846976) b = a * 1152921504606846976 + b := by
  have eW : W64 = 18446744073709551616 := rfl
  have q1 : (a.toNat * 1152921504606846976) % 2 ^ 60 = 0 := by rewrite [p60]; exact Nat.mul_mod_left _ _
  have q2 : b.toNat < 2 ^ 60 := by rewrite [p60]; omega
  have q3 : a.toNat * 1152921504606846976 < W64 := by rewrite [eW]; omega
  have q4 : b.toNat < W64 := by rewrite [eW]; omega
  have := orN (a.toNat * 1152921504606846976) b.toNat 60 q1 q2 q3 q4
  clear q1 q2 q3 q4
  rw [show ((a.toNat * 1152921504606846976 : Nat) : Int) = a * 1152921504606846976 by omega, show ((b.toNat : Nat) : Int) = b by omega] at this
  rw [this]
  omega
theorem h1Z (U : Int) (h0 : 0 ≤ U) (h : U ≤ 18446744073709551615) : quoI .u64 U 2684354560 = U / 2684354560 := quoZ U _ h0 h (by decide)
theorem h2Z (U : Int) (h0 : 0 ≤ U) (h : U ≤ 18446744073709551615) : wr .u64 (U / 2684354560 * 2684354560) = U / 2684354560 * 2684354560 := u64i (by omega) (by omega)
theorem h3Z (U : Int) (h0 : 0 ≤ U) (h : U ≤ 18446744073709551615) : wr .u64 (U - U / 2684354560 * 2684354560) = U % 2684354560 := by
  rw [u64i (by omega) (by omega)]; omega
theorem noc (a b : Int) : (decide ((wr .u64 (a * 0)) > wr .u64 b)) = false := by
  have e : wr .u64 (a * 0) = 0 := by rw [Int.mul_zero]; rfl
  rw [e, wru]
  apply decide_eq_false
  omega
theorem k1Z (U c : Int) (h0 : 0 ≤ U) (h : U < 11529215046068469760) (c0 : 0 ≤ c) (hc : c < 4294967296) : (wr .u64 ((wr .u64 ((wr .u64 (U * 4294967296)) + c)) - (wr .u64 (U / 2684354560 * 11529215046068469760)))) = U % 2684354560 * 4294967296 + c := by
  simp only [wru]
  omega
theorem k2Z (q1 q0 : Int) (a0 : 0 ≤ q1) (a1 : q1 < 4294967296) (b0 : 0 ≤ q0) (b1 : q0 < 4294967296) : wr .u64 ((wr .u64 (q1 * 4294967296)) + q0) = q1 * 4294967296 + q0 := by
  simp only [wru]
  omega
/-- The first quotient digit is right at once; so is the second one. -/
theorem div_l3 (U c V : Int) (u0 : 0 ≤ U) (hU : U < 11529215046068469760) (c0 : 0 ≤ c) (hc : c < 4294967296) (hV : V = U % 2684354560 * 4294967296 + c) :
    Ev (fun k => bits_Div64.go k (.l3 11529215046068469760 60 2684354560 0 U c 0 (U / 2684354560) (U % 2684354560))) (U / 2684354560 * 4294967296 + V / 2684354560, V % 2684354560 * 4294967296 / 1152921504606846976) := by
  have g1 : ¬ (U / 2684354560 ≥ 4294967296) := by omega
  have v0 : 0 ≤ V := by omega
  have vl : V < 11529215046068469760 := by omega
  have g0 : ¬ (V / 2684354560 ≥ 4294967296) := by omega
  have e1 := k1Z U c u0 hU c0 hc
  rw [← hV] at e1
  have e2 := (k1Z V 0 v0 vl (by decide) (by decide)).trans (Int.add_zero _)
  have e3 := k2Z (U / 2684354560) (V / 2684354560) (by omega) (by omega) (by omega) (by omega)
  have d1 := h1Z V v0 (by omega)
  have d2 := h2Z V v0 (by omega)
  have d3 := h3Z V v0 (by omega)
  refine Ev.succ (f := fun k => bits_Div64.b3 k (bits_Div64.go k) _ _ _ _ _ _ _ _ _) ?_ (fun k => rfl)
  simp only [bits_Div64.b3]
  rewrite [decide_eq_false g1, noc]
  refine Ev.ff rfl ?_
  refine Ev.succ (f := fun k => bits_Div64.b4 k (bits_Div64.go k) _ _ _ _ _ _ _ _ _ false) ?_ (fun k => rfl)
  refine Ev.ff rfl ?_
  refine Ev.succ (f := fun k => bits_Div64.b5 k (bits_Div64.go k) _ _ _ _ _ _ _ _) ?_ (fun k => rfl)
  simp only [bits_Div64.b5]
  rewrite [e1, d1, d2, d3]
  refine Ev.gk rfl ?_
  refine Ev.succ (f := fun k => bits_Div64.b6 k (bits_Div64.go k) _ _ _ _ _ _ _ _ _) ?_ (fun k => rfl)
  simp only [bits_Div64.b6]
  rewrite [decide_eq_false g0, noc]
  refine Ev.ff rfl ?_
  refine Ev.succ (f := fun k => bits_Div64.b7 k (bits_Div64.go k) _ _ _ _ _ _ _ _ _ false) ?_ (fun k => rfl)
  refine Ev.ff rfl ?_
  refine Ev.succ (f := fun k => bits_Div64.b8 k (bits_Div64.go k) _ _ _ _ _ _) ?_ (fun k => rfl)
  simp only [bits_Div64.b8]
  rewrite [e2, e3, shr60Z]
  exact Ev.gk rfl Ev.ret
theorem finZ (r w : Int) (r0 : 0 ≤ r) (hr : r < 10) (w0 : 0 ≤ w) (hw : w ≤ 18446744073709551615) (U V : Int) (hU : U = r * 1152921504606846976 + w / 16) (hV : V = U % 2684354560 * 4294967296 + w * 1152921504606846976 % 18446744073709551616 / 4294967296) :
    U / 2684354560 * 4294967296 + V / 2684354560 = (r * 18446744073709551616 + w) / 10 ∧ V % 2684354560 * 4294967296 / 1152921504606846976 = (r * 18446744073709551616 + w) % 10 := by
  have h1 : w * 1152921504606846976 % 18446744073709551616 / 4294967296 = w % 16 * 268435456 := by omega
  rw [h1] at hV
  clear h1
  omega
/-- bits.Div64 by ten. -/
theorem div64_ev (r w : Int) (r0 : 0 ≤ r) (hr : r < 10) (w0 : 0 ≤ w) (hw : w ≤ 18446744073709551615) : Ev (fun k => bits_Div64.m k r w 10) ((r * 18446744073709551616 + w) / 10, (r * 18446744073709551616 + w) % 10) := by
  refine Ev.succ (f := fun k => bits_Div64.b0 k (bits_Div64.go k) r w 10) ?_ (fun k => rfl)
  refine Ev.ff rfl ?_
  refine Ev.succ (f := fun k => bits_Div64.b1 k (bits_Div64.go k) r w 10) ?_ (fun k => rfl)
  simp only [bits_Div64.b1]
  refine Ev.ff (decide_eq_false (by omega)) ?_
  refine Ev.succ (f := fun k => bits_Div64.b2 k (bits_Div64.go k) r w 10) ?_ (fun k => rfl)
  simp only [bits_Div64.b2]
  refine Ev.bif (fun h => ?_) (fun h => Ev.bind lz_ev ?_)
  · have h : r = 0 := eq_of_beq h
    subst h
    rw [quoZ w 10 w0 hw (by decide), remZ w 10 w0, Int.zero_mul, Int.zero_add]
    exact Ev.gk rfl (Ev.gk rfl Ev.ret)
  · have h60 : wr .u64 60 = 60 := rfl
    have h4 : wr .u64 (64 - wr .u64 60) = 4 := rfl
    have a1 : shlI .u64 10 60 = 11529215046068469760 := by rfl
    have a2 : shlI .u64 r 60 = r * 1152921504606846976 := by rewrite [shl60Z]; omega
    have a5 := or60Z r (w / 16) r0 hr (by omega) (by omega)
    have a6 : shrI .u64 11529215046068469760 32 = 2684354560 := by rfl
    have a7 : Go.bits .and .u64 11529215046068469760 4294967295 = 0 := by rfl
    have a8 : Go.bits .and .u64 (w * 1152921504606846976 % 18446744073709551616) 4294967295 = 0 := by
      rewrite [mask32Z _ (by omega) (by omega)]
      omega
    obtain ⟨U, hU⟩ : ∃ U, U = r * 1152921504606846976 + w / 16 := ⟨_, rfl⟩
    obtain ⟨V, hV⟩ : ∃ V, V = U % 2684354560 * 4294967296 + w * 1152921504606846976 % 18446744073709551616 / 4294967296 := ⟨_, rfl⟩
    have u0 : 0 ≤ U := by omega
    have ul : U < 11529215046068469760 := by omega
    rewrite [← hU] at a5
    rewrite [h4]
    simp only [h60, a1, a2, shr4Z, shl60Z, a5, a6, a7, a8, shr32Z, h1Z U u0 (by omega), h2Z U u0 (by omega), h3Z U u0 (by omega)]
    refine Ev.gk rfl (Ev.gk rfl (Ev.gk rfl (Ev.gk rfl (Ev.gk rfl ?_))))
    refine (div_l3 U _ V u0 ul (by omega) (by omega) hV).to ?_
    obtain ⟨m1, m2⟩ := finZ r w r0 hr w0 hw U V hU hV
    rewrite [m1, m2]
    rfl
end Go.Proofs.YtaakccdfgejgpaaGreatDoor.Pure
