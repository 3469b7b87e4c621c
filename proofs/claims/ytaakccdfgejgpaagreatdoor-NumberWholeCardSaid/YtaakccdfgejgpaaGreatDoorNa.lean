/-
  Chapter 09, plain: numbers as rows of digits.
-/
import Derived.Test.YtaakccdfgejgpaaGreatDoorG2
import Derived.Test.YtaakccdfgejgpaaGreatDoorEv
namespace Go.Proofs.YtaakccdfgejgpaaGreatDoor.Pure
open Go Abs
set_option linter.unusedVariables false
set_option linter.unusedSimpArgs false

theorem v64 {n : Int} (h0 : -9223372036854775808 ≤ n) (h1 : n ≤ 9223372036854775807) : wr .i64 n = n := w64 h0 h1
theorem u64i {n : Int} (h0 : 0 ≤ n) (h1 : n ≤ 18446744073709551615) : wr .u64 n = n := IntWalk.u64_in n ⟨h0, h1⟩
theorem wru (n : Int) : wr .u64 n = n % 18446744073709551616 := by
  show IntKind.u64.wrap n = _
  unfold IntKind.wrap
  simp [IntKind.signed, IntKind.bits]
theorem getD_byt (l : List UInt8) (i : Int) : ((l.getD i.toNat 0).toNat : Int) = byt l i := rfl
theorem beq_dec (a b : Int) : (a == b) = decide (a = b) := by rw [Bool.eq_iff_iff]; simp

/-- n digits of v by the base B, the lowest first. -/
def toB (B : Nat) : Nat → Nat → List Int
  | 0, _ => []
  | n + 1, v => ((v % B : Nat) : Int) :: toB B n (v / B)
theorem toB_len (B : Nat) : ∀ n v, (toB B n v).length = n
  | 0, _ => rfl
  | n + 1, v => by simp [toB, toB_len B n]
theorem toB_get (B : Nat) : ∀ (n v i : Nat), i < n → (toB B n v).getD i 0 = ((v / B ^ i % B : Nat) : Int)
  | 0, _, _, h => by omega
  | n + 1, v, 0, h => by simp [toB]
  | n + 1, v, i + 1, h => by
    have := toB_get B n (v / B) i (by omega)
    rw [Nat.div_div_eq_div_mul, ← Nat.pow_succ'] at this
    simpa [toB] using this
theorem toB_zero (B : Nat) : ∀ n, toB B n 0 = List.replicate n 0
  | 0 => rfl
  | n + 1 => by simp [toB, toB_zero B n, List.replicate_succ]
theorem toB_mod (B : Nat) (hB : 0 < B) : ∀ n v, toB B n (v % B ^ n) = toB B n v
  | 0, _ => rfl
  | n + 1, v => by
    have h1 : v % B ^ (n + 1) % B = v % B := Nat.mod_mod_of_dvd v ⟨B ^ n, by rw [Nat.pow_succ, Nat.mul_comm]⟩
    have h2 : v % B ^ (n + 1) / B = v / B % B ^ n := by rw [Nat.pow_succ, Nat.mul_comm, Nat.mod_mul_right_div_self]
    rw [toB, h1, h2, toB_mod B hB n, toB]
theorem toB_app (B : Nat) : ∀ n v, toB B (n + 1) v = toB B n v ++ [((v / B ^ n % B : Nat) : Int)]
  | 0, v => by simp [toB]
  | n + 1, v => by
    have := toB_app B n (v / B)
    rw [Nat.div_div_eq_div_mul, ← Nat.pow_succ'] at this
    rw [toB, this, toB]
    rfl
/-- One digit is changed. -/
theorem toB_set (B : Nat) (hB : 0 < B) : ∀ (n i l w x h : Nat), i < n → l < B ^ i → w < B → x < B → (toB B n (l + (w + B * h) * B ^ i)).set i (x : Int) = toB B n (l + (x + B * h) * B ^ i)
  | 0, _, _, _, _, _, h, _, _, _ => by omega
  | n + 1, 0, l, w, x, h, _, hl, hw, hx => by
    have : l = 0 := by simpa using hl
    subst this
    simp only [Nat.zero_add, Nat.pow_zero, Nat.mul_one, toB, List.set_cons_zero]
    rw [Nat.add_mul_mod_self_left, Nat.mod_eq_of_lt hx, Nat.add_mul_div_left _ _ hB, Nat.add_mul_div_left _ _ hB, Nat.div_eq_of_lt hw, Nat.div_eq_of_lt hx]
  | n + 1, i + 1, l, w, x, h, hi, hl, hw, hx => by
    have key : ∀ y : Nat, (l + (y + B * h) * B ^ (i + 1)) % B = l % B ∧ (l + (y + B * h) * B ^ (i + 1)) / B = l / B + (y + B * h) * B ^ i := by
      intro y
      have e : l + (y + B * h) * B ^ (i + 1) = l + B * ((y + B * h) * B ^ i) := by rw [Nat.pow_succ]; grind
      rw [e, Nat.add_mul_mod_self_left, Nat.add_mul_div_left _ _ hB]
      exact ⟨rfl, rfl⟩
    have hl' : l / B < B ^ i := by rw [Nat.div_lt_iff_lt_mul hB, ← Nat.pow_succ]; exact hl
    rw [toB, toB, (key w).1, (key w).2, (key x).1, (key x).2, List.set_cons_succ, toB_set B hB n i (l / B) w x h (by omega) hl' hw hx]
theorem split3 (B v i : Nat) (hB : 0 < B) : v = v % B ^ i + (v / B ^ i % B + B * (v / B ^ (i + 1))) * B ^ i := by
  have h1 := Nat.mod_add_div v (B ^ i)
  have h2 := Nat.mod_add_div (v / B ^ i) B
  rw [Nat.div_div_eq_div_mul, ← Nat.pow_succ] at h2
  rw [h2, Nat.mul_comm]
  exact h1.symm
/-- A digit is added to. -/
theorem toB_add (B : Nat) (hB : 0 < B) (n i v d : Nat) (hi : i < n) (hd : v / B ^ i % B + d < B) : (toB B n v).set i ((v / B ^ i % B + d : Nat) : Int) = toB B n (v + d * B ^ i) := by
  have e := split3 B v i hB
  have hp : 0 < B ^ i := Nat.pow_pos hB
  have := toB_set B hB n i (v % B ^ i) (v / B ^ i % B) (v / B ^ i % B + d) (v / B ^ (i + 1)) hi (Nat.mod_lt _ hp) (Nat.mod_lt _ hB) hd
  rw [← e] at this
  rw [this]
  congr 1
  have : (v / B ^ i % B + d + B * (v / B ^ (i + 1))) * B ^ i = (v / B ^ i % B + B * (v / B ^ (i + 1))) * B ^ i + d * B ^ i := by grind
  omega
theorem mod_next (B v i : Nat) : v % B ^ (i + 1) = v % B ^ i + (v / B ^ i % B) * B ^ i := by
  rw [Nat.pow_succ, Nat.mod_mul, Nat.mul_comm]
theorem dm_uniq {n r q m : Nat} (h : n = r + q * m) (hr : r < m) : n % m = r ∧ n / m = q := by
  subst h
  constructor
  · rw [Nat.add_mul_mod_self_right, Nat.mod_eq_of_lt hr]
  · rw [Nat.add_mul_div_right _ _ (by omega), Nat.div_eq_of_lt hr, Nat.zero_add]
/-- A column of a sum. -/
theorem sum_step (B a b i : Nat) (hB : 0 < B) : let t := a / B ^ i % B + b / B ^ i % B + (a % B ^ i + b % B ^ i) / B ^ i
    (a % B ^ (i + 1) + b % B ^ (i + 1)) % B ^ (i + 1) = (a % B ^ i + b % B ^ i) % B ^ i + t % B * B ^ i ∧ (a % B ^ (i + 1) + b % B ^ (i + 1)) / B ^ (i + 1) = t / B := by
  intro t
  have hp : 0 < B ^ i := Nat.pow_pos hB
  have h1 := mod_next B a i
  have h2 := mod_next B b i
  have h3 := Nat.mod_add_div (a % B ^ i + b % B ^ i) (B ^ i)
  have h4 := Nat.mod_add_div t B
  have hlt := Nat.mod_lt (a % B ^ i + b % B ^ i) hp
  have htl := Nat.mod_lt t hB
  refine dm_uniq ?_ ?_
  · rw [Nat.pow_succ]
    grind
  · rw [Nat.pow_succ]
    have : (t % B + 1) * B ^ i ≤ B * B ^ i := Nat.mul_le_mul_right _ (by omega)
    rw [Nat.mul_comm (B ^ i) B]
    rw [Nat.add_mul] at this
    omega

/-! ### Sizes: eight words -/
abbrev W64 : Nat := 18446744073709551616
abbrev M512 : Nat := 13407807929942597099574024998205846127479365820592393377723561443721764030073546976801874298166903427690031858186486050853753882811946569946433649006084096
theorem M512_eq : W64 ^ 8 = M512 := by decide
def toW (v : Nat) : List Int := toB W64 8 v
theorem toW_len (v : Nat) : (toW v).length = 8 := toB_len _ _ _
theorem toW_get (v i : Nat) (h : i < 8) : (toW v).getD i 0 = ((v / W64 ^ i % W64 : Nat) : Int) := toB_get _ _ _ _ h
theorem toW_zero : toW 0 = List.replicate 8 0 := toB_zero _ _
theorem toW_zero' : toW 0 = ([0, 0, 0, 0, 0, 0, 0, 0] : List Int) := by rw [toW_zero]; rfl
theorem word_lt (v i : Nat) : v / W64 ^ i % W64 < W64 := Nat.mod_lt _ (by decide)
theorem toW_inj {a b : Nat} (ha : a < M512) (hb : b < M512) (h : toW a = toW b) : a = b := by
  have key : ∀ n a b, a < W64 ^ n → b < W64 ^ n → toB W64 n a = toB W64 n b → a = b := by
    intro n
    induction n with
    | zero => intro a b ha hb _; simp at ha hb; omega
    | succ n ih =>
      intro a b ha hb h
      simp only [toB, List.cons.injEq] at h
      rw [Nat.pow_succ] at ha hb
      have := ih (a / W64) (b / W64) (by rw [Nat.div_lt_iff_lt_mul (by decide)]; exact ha) (by rw [Nat.div_lt_iff_lt_mul (by decide)]; exact hb) h.2
      have h1 : a % W64 = b % W64 := by exact_mod_cast h.1
      rw [← Nat.mod_add_div a W64, ← Nat.mod_add_div b W64, h1, this]
  exact key 8 a b (by rw [M512_eq]; exact ha) (by rw [M512_eq]; exact hb) h
theorem isZ (v : Nat) (h : v < M512) : (toW v == ([0, 0, 0, 0, 0, 0, 0, 0] : List Int)) = decide (v = 0) := by
  rw [← toW_zero', Bool.eq_iff_iff]
  simp only [beq_iff_eq, decide_eq_true_eq]
  exact ⟨fun e => toW_inj h (by decide) e, fun e => by rw [e]⟩
theorem isZr (v : Nat) (h : v < M512) : (toW v == (List.replicate 8 (0 : Int))) = decide (v = 0) := isZ v h
theorem made_ev (v : Nat) : Ev (fun k => limb_made.m k false (toW v)) (false, toW v) := by
  refine Ev.succ (f := fun k => limb_made.b0 k false (toW v)) ?_ (fun k => rfl)
  exact Ev.ff rfl Ev.ret
theorem canon_ev (v : Nat) : Ev (fun k => limb_Canon.m k false (toW v)) (false, toW v) := by
  refine Ev.succ (f := fun k => limb_Canon.b0 k false (toW v)) ?_ (fun k => rfl)
  exact Ev.bind (made_ev v) Ev.ret
theorem of_ev (n : Nat) (h : n < 9223372036854775808) : Ev (fun k => limb_Of.m k (n : Int)) (false, toW n) := by
  refine Ev.succ (f := fun k => limb_Of.b0 k (n : Int)) ?_ (fun k => rfl)
  simp only [limb_Of.b0]
  have e : toW n = ([(n : Int), 0, 0, 0, 0, 0, 0, 0] : List Int) := by
    have h1 : n % W64 = n := Nat.mod_eq_of_lt (by show n < 18446744073709551616; omega)
    have h2 : n / W64 = 0 := Nat.div_eq_of_lt (by show n < 18446744073709551616; omega)
    show ((n % W64 : Nat) : Int) :: toB W64 7 (n / W64) = _
    rw [h1, h2, toB_zero]
    rfl
  rw [u64i (n := (n : Int)) (by omega) (by omega)]
  refine Ev.ff (by simp) (Ev.ret' ?_)
  rw [e]
/-- The order of two numbers. -/
def cmpN (a b : Nat) : Int := if a < b then -1 else if b < a then 1 else 0
theorem cmp_top (B a b i : Nat) (hB : 0 < B) : cmpN (a % B ^ (i + 1)) (b % B ^ (i + 1)) = if a / B ^ i % B < b / B ^ i % B then -1 else if a / B ^ i % B > b / B ^ i % B then 1 else cmpN (a % B ^ i) (b % B ^ i) := by
  have hp : 0 < B ^ i := Nat.pow_pos hB
  have h1 := mod_next B a i
  have h2 := mod_next B b i
  have l1 := Nat.mod_lt a hp
  have l2 := Nat.mod_lt b hp
  generalize a / B ^ i % B = x at *
  generalize b / B ^ i % B = y at *
  generalize a % B ^ i = u at *
  generalize b % B ^ i = w at *
  rw [h1, h2]
  by_cases hxy : x < y
  · have : (x + 1) * B ^ i ≤ y * B ^ i := Nat.mul_le_mul_right _ hxy
    rw [Nat.add_mul] at this
    rw [if_pos hxy]
    unfold cmpN
    rw [if_pos (by omega)]
  · rw [if_neg hxy]
    by_cases hyx : x > y
    · have : (y + 1) * B ^ i ≤ x * B ^ i := Nat.mul_le_mul_right _ hyx
      rw [Nat.add_mul] at this
      rw [if_pos hyx]
      unfold cmpN
      rw [if_neg (by omega), if_pos (by omega)]
    · rw [if_neg hyx]
      have : x = y := by omega
      subst this
      unfold cmpN
      split <;> split <;> (try split) <;> (try split) <;> omega
theorem order_go (a b : Nat) : ∀ (i : Nat), i ≤ 8 → Ev (fun k => limb_order.go k (.l1 (toW a) (toW b) ((i : Int) - 1))) (cmpN (a % W64 ^ i) (b % W64 ^ i))
  | 0, _ => by
    refine Ev.succ (f := fun k => limb_order.b1 k (limb_order.go k) (toW a) (toW b) ((0 : Nat) - 1)) ?_ (fun k => rfl)
    simp only [limb_order.b1]
    refine Ev.ff (by simp) (Ev.ret' ?_)
    simp [cmpN, Nat.mod_one]
  | i + 1, hi => by
    have e0 : ((i + 1 : Nat) : Int) - 1 = i := by omega
    rw [e0]
    refine Ev.succ (f := fun k => limb_order.b1 k (limb_order.go k) (toW a) (toW b) (i : Int)) ?_ (fun k => rfl)
    simp only [limb_order.b1, Int.toNat_natCast, toW_get _ i (show i < 8 by omega)]
    rw [v64 (by omega) (by omega), cmp_top W64 a b i (by decide)]
    refine Ev.tt (by simp) (Ev.gk (inB_iff.2 (by omega)) (Ev.gk (inB_iff.2 (by omega)) (Ev.bif (fun h => ?_) (fun h => Ev.gk (inB_iff.2 (by omega)) (Ev.gk (inB_iff.2 (by omega)) (Ev.bif (fun h' => ?_) (fun h' => ?_)))))))
    · have := of_decide_eq_true h
      rw [if_pos (by omega)]
      exact Ev.ret
    · have := of_decide_eq_false h
      have := of_decide_eq_true h'
      rw [if_neg (by omega), if_pos (by omega)]
      exact Ev.ret
    · have := of_decide_eq_false h
      have := of_decide_eq_false h'
      rw [if_neg (by omega), if_neg (by omega)]
      exact order_go a b i (by omega)
theorem order_ev (a b : Nat) (ha : a < M512) (hb : b < M512) : Ev (fun k => limb_order.m k (toW a) (toW b)) (cmpN a b) := by
  refine Ev.succ (f := fun k => limb_order.b0 k (limb_order.go k) (toW a) (toW b)) ?_ (fun k => rfl)
  have := order_go a b 8 (by decide)
  rw [M512_eq, Nat.mod_eq_of_lt ha, Nat.mod_eq_of_lt hb] at this
  exact this
theorem cmp_ev (a b : Nat) (ha : a < M512) (hb : b < M512) : Ev (fun k => limb_Cmp.m k false (toW a) false (toW b)) (cmpN a b) := by
  refine Ev.succ (f := fun k => limb_Cmp.b0 k (limb_Cmp.go k) false (toW a) false (toW b)) ?_ (fun k => rfl)
  refine Ev.bind (canon_ev a) (Ev.bind (canon_ev b) (Ev.ff rfl ?_))
  refine Ev.succ (f := fun k => limb_Cmp.b1 k (limb_Cmp.go k) false (toW a) false (toW b) false) ?_ (fun k => rfl)
  refine Ev.ff rfl (Ev.tt rfl ?_)
  refine Ev.succ (f := fun k => limb_Cmp.b2 k (limb_Cmp.go k) false (toW a) false (toW b) false) ?_ (fun k => rfl)
  exact Ev.ff rfl (Ev.ff rfl (Ev.bind (order_ev a b ha hb) Ev.ret))
end Go.Proofs.YtaakccdfgejgpaaGreatDoor.Pure
