/-
  Both operators of chapter 06 find the longest text of the list that stands at the place.
-/
import Derived.Test.YtcdcihmlmcnbjaaTokP1
import Derived.IntWalk
namespace Go.Proofs.Ytcdcihmlmcnbjaa
open Go Eng
set_option linter.unusedVariables false

theorem wr64 (n : Int) (h : -9223372036854775808 ≤ n ∧ n ≤ 9223372036854775807) : wr .i64 n = n := IntWalk.i64_in n h
abbrev ops : List (List UInt8) := token_operators.arr0
def M (rest : List UInt8) (j : Nat) : Prop := (ops.getD j []).length ≤ rest.length ∧ rest.take (ops.getD j []).length = ops.getD j []
def Best (rest : List UInt8) (i : Nat) (K N : Int) : Prop :=
  (K = 0 ∧ N = 0 ∧ ∀ j, j < i → ¬ M rest j) ∨ ∃ j, j < i ∧ K = 40 + j ∧ N = ((ops.getD j []).length : Int) ∧ M rest j ∧ ∀ j', j' < i → M rest j' → (ops.getD j' []).length ≤ (ops.getD j []).length

set_option maxRecDepth 1000000 in
theorem ops_inj : ∀ j, j < 48 → ∀ j', j' < 48 → ops.getD j [] = ops.getD j' [] → j = j' := by decide +kernel
set_option maxRecDepth 1000000 in
theorem ops_size : ∀ j, j < 48 → 1 ≤ (ops.getD j []).length ∧ (ops.getD j []).length ≤ 3 := by decide +kernel

theorem Best.unique {rest : List UInt8} {K N K' N' : Int} (h : Best rest 48 K N) (h' : Best rest 48 K' N') : K = K' ∧ N = N' := by
  rcases h with ⟨rfl, rfl, h⟩ | ⟨j, hj, rfl, rfl, hm, h⟩ <;> rcases h' with ⟨rfl, rfl, h'⟩ | ⟨j', hj', rfl, rfl, hm', h'⟩
  · exact ⟨rfl, rfl⟩
  · exact absurd hm' (h _ hj')
  · exact absurd hm (h' _ hj)
  · have h1 := h _ hj' hm'
    have h2 := h' _ hj hm
    have he : (ops.getD j []).length = (ops.getD j' []).length := by omega
    have : ops.getD j [] = ops.getD j' [] := by rw [← hm.2, ← hm'.2, he]
    have := ops_inj j hj j' hj' this
    subst this
    exact ⟨rfl, rfl⟩

theorem getD_nat (l : List (List UInt8)) (i : Nat) : l.getD ((i : Int)).toNat [] = l.getD i [] := by simp

/-! ### the program's -/
theorem tokOp_loop (b : List UInt8) (at' : Int) (rest : List UInt8) (hrest : cut b at' (b.length : Int) = rest) : ∀ (n i : Nat), i + n = 48 → ∀ (F : Nat), 2 * n + 1 ≤ F → ∀ (K N : Int), Best rest i K N →
    ∃ K' N', token_Operator.l0 F K N (i : Int) b at' ops = some (K', N') ∧ Best rest 48 K' N' := by
  intro n
  induction n with
  | zero =>
    intro i hi F hF K N hB
    obtain ⟨F, rfl⟩ : ∃ G, F = G + 1 := ⟨F - 1, by omega⟩
    obtain rfl : i = 48 := by omega
    exact ⟨K, N, by rw [token_Operator.l0]; simp, hB⟩
  | succ n ih =>
    intro i hi F hF K N hB
    obtain ⟨F, rfl⟩ : ∃ G, F = G + 1 + 1 := ⟨F - 2, by omega⟩
    have h1 : decide ((i : Int) < 48) = true := by simp; omega
    have h2 : (decide (0 ≤ (i : Int)) && decide ((i : Int) < (ops.length : Int))) = true := by
      have : (ops.length : Int) = 48 := by kernel_rfl
      simp [this]; omega
    have hw1 : wr .i64 ((i : Int) + 1) = ((i + 1 : Nat) : Int) := by rw [wr64 _ (by omega)]; omega
    have hw2 : wr .i64 (40 + (i : Int)) = 40 + (i : Int) := by rw [wr64 _ (by omega)]
    have hz := ops_size i (by omega)
    have hstep : ∀ K2 N2, Best rest (i + 1) K2 N2 → token_Operator.l0 (F + 1 + 1) K N (i : Int) b at' ops = token_Operator.l0 F K2 N2 ((i + 1 : Nat) : Int) b at' ops →
        ∃ K' N', token_Operator.l0 (F + 1 + 1) K N (i : Int) b at' ops = some (K', N') ∧ Best rest 48 K' N' := by
      intro K2 N2 hB2 he
      rw [he]
      exact ih (i + 1) (by omega) F (by omega) K2 N2 hB2
    have hNo : ¬ M rest i → Best rest (i + 1) K N := by
      intro hno
      rcases hB with ⟨rfl, rfl, h⟩ | ⟨j, hj, rfl, rfl, hm, h⟩
      · refine .inl ⟨rfl, rfl, fun j hj => ?_⟩
        by_cases hji : j = i
        · subst hji; exact hno
        · exact h j (by omega)
      · refine .inr ⟨j, by omega, rfl, rfl, hm, fun j' hj' hm' => ?_⟩
        by_cases hji : j' = i
        · subst hji; exact absurd hm' hno
        · exact h j' (by omega) hm'
    have hUp : M rest i → N < ((ops.getD i []).length : Int) → Best rest (i + 1) (40 + (i : Int)) ((ops.getD i []).length : Int) := by
      intro hm hlt
      refine .inr ⟨i, by omega, rfl, rfl, hm, fun j' hj' hm' => ?_⟩
      by_cases hji : j' = i
      · subst hji; exact Nat.le_refl _
      · rcases hB with ⟨rfl, rfl, h⟩ | ⟨j, hj, rfl, rfl, hm2, h⟩
        · exact absurd hm' (h j' (by omega))
        · have := h j' (by omega) hm'
          omega
    have hLow : M rest i → ((ops.getD i []).length : Int) ≤ N → Best rest (i + 1) K N := by
      intro hm hle
      rcases hB with ⟨rfl, rfl, h⟩ | ⟨j, hj, rfl, rfl, hm2, h⟩
      · omega
      · refine .inr ⟨j, by omega, rfl, rfl, hm2, fun j' hj' hm' => ?_⟩
        by_cases hji : j' = i
        · subst hji; omega
        · exact h j' (by omega) hm'
    by_cases c1 : N < ((ops.getD i []).length : Int)
    · by_cases c2 : (ops.getD i []).length ≤ rest.length
      · have h3 : ((decide (((ops.getD ((i : Int)).toNat []).length : Int) > N)) && (decide (((ops.getD ((i : Int)).toNat []).length : Int) ≤ ((cut b at' (b.length : Int)).length : Int)))) = true := by
          rw [getD_nat, hrest]
          simp only [Bool.and_eq_true, decide_eq_true_eq]
          omega
        have h4 : (decide (0 ≤ (0 : Int)) && (decide ((0 : Int) ≤ ((ops.getD ((i : Int)).toNat []).length : Int)) && decide (((ops.getD ((i : Int)).toNat []).length : Int) ≤ ((cut b at' (b.length : Int)).length : Int)))) = true := by
          rw [getD_nat, hrest]
          simp only [Bool.and_eq_true, decide_eq_true_eq]
          omega
        have h5 : cut (cut b at' (b.length : Int)) 0 ((ops.getD ((i : Int)).toNat []).length : Int) = rest.take (ops.getD i []).length := by
          rw [hrest, getD_nat]
          simp [cut]
        by_cases c3 : rest.take (ops.getD i []).length = ops.getD i []
        · refine hstep _ _ (hUp ⟨c2, c3⟩ c1) ?_
          rw [token_Operator.l0, h1, h2, h3, h4, h5, getD_nat, c3]
          simp only [cond_true, beq_self_eq_true]
          rw [token_Operator.j1]
          simp only [cond_true]
          rw [hw1, hw2, getD_nat]
        · refine hstep _ _ (hNo fun hm => c3 hm.2) ?_
          have : (rest.take (ops.getD i []).length == ops.getD i []) = false := by simpa using c3
          rw [token_Operator.l0, h1, h2, h3, h4, h5, getD_nat, this]
          simp only [cond_true]
          rw [token_Operator.j1]
          simp only [cond_false]
          rw [hw1]
      · refine hstep _ _ (hNo fun hm => c2 hm.1) ?_
        have h3 : ((decide (((ops.getD ((i : Int)).toNat []).length : Int) > N)) && (decide (((ops.getD ((i : Int)).toNat []).length : Int) ≤ ((cut b at' (b.length : Int)).length : Int)))) = false := by
          rw [getD_nat, hrest]
          simp only [Bool.and_eq_false_iff, decide_eq_false_iff_not]
          omega
        rw [token_Operator.l0, h1, h2, h3]
        simp only [cond_true, cond_false]
        rw [token_Operator.j1]
        simp only [cond_false]
        rw [hw1]
    · have h3 : ((decide (((ops.getD ((i : Int)).toNat []).length : Int) > N)) && (decide (((ops.getD ((i : Int)).toNat []).length : Int) ≤ ((cut b at' (b.length : Int)).length : Int)))) = false := by
        rw [getD_nat, hrest]
        simp only [Bool.and_eq_false_iff, decide_eq_false_iff_not]
        omega
      refine hstep K N ?_ ?_
      · by_cases hm : M rest i
        · exact hLow hm (by omega)
        · exact hNo hm
      · rw [token_Operator.l0, h1, h2, h3]
        simp only [cond_true, cond_false]
        rw [token_Operator.j1]
        simp only [cond_false]
        rw [hw1]

theorem best_zero (rest : List UInt8) : Best rest 0 0 0 := .inl ⟨rfl, rfl, fun j hj => by omega⟩

/-- The program's Operator. -/
theorem tokOp (b : List UInt8) (at' : Int) (F : Nat) (hF : 200 ≤ F) :
    (at' < 0 ∨ (b.length : Int) ≤ at') ∧ token_Operator.f F b at' = some (0, 0) ∨
    (0 ≤ at' ∧ at' < (b.length : Int)) ∧ ∃ K N, token_Operator.f F b at' = some (K, N) ∧ Best (cut b at' (b.length : Int)) 48 K N := by
  by_cases h : at' < 0 ∨ (b.length : Int) ≤ at'
  · refine .inl ⟨h, ?_⟩
    have : ((decide (at' < 0)) || (decide (at' ≥ (b.length : Int)))) = true := by simpa using h
    rw [token_Operator.f, this]
    rfl
  · refine .inr ⟨by omega, ?_⟩
    have h1 : ((decide (at' < 0)) || (decide (at' ≥ (b.length : Int)))) = false := by simp; omega
    have h2 : (decide (0 ≤ at') && (decide (at' ≤ (b.length : Int)) && decide ((b.length : Int) ≤ (b.length : Int)))) = true := by simp; omega
    obtain ⟨K, N, he, hB⟩ := tokOp_loop b at' _ rfl 48 0 rfl F (by omega) 0 0 (best_zero _)
    refine ⟨K, N, ?_, hB⟩
    rw [token_Operator.f, h1, h2]
    exact he

/-! ### the document's -/
set_option maxRecDepth 1000000 in
theorem refSpell_ops (k : Nat) : (List.range 48).map (fun (i : Nat) => cavilref06_Spell.f (k + 200) (40 + (i : Int))) = ops.map some := by kernel_rfl
theorem refSpell_op (F : Nat) (hF : 200 ≤ F) (i : Nat) (hi : i < 48) : cavilref06_Spell.f F (40 + (i : Int)) = some (ops.getD i []) := by
  obtain ⟨k, rfl⟩ : ∃ k, F = k + 200 := ⟨F - 200, by omega⟩
  have h := congrArg (fun l => l[i]?) (refSpell_ops k)
  have h48 : ops.length = 48 := by kernel_rfl
  simp only [List.getElem?_map, List.getElem?_range hi, Option.map_some] at h
  rw [List.getElem?_eq_getElem (by omega)] at h
  simp only [Option.map_some, Option.some.injEq] at h
  rw [h, List.getD_eq_getElem?_getD, List.getElem?_eq_getElem (by omega)]
  rfl

theorem refOp_one (b : List UInt8) (at' : Int) (hat : 0 ≤ at') (s : Nat) (hs : 1 ≤ s) (hs3 : s ≤ 3) (hlen : at' + s ≤ (b.length : Int)) (hbig : (b.length : Int) ≤ 1000)
    (hmax : ∀ j, j < 48 → M (cut b at' (b.length : Int)) j → (ops.getD j []).length ≤ s)
    (F0 : Nat) (hF0 : 200 ≤ F0)
    (hgo : (∀ j, j < 48 → M (cut b at' (b.length : Int)) j → (ops.getD j []).length ≤ s - 1) → ∀ F, F0 ≤ F → ∃ K N, cavilref06_Operator.l0 F ((s - 1 : Nat) : Int) b at' = some (K, N) ∧ Best (cut b at' (b.length : Int)) 48 K N) :
    ∀ (n i : Nat), i + n = 48 → ∀ F, F0 + n + 1 ≤ F → (∀ j, j < i → ops.getD j [] ≠ (cut b at' (b.length : Int)).take s) →
      ∃ K N, cavilref06_Operator.l1 F (40 + (i : Int)) b at' (s : Int) = some (K, N) ∧ Best (cut b at' (b.length : Int)) 48 K N := by
  have hcut : cut b at' (wr .i64 (at' + (s : Int))) = (cut b at' (b.length : Int)).take s := by
    rw [wr64 _ (by omega)]
    unfold cut
    rw [List.take_of_length_le (l := b) (i := ((b.length : Int)).toNat) (by simp), List.take_drop]
    congr 2
    omega
  have hcl : (cut b at' (b.length : Int)).length = b.length - at'.toNat := by
    unfold cut
    simp
  intro n
  induction n with
  | zero =>
    intro i hi F hF hno
    obtain ⟨F, rfl⟩ : ∃ G, F = G + 1 := ⟨F - 1, by omega⟩
    obtain rfl : i = 48 := by omega
    have hw : wr .i64 ((s : Int) - 1) = ((s - 1 : Nat) : Int) := by rw [wr64 _ (by omega)]; omega
    obtain ⟨K, N, he, hB⟩ := hgo (fun j hj hm => by
      have h1 := hmax j hj hm
      by_cases hh : (ops.getD j []).length = s
      · exact absurd (by rw [← hm.2, hh]) (hno j hj)
      · omega) F (by omega)
    refine ⟨K, N, ?_, hB⟩
    rw [cavilref06_Operator.l1, hw]
    exact he
  | succ n ih =>
    intro i hi F hF hno
    obtain ⟨F, rfl⟩ : ∃ G, F = G + 1 := ⟨F - 1, by omega⟩
    have h1 : decide (40 + (i : Int) < 88) = true := by simp; omega
    have h2 : (decide (0 ≤ at') && (decide (at' ≤ (wr .i64 (at' + (s : Int)))) && decide ((wr .i64 (at' + (s : Int))) ≤ (b.length : Int)))) = true := by
      rw [wr64 _ (by omega)]
      simp; omega
    have hw : wr .i64 (40 + (i : Int) + 1) = 40 + ((i + 1 : Nat) : Int) := by rw [wr64 _ (by omega)]; omega
    rw [cavilref06_Operator.l1, h1, refSpell_op F (by omega) i (by omega)]
    simp only [cond_true, Option.bind_some]
    rw [h2, hcut, hw]
    simp only [cond_true]
    by_cases c : ops.getD i [] = (cut b at' (b.length : Int)).take s
    · have hb : (ops.getD i [] == (cut b at' (b.length : Int)).take s) = true := by simpa using c
      rw [hb]
      have hl : (ops.getD i []).length = s := by rw [c]; simp; omega
      refine ⟨_, _, rfl, .inr ⟨i, by omega, rfl, by rw [hl], ⟨by omega, by rw [hl, c]⟩, fun j' hj' hm' => ?_⟩⟩
      have := hmax j' hj' hm'
      omega
    · have hb : (ops.getD i [] == (cut b at' (b.length : Int)).take s) = false := by simpa using c
      rw [hb]
      refine ih (i + 1) (by omega) F (by omega) (fun j hj => ?_)
      by_cases hji : j = i
      · subst hji; exact c
      · exact hno j (by omega)

theorem refOp_sizes (b : List UInt8) (at' : Int) (hat : 0 ≤ at') (hin : at' < (b.length : Int)) (hbig : (b.length : Int) ≤ 1000) :
    ∀ (s : Nat), s ≤ 3 → (∀ j, j < 48 → M (cut b at' (b.length : Int)) j → (ops.getD j []).length ≤ s) → ∀ F, 201 + 60 * s ≤ F →
      ∃ K N, cavilref06_Operator.l0 F (s : Int) b at' = some (K, N) ∧ Best (cut b at' (b.length : Int)) 48 K N := by
  have hcl : (cut b at' (b.length : Int)).length = b.length - at'.toNat := by
    unfold cut
    simp
  intro s
  induction s with
  | zero =>
    intro _ hmax F hF
    obtain ⟨F, rfl⟩ : ∃ G, F = G + 1 := ⟨F - 1, by omega⟩
    refine ⟨0, 0, by rw [cavilref06_Operator.l0]; rfl, .inl ⟨rfl, rfl, fun j hj hm => ?_⟩⟩
    have h1 := hmax j hj hm
    have h2 := ops_size j hj
    omega
  | succ s ih =>
    intro hs hmax F hF
    obtain ⟨F, rfl⟩ : ∃ G, F = G + 1 := ⟨F - 1, by omega⟩
    have h1 : decide (((s + 1 : Nat) : Int) ≥ 1) = true := by simp; omega
    have hw : wr .i64 (((s + 1 : Nat) : Int) - 1) = (s : Int) := by rw [wr64 _ (by omega)]; omega
    have hw2 : wr .i64 ((b.length : Int) - at') = (b.length : Int) - at' := by rw [wr64 _ (by omega)]
    rw [cavilref06_Operator.l0, h1, hw, hw2]
    simp only [cond_true]
    by_cases c : ((s + 1 : Nat) : Int) > (b.length : Int) - at'
    · have hd : decide (((s + 1 : Nat) : Int) > (b.length : Int) - at') = true := by simpa using c
      rw [hd]
      refine ih (by omega) (fun j hj hm => ?_) F (by omega)
      have := hm.1
      omega
    · have hd : decide (((s + 1 : Nat) : Int) > (b.length : Int) - at') = false := by simpa using c
      rw [hd]
      exact refOp_one b at' hat (s + 1) (by omega) hs (by omega) hbig hmax (201 + 60 * s) (by omega) (fun hm G hG => ih (by omega) hm G hG) 48 0 rfl F (by omega) (fun j hj => by omega)

/-- The document's Operator. -/
theorem refOp (b : List UInt8) (hbig : b.length ≤ 1000) (at' : Int) (F : Nat) (hF : 400 ≤ F) :
    (at' < 0 ∨ (b.length : Int) ≤ at') ∧ cavilref06_Operator.f F b at' = some (0, 0) ∨
    (0 ≤ at' ∧ at' < (b.length : Int)) ∧ ∃ K N, cavilref06_Operator.f F b at' = some (K, N) ∧ Best (cut b at' (b.length : Int)) 48 K N := by
  by_cases h : at' < 0 ∨ (b.length : Int) ≤ at'
  · refine .inl ⟨h, ?_⟩
    have : ((decide (at' < 0)) || (decide (at' ≥ (b.length : Int)))) = true := by simpa using h
    rw [cavilref06_Operator.f, this]
    rfl
  · refine .inr ⟨by omega, ?_⟩
    have h1 : ((decide (at' < 0)) || (decide (at' ≥ (b.length : Int)))) = false := by simp; omega
    obtain ⟨K, N, he, hB⟩ := refOp_sizes b at' (by omega) (by omega) (by omega) 3 (Nat.le_refl _) (fun j hj _ => (ops_size j hj).2) F (by omega)
    refine ⟨K, N, ?_, hB⟩
    rw [cavilref06_Operator.f, h1]
    exact he

/-! ### the law -/
set_option maxRecDepth 1000000 in
theorem works0 (k : Nat) : cavillaw06_works.f (k + 200) = some true := by kernel_rfl
theorem works (F : Nat) (hF : 200 ≤ F) : cavillaw06_works.f F = some true := by
  obtain ⟨k, rfl⟩ : ∃ k, F = k + 200 := ⟨F - 200, by omega⟩
  exact works0 k

def hd (m : Int) (l : List UInt8) : List UInt8 := cut l 0 (if m < (l.length : Int) then m else (l.length : Int))
theorem hd_length (m : Nat) (l : List UInt8) : (hd (m : Int) l).length ≤ m := by
  unfold hd cut
  split <;> simp <;> omega

theorem Pure.TokenOperators (l0 : List UInt8) (a1 : Int) (h0 : l0.length ≤ 140737488351232) (h1 : -9223372036854775808 ≤ a1) (h2 : a1 ≤ 9223372036854775807) : ∃ k, cavillaw06_TokenOperators.f k l0 a1 = some true := by
  refine ⟨600, ?_⟩
  have hg : (decide (0 ≤ (0 : Int)) && (decide ((0 : Int) ≤ (if 100 < (l0.length : Int) then 100 else (l0.length : Int))) && decide ((if 100 < (l0.length : Int) then 100 else (l0.length : Int)) ≤ (l0.length : Int)))) = true := by
    simp only [Bool.and_eq_true, decide_eq_true_eq]
    split <;> omega
  rw [cavillaw06_TokenOperators.f, hg]
  simp only [cond_true]
  have hl := hd_length 100 l0
  change ((token_Operator.f 600 (hd 100 l0) a1).bind fun x => _) = _
  have A := tokOp (hd 100 l0) a1 600 (by omega)
  have B := refOp (hd 100 l0) (by simp at hl; omega) a1 600 (by omega)
  have key : ∃ K N, token_Operator.f 600 (hd 100 l0) a1 = some (K, N) ∧ cavilref06_Operator.f 600 (hd 100 l0) a1 = some (K, N) := by
    rcases A with ⟨ha, ea⟩ | ⟨ha, K, N, ea, ba⟩ <;> rcases B with ⟨hb, eb⟩ | ⟨hb, K', N', eb, bb⟩
    · exact ⟨_, _, ea, eb⟩
    · omega
    · omega
    · obtain ⟨rfl, rfl⟩ := ba.unique bb
      exact ⟨_, _, ea, eb⟩
  obtain ⟨K, N, ea, eb⟩ := key
  rw [ea]
  simp only [Option.bind_some]
  change ((cavilref06_Operator.f 600 (hd 100 l0) a1).bind fun x => _) = _
  rw [eb]
  simp [works 600 (by omega)]
end Go.Proofs.Ytcdcihmlmcnbjaa
