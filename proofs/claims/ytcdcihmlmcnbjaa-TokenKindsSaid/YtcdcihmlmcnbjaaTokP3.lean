/-
  The laws TokenLongest, TokenBack and TokenKinds as plain facts.
-/
import Derived.Test.YtcdcihmlmcnbjaaTokP2
namespace Go.Proofs.Ytcdcihmlmcnbjaa
open Go Eng
set_option linter.unusedVariables false
set_option linter.unusedSimpArgs false

set_option maxRecDepth 1000000 in
theorem tokSpell_ops (k : Nat) : (List.range 48).map (fun (i : Nat) => token_Spell.f (k + 20) (40 + (i : Int))) = ops.map some := by kernel_rfl
theorem tokSpell_op (F : Nat) (hF : 20 ≤ F) (i : Nat) (hi : i < 48) : token_Spell.f F (40 + (i : Int)) = some (ops.getD i []) := by
  obtain ⟨k, rfl⟩ : ∃ k, F = k + 20 := ⟨F - 20, by omega⟩
  have h := congrArg (fun l => l[i]?) (tokSpell_ops k)
  have h48 : ops.length = 48 := by kernel_rfl
  simp only [List.getElem?_map, List.getElem?_range hi, Option.map_some] at h
  rw [List.getElem?_eq_getElem (by omega)] at h
  simp only [Option.map_some, Option.some.injEq] at h
  rw [h, List.getD_eq_getElem?_getD, List.getElem?_eq_getElem (by omega)]
  rfl

/-! ### TokenLongest -/
theorem cut_take (b : List UInt8) (at' : Int) (hat : 0 ≤ at') (s : Nat) : cut b at' (at' + (s : Int)) = (cut b at' (b.length : Int)).take s := by
  unfold cut
  rw [List.take_of_length_le (l := b) (i := ((b.length : Int)).toNat) (by simp), List.take_drop]
  congr 2
  omega
theorem cut_len (b : List UInt8) (at' : Int) : (cut b at' (b.length : Int)).length = b.length - at'.toNat := by
  unfold cut
  simp

theorem long_two (l0 : List UInt8) (at' : Int) (hat : 0 ≤ at') (hat2 : at' < 256) (m : Nat) (hm3 : m ≤ 3) (hm : at' + m ≤ ((hd 100 l0).length : Int))
    (hno : ∀ j, j < 48 → ops.getD j [] ≠ (cut (hd 100 l0) at' ((hd 100 l0).length : Int)).take m) :
    ∀ (n i : Nat), i + n = 48 → ∀ F, 300 + n ≤ F → ∃ F', F ≤ F' + n + 1 ∧ cavillaw06_TokenLongest.l2 F (40 + (i : Int)) l0 at' (m : Int) = cavillaw06_TokenLongest.l1 F' ((m + 1 : Nat) : Int) l0 at' := by
  intro n
  induction n with
  | zero =>
    intro i hi F hF
    obtain ⟨F, rfl⟩ : ∃ G, F = G + 1 := ⟨F - 1, by omega⟩
    obtain rfl : i = 48 := by omega
    have hw : wr .i64 ((m : Int) + 1) = ((m + 1 : Nat) : Int) := by rw [wr64 _ (by omega)]; omega
    exact ⟨F, by omega, by rw [cavillaw06_TokenLongest.l2, hw]; rfl⟩
  | succ n ih =>
    intro i hi F hF
    obtain ⟨F, rfl⟩ : ∃ G, F = G + 1 := ⟨F - 1, by omega⟩
    have h1 : decide (40 + (i : Int) < 88) = true := by simp; omega
    have hb : (ops.getD i [] == (cut (hd 100 l0) at' ((hd 100 l0).length : Int)).take m) = false := by simpa using hno i (by omega)
    have hl := hd_length 100 l0
    have hw : wr .i64 (40 + (i : Int) + 1) = 40 + ((i + 1 : Nat) : Int) := by rw [wr64 _ (by omega)]; omega
    have hw1 : wr .i64 at' = at' := wr64 _ (by omega)
    have hw2 : wr .i64 (at' + (m : Int)) = at' + (m : Int) := wr64 _ (by omega)
    obtain ⟨F', hF', he⟩ := ih (i + 1) (by omega) F (by omega)
    refine ⟨F', by omega, ?_⟩
    rw [← he, cavillaw06_TokenLongest.l2, h1, tokSpell_op F (by omega) i (by omega), hw1, hw2, hw]
    simp only [cond_true, Option.bind_some]
    have h2 : (decide (0 ≤ at') && (decide (at' ≤ (at' + (m : Int))) && decide ((at' + (m : Int)) ≤ ((hd 100 l0).length : Int)))) = true := by simp; omega
    have h3 := cut_take (hd 100 l0) at' hat m
    unfold hd at h2 h3 hb
    rw [h2, h3, hb]
    rfl

theorem long_one (l0 : List UInt8) (at' : Int) (hat : 0 ≤ at') (hat2 : at' < 256) (N : Nat) (hN : 1 ≤ N)
    (hmax : ∀ j, j < 48 → M (cut (hd 100 l0) at' ((hd 100 l0).length : Int)) j → (ops.getD j []).length ≤ N) :
    ∀ (d m : Nat), N + 1 ≤ m → m + d = 4 → ∀ F, 300 + 60 * d ≤ F → cavillaw06_TokenLongest.l1 F (m : Int) l0 at' = some true := by
  intro d
  induction d with
  | zero =>
    intro m hNm hm F hF
    obtain ⟨F, rfl⟩ : ∃ G, F = G + 1 := ⟨F - 1, by omega⟩
    have h1 : decide ((m : Int) ≤ 3) = false := by simp; omega
    rw [cavillaw06_TokenLongest.l1, h1]
    simp [works F (by omega)]
  | succ d ih =>
    intro m hNm hm F hF
    obtain ⟨F, rfl⟩ : ∃ G, F = G + 1 := ⟨F - 1, by omega⟩
    have hw1 : wr .i64 at' = at' := wr64 _ (by omega)
    have hw2 : wr .i64 (at' + (m : Int)) = at' + (m : Int) := wr64 _ (by omega)
    have h1 : decide ((m : Int) ≤ 3) = true := by simp; omega
    rw [cavillaw06_TokenLongest.l1, h1, hw1, hw2]
    by_cases c : at' + (m : Int) ≤ ((hd 100 l0).length : Int)
    · have h2 : decide (at' + (m : Int) ≤ ((hd 100 l0).length : Int)) = true := by simpa using c
      have h2' := h2
      unfold hd at h2'
      rw [h2']
      simp only [Bool.and_self, cond_true]
      have hcl := cut_len (hd 100 l0) at'
      obtain ⟨F', hF', he⟩ := long_two l0 at' hat hat2 m (by omega) c (fun j hj he => by
        have hl : (ops.getD j []).length = m := by rw [he]; simp; omega
        have := hmax j hj ⟨by omega, by rw [hl, he]⟩
        omega) 48 0 rfl F (by omega)
      have he' : cavillaw06_TokenLongest.l2 F 40 l0 at' (m : Int) = cavillaw06_TokenLongest.l1 F' ((m + 1 : Nat) : Int) l0 at' := he
      rw [he']
      exact ih (m + 1) (by omega) (by omega) F' (by omega)
    · have h2 : decide (at' + (m : Int) ≤ ((hd 100 l0).length : Int)) = false := by simpa using c
      unfold hd at h2
      rw [h2]
      simp [works F (by omega)]

theorem Pure.TokenLongest (l0 : List UInt8) (a1 : Int) (h0 : l0.length ≤ 140737488351232) (h1 : 0 ≤ a1) (h2 : a1 < 256) : ∃ k, cavillaw06_TokenLongest.f k l0 a1 = some true := by
  refine ⟨600, ?_⟩
  have hg : (decide (0 ≤ (0 : Int)) && (decide ((0 : Int) ≤ (if 100 < (l0.length : Int) then 100 else (l0.length : Int))) && decide ((if 100 < (l0.length : Int) then 100 else (l0.length : Int)) ≤ (l0.length : Int)))) = true := by
    simp only [Bool.and_eq_true, decide_eq_true_eq]
    split <;> omega
  have hw1 : wr .i64 a1 = a1 := wr64 _ (by omega)
  have hl : (hd 100 l0).length ≤ 100 := hd_length 100 l0
  rw [cavillaw06_TokenLongest.f, hg, hw1]
  simp only [cond_true]
  change ((token_Operator.f 600 (hd 100 l0) a1).bind fun x => _) = _
  rcases tokOp (hd 100 l0) a1 600 (by omega) with ⟨_, e⟩ | ⟨hin, K, N, e, hB⟩
  · rw [e]; simp [works 600 (by omega)]
  · rcases hB with ⟨rfl, rfl, _⟩ | ⟨j, hj, rfl, rfl, hM, hmax⟩
    · rw [e]; simp [works 600 (by omega)]
    · have hz := ops_size j hj
      have hcl := cut_len (hd 100 l0) a1
      have hM1 := hM.1
      have hw2 : wr .i64 (a1 + ((ops.getD j []).length : Int)) = a1 + ((ops.getD j []).length : Int) := wr64 _ (by omega)
      have hk0 : ((40 + (j : Int)) == 0) = false := by simp; omega
      rw [e]
      simp only [Option.bind_some]
      rw [hk0, hw2]
      simp only [cond_false]
      have g1 : decide (a1 + ((ops.getD j []).length : Int) > ((hd 100 l0).length : Int)) = false := by simp only [decide_eq_false_iff_not]; omega
      have g2 : (decide (0 ≤ a1) && (decide (a1 ≤ (a1 + ((ops.getD j []).length : Int))) && decide ((a1 + ((ops.getD j []).length : Int)) ≤ ((hd 100 l0).length : Int)))) = true := by simp only [Bool.and_eq_true, decide_eq_true_eq]; omega
      have g3 := cut_take (hd 100 l0) a1 h1 (ops.getD j []).length
      rw [hM.2] at g3
      unfold hd at g1 g2 g3
      rw [g1, g2, g3, tokSpell_op 600 (by omega) j hj]
      simp only [cond_true, cond_false, Option.bind_some, beq_self_eq_true, Bool.not_true]
      have hw3 : wr .i64 (((ops.getD j []).length : Int) + 1) = (((ops.getD j []).length + 1 : Nat) : Int) := by rw [wr64 _ (by omega)]; omega
      rw [cavillaw06_TokenLongest.j0, hw3]
      exact long_one l0 a1 h1 h2 (ops.getD j []).length hz.1 hmax (3 - (ops.getD j []).length) _ (Nat.le_refl _) (by omega) 599 (by omega)

/-! ### TokenBack -/
def spl : List (List UInt8) := tbl ++ List.replicate 156 []
set_option maxRecDepth 1000000 in
theorem tokSpell_tab (k : Nat) : (List.range 256).map (fun (i : Nat) => token_Spell.f (k + 20) (wr .i64 (i : Int))) = spl.map some := by kernel_rfl
set_option maxRecDepth 1000000 in
theorem back_tab : (List.range 256).map (fun (i : Nat) => cavillaw06_TokenBack.f 600 (i : Int) 255) = List.replicate 256 (some true) := by kernel_rfl
set_option maxRecDepth 1000000 in
theorem spl_inj : ∀ i, i < 256 → spl.getD i [] ≠ [] → spl.idxOf (spl.getD i []) = i := by decide +kernel

theorem tokSpell_at (F : Nat) (hF : 20 ≤ F) (i : Nat) (hi : i < 256) : token_Spell.f F (wr .i64 (i : Int)) = some (spl.getD i []) := by
  obtain ⟨k, rfl⟩ : ∃ k, F = k + 20 := ⟨F - 20, by omega⟩
  have h := congrArg (fun l => l[i]?) (tokSpell_tab k)
  have h48 : spl.length = 256 := by kernel_rfl
  simp only [List.getElem?_map, List.getElem?_range hi, Option.map_some] at h
  rw [List.getElem?_eq_getElem (by omega)] at h
  simp only [Option.map_some, Option.some.injEq] at h
  rw [h, List.getD_eq_getElem?_getD, List.getElem?_eq_getElem (by omega)]
  rfl

theorem Pure.TokenBack (a0 a1 : Int) (h0 : 0 ≤ a0) (h1 : a0 < 256) (h2 : 0 ≤ a1) (h3 : a1 < 256) : ∃ k, cavillaw06_TokenBack.f k a0 a1 = some true := by
  refine ⟨600, ?_⟩
  obtain ⟨i, rfl⟩ : ∃ i : Nat, a0 = i := ⟨a0.toNat, by omega⟩
  obtain ⟨j, rfl⟩ : ∃ j : Nat, a1 = j := ⟨a1.toNat, by omega⟩
  have hi : i < 256 := by omega
  have hj : j < 256 := by omega
  have hb : cavillaw06_TokenBack.f 600 (i : Int) 255 = some true := by
    have h := congrArg (fun l => l[i]?) back_tab
    simp only [List.getElem?_map, List.getElem?_range hi, Option.map_some] at h
    rw [List.getElem?_replicate_of_lt hi] at h
    simpa using h
  have hs1 := tokSpell_at 600 (by omega) i hi
  have hs2 := tokSpell_at 600 (by omega) j hj
  have hs3 : token_Spell.f 600 (wr .i64 255) = some (spl.getD 255 []) := tokSpell_at 600 (by omega) 255 (by omega)
  have c1 : (((!(spl.getD i [] == ([] : List UInt8))) && (spl.getD i [] == spl.getD j [])) && ((i : Int) != (j : Int))) = false := by
    rw [Bool.eq_false_iff]
    intro h
    simp at h
    obtain ⟨⟨g1, g2⟩, g3⟩ := h
    have e1 := spl_inj i hi (by simpa using g1)
    have e2 := spl_inj j hj (by simpa [← g2] using g1)
    simp only [List.getD_eq_getElem?_getD] at e1 e2
    rw [g2] at e1
    omega
  have c2 : (((!(spl.getD i [] == ([] : List UInt8))) && (spl.getD i [] == spl.getD 255 [])) && ((i : Int) != 255)) = false := by
    rw [Bool.eq_false_iff]
    intro h
    have e : spl.getD 255 [] = [] := by kernel_rfl
    rw [e] at h
    simp at h
  rw [cavillaw06_TokenBack.f, hs1, hs3] at hb
  rw [cavillaw06_TokenBack.f, hs1, hs2]
  simp only [Option.bind_some] at hb ⊢
  rw [c2] at hb
  rw [c1]
  exact hb

/-! ### TokenKinds -/
theorem pair_of_tab {α : Type} {f g : Int → Option α} {n : Nat} (h : (List.range n).map (fun (i : Nat) => f (i : Int)) = (List.range n).map (fun (i : Nat) => g (i : Int)))
    (hs : (List.range n).all (fun (i : Nat) => (f (i : Int)).isSome) = true) (a : Int) (h0 : 0 ≤ a) (h1 : a < n) : ∃ r, f a = some r ∧ g a = some r := by
  obtain ⟨i, rfl⟩ : ∃ i : Nat, a = i := ⟨a.toNat, by omega⟩
  have hi : i < n := by omega
  have h2 := congrArg (fun l => l[i]?) h
  simp only [List.getElem?_map, List.getElem?_range hi, Option.map_some, Option.some.injEq] at h2
  have h3 := List.all_eq_true.1 hs i (List.mem_range.2 hi)
  obtain ⟨r, hr⟩ := Option.isSome_iff_exists.1 h3
  exact ⟨r, hr, by rw [← h2, hr]⟩

set_option maxRecDepth 1000000 in
theorem tabSpell : (List.range 100).map (fun (i : Nat) => token_Spell.f 600 (i : Int)) = (List.range 100).map (fun (i : Nat) => cavilref06_Spell.f 600 (i : Int)) := by kernel_rfl
set_option maxRecDepth 1000000 in
theorem someSpell : (List.range 100).all (fun (i : Nat) => (token_Spell.f 600 (i : Int)).isSome) = true := by kernel_rfl
set_option maxRecDepth 1000000 in
theorem tabPrec : (List.range 100).map (fun (i : Nat) => token_Prec.f 600 (i : Int)) = (List.range 100).map (fun (i : Nat) => cavilref06_Prec.f 600 (i : Int)) := by kernel_rfl
set_option maxRecDepth 1000000 in
theorem somePrec : (List.range 100).all (fun (i : Nat) => (token_Prec.f 600 (i : Int)).isSome) = true := by kernel_rfl
set_option maxRecDepth 1000000 in
theorem tabUnary : (List.range 100).map (fun (i : Nat) => token_Unary.f 600 (i : Int)) = (List.range 100).map (fun (i : Nat) => cavilref06_Unary.f 600 (i : Int)) := by kernel_rfl
set_option maxRecDepth 1000000 in
theorem someUnary : (List.range 100).all (fun (i : Nat) => (token_Unary.f 600 (i : Int)).isSome) = true := by kernel_rfl
set_option maxRecDepth 1000000 in
theorem tabBase : (List.range 100).map (fun (i : Nat) => token_Base.f 600 (i : Int)) = (List.range 100).map (fun (i : Nat) => cavilref06_Base.f 600 (i : Int)) := by kernel_rfl
set_option maxRecDepth 1000000 in
theorem someBase : (List.range 100).all (fun (i : Nat) => (token_Base.f 600 (i : Int)).isSome) = true := by kernel_rfl
set_option maxRecDepth 1000000 in
theorem tabEnds : (List.range 100).map (fun (i : Nat) => token_Ends.f 600 (i : Int)) = (List.range 100).map (fun (i : Nat) => cavilref06_Ends.f 600 (i : Int)) := by kernel_rfl
set_option maxRecDepth 1000000 in
theorem someEnds : (List.range 100).all (fun (i : Nat) => (token_Ends.f 600 (i : Int)).isSome) = true := by kernel_rfl

theorem outRef (a : Int) (h : a < 0 ∨ 100 ≤ a) (F : Nat) : cavilref06_Spell.f F a = some [] := by
  have h1 : ((decide (a ≥ 1)) && (decide (a ≤ 5))) = false := by simp; omega
  have h2 : ((decide (a ≥ 10)) && (decide (a < 40))) = false := by simp; omega
  have h3 : ((decide (a ≥ 40)) && (decide (a < 100))) = false := by simp; omega
  rw [cavilref06_Spell.f, h1, h2, h3]
  rfl
set_option maxRecDepth 1000000 in
theorem inNil (k : Nat) (l : List UInt8) : cavilref06_In.l0 (k + 30) 0 l [] = some false := by kernel_rfl
theorem outIn (a : Int) (h : a < 0 ∨ 100 ≤ a) (l : List UInt8) : cavilref06_In.f 600 a l = some false := by
  rw [cavilref06_In.f, outRef a h]
  exact inNil 570 l
theorem outTok (a : Int) (h : a < 0 ∨ 100 ≤ a) (hr : -9223372036854775808 ≤ a ∧ a ≤ 9223372036854775807) : token_Spell.f 600 a = some [] := by
  have e1 : (a == 1) = false := by simp; omega
  have e2 : (a == 2) = false := by simp; omega
  have e3 : (a == 3) = false := by simp; omega
  have e4 : (a == 4) = false := by simp; omega
  have e5 : (a == 5) = false := by simp; omega
  rw [token_Spell.f, e1, e2, e3, e4, e5]
  simp only [cond_false]
  have hk : token_keywords.arr0.length = 25 := by kernel_rfl
  have ho : token_operators.arr0.length = 48 := by kernel_rfl
  by_cases c : a < 0
  · have c1 : decide (a ≥ 10) = false := by simp; omega
    have c2 : decide (a ≥ 40) = false := by simp; omega
    rw [c1]
    simp only [cond_false]
    rw [token_Spell.j0, c2]
    rfl
  · have c1 : decide (a ≥ 10) = true := by simp; omega
    have c2 : decide (a ≥ 40) = true := by simp; omega
    have c3 : decide (wr .i64 (a - 10) < 25) = false := by rw [wr64 _ (by omega)]; simp; omega
    have c4 : decide (wr .i64 (a - 40) < 48) = false := by rw [wr64 _ (by omega)]; simp; omega
    rw [c1, c3]
    simp only [cond_true, token_keywords.f, Option.bind_some, hk, beq_self_eq_true]
    rw [token_Spell.j0, c2, c4]
    simp [token_operators.f, ho]

theorem kSpell (a : Int) (hr : -9223372036854775808 ≤ a ∧ a ≤ 9223372036854775807) : ∃ r, token_Spell.f 600 a = some r ∧ cavilref06_Spell.f 600 a = some r := by
  by_cases h : a < 0 ∨ 100 ≤ a
  · exact ⟨[], outTok a h hr, outRef a h 600⟩
  · exact pair_of_tab tabSpell someSpell a (by omega) (by omega)
theorem kPrec (a : Int) : ∃ r, token_Prec.f 600 a = some r ∧ cavilref06_Prec.f 600 a = some r := by
  by_cases h : a < 0 ∨ 100 ≤ a
  · refine ⟨0, ?_, ?_⟩
    · have h' := h
      have e63 : (a == 63) = false := by simp; omega
      have e62 : (a == 62) = false := by simp; omega
      have e67 : (a == 67) = false := by simp; omega
      have e73 : (a == 73) = false := by simp; omega
      have e68 : (a == 68) = false := by simp; omega
      have e74 : (a == 74) = false := by simp; omega
      have e69 : (a == 69) = false := by simp; omega
      have e75 : (a == 75) = false := by simp; omega
      have e40 : (a == 40) = false := by simp; omega
      have e41 : (a == 41) = false := by simp; omega
      have e46 : (a == 46) = false := by simp; omega
      have e47 : (a == 47) = false := by simp; omega
      have e42 : (a == 42) = false := by simp; omega
      have e43 : (a == 43) = false := by simp; omega
      have e44 : (a == 44) = false := by simp; omega
      have e48 : (a == 48) = false := by simp; omega
      have e49 : (a == 49) = false := by simp; omega
      have e45 : (a == 45) = false := by simp; omega
      have e50 : (a == 50) = false := by simp; omega
      simp only [token_Prec.f, token_Prec.j0, token_Prec.j1, e63, e62, e67, e73, e68, e74, e69, e75, e40, e41, e46, e47, e42, e43, e44, e48, e49, e45, e50, cond_false]
    · rw [cavilref06_Prec.f]
      simp only [outIn a h, Option.bind_some, cond_false]
      cases decide (a < 40) <;> rfl
  · exact pair_of_tab tabPrec somePrec a (by omega) (by omega)
theorem kUnary (a : Int) : ∃ r, token_Unary.f 600 a = some r ∧ cavilref06_Unary.f 600 a = some r := by
  by_cases h : a < 0 ∨ 100 ≤ a
  · refine ⟨false, ?_, ?_⟩
    · have h' := h
      have e40 : (a == 40) = false := by simp; omega
      have e41 : (a == 41) = false := by simp; omega
      have e71 : (a == 71) = false := by simp; omega
      have e47 : (a == 47) = false := by simp; omega
      have e42 : (a == 42) = false := by simp; omega
      have e45 : (a == 45) = false := by simp; omega
      have e64 : (a == 64) = false := by simp; omega
      simp only [token_Unary.f, e40, e41, e71, e47, e42, e45, e64, cond_false]
    · rw [cavilref06_Unary.f]
      simp only [outIn a h, Option.bind_some, cond_false]
      cases decide (a ≥ 40) <;> rfl
  · exact pair_of_tab tabUnary someUnary a (by omega) (by omega)
theorem kEnds (a : Int) : ∃ r, token_Ends.f 600 a = some r ∧ cavilref06_Ends.f 600 a = some r := by
  by_cases h : a < 0 ∨ 100 ≤ a
  · refine ⟨false, ?_, ?_⟩
    · have h' := h
      have e1 : (a == 1) = false := by simp; omega
      have e2 : (a == 2) = false := by simp; omega
      have e3 : (a == 3) = false := by simp; omega
      have e4 : (a == 4) = false := by simp; omega
      have e5 : (a == 5) = false := by simp; omega
      have e10 : (a == 10) = false := by simp; omega
      have e14 : (a == 14) = false := by simp; omega
      have e18 : (a == 18) = false := by simp; omega
      have e29 : (a == 29) = false := by simp; omega
      have e65 : (a == 65) = false := by simp; omega
      have e66 : (a == 66) = false := by simp; omega
      have e83 : (a == 83) = false := by simp; omega
      have e84 : (a == 84) = false := by simp; omega
      have e85 : (a == 85) = false := by simp; omega
      simp only [token_Ends.f, token_Ends.j0, token_Ends.j1, e1, e2, e3, e4, e5, e10, e14, e18, e29, e65, e66, e83, e84, e85, cond_false]
    · have h1 : ((decide (a ≥ 1)) && (decide (a ≤ 5))) = false := by simp; omega
      rw [cavilref06_Ends.f, h1]
      simp only [outIn a h, Option.bind_some, cond_false]
  · exact pair_of_tab tabEnds someEnds a (by omega) (by omega)
theorem kBase (a : Int) : ∃ r, token_Base.f 600 a = some r ∧ cavilref06_Base.f 600 a = some r := by
  by_cases h : a < 0 ∨ 100 ≤ a
  · refine ⟨0, ?_, ?_⟩
    · have e65 : (a == 65) = false := by simp; omega
      have e66 : (a == 66) = false := by simp; omega
      have h1 : ((decide (a ≥ 51)) && (decide (a ≤ 61))) = false := by simp; omega
      simp only [token_Base.f, e65, e66, h1, cond_false]
    · rw [cavilref06_Base.f, outRef a h]
      simp
  · exact pair_of_tab tabBase someBase a (by omega) (by omega)

/-! ### the keywords -/
abbrev kws : List (List UInt8) := token_keywords.arr0
set_option maxRecDepth 1000000 in
theorem refSpell_kws (k : Nat) : (List.range 25).map (fun (i : Nat) => cavilref06_Spell.f (k + 200) (10 + (i : Int))) = kws.map some := by kernel_rfl
theorem refSpell_kw (F : Nat) (hF : 200 ≤ F) (i : Nat) (hi : i < 25) : cavilref06_Spell.f F (10 + (i : Int)) = some (kws.getD i []) := by
  obtain ⟨k, rfl⟩ : ∃ k, F = k + 200 := ⟨F - 200, by omega⟩
  have h := congrArg (fun l => l[i]?) (refSpell_kws k)
  have h48 : kws.length = 25 := by kernel_rfl
  simp only [List.getElem?_map, List.getElem?_range hi, Option.map_some] at h
  rw [List.getElem?_eq_getElem (by omega)] at h
  simp only [Option.map_some, Option.some.injEq] at h
  rw [h, List.getD_eq_getElem?_getD, List.getElem?_eq_getElem (by omega)]
  rfl
theorem kw_loop (s : List UInt8) : ∀ (n i : Nat), i + n = 25 → ∀ F, 200 + n + 1 ≤ F → ∃ r, token_Keyword.l0 F (i : Int) s kws = some r ∧ cavilref06_Keyword.l0 F (10 + (i : Int)) s = some r := by
  intro n
  induction n with
  | zero =>
    intro i hi F hF
    obtain ⟨F, rfl⟩ : ∃ G, F = G + 1 := ⟨F - 1, by omega⟩
    obtain rfl : i = 25 := by omega
    exact ⟨0, by rw [token_Keyword.l0]; rfl, by rw [cavilref06_Keyword.l0]; rfl⟩
  | succ n ih =>
    intro i hi F hF
    obtain ⟨F, rfl⟩ : ∃ G, F = G + 1 := ⟨F - 1, by omega⟩
    have h1 : decide ((i : Int) < 25) = true := by simp; omega
    have h2 : decide (10 + (i : Int) < 35) = true := by simp; omega
    have h25 : (kws.length : Int) = 25 := by kernel_rfl
    have h3 : (decide (0 ≤ (i : Int)) && decide ((i : Int) < (kws.length : Int))) = true := by rw [h25]; simp; omega
    have w1 : wr .i64 (10 + (i : Int)) = 10 + (i : Int) := wr64 _ (by omega)
    have w2 : wr .i64 ((i : Int) + 1) = ((i + 1 : Nat) : Int) := by rw [wr64 _ (by omega)]; omega
    have w3 : wr .i64 (10 + (i : Int) + 1) = 10 + ((i + 1 : Nat) : Int) := by rw [wr64 _ (by omega)]; omega
    rw [token_Keyword.l0, cavilref06_Keyword.l0, h1, h2, h3, refSpell_kw F (by omega) i (by omega), getD_nat, w1, w2, w3]
    simp only [cond_true, Option.bind_some]
    cases c : (kws.getD i [] == s)
    · exact ih (i + 1) (by omega) F (by omega)
    · exact ⟨_, rfl, rfl⟩
theorem kKeyword (s : List UInt8) : ∃ r, token_Keyword.f 600 s = some r ∧ cavilref06_Keyword.f 600 s = some r := by
  obtain ⟨r, h1, h2⟩ := kw_loop s 25 0 rfl 600 (by omega)
  have h25 : kws.length = 25 := by kernel_rfl
  refine ⟨r, ?_, h2⟩
  rw [token_Keyword.f, token_keywords.f]
  simp only [Option.bind_some, h25, beq_self_eq_true, cond_true]
  exact h1

theorem Pure.TokenKinds (a0 : Int) (l1 : List UInt8) (h0 : -9223372036854775808 ≤ a0) (h1 : a0 ≤ 9223372036854775807) (h2 : l1.length ≤ 140737488351232) : ∃ k, cavillaw06_TokenKinds.f k a0 l1 = some true := by
  refine ⟨600, ?_⟩
  have hg : (decide (0 ≤ (0 : Int)) && (decide ((0 : Int) ≤ (if 20 < (l1.length : Int) then 20 else (l1.length : Int))) && decide ((if 20 < (l1.length : Int) then 20 else (l1.length : Int)) ≤ (l1.length : Int)))) = true := by
    simp only [Bool.and_eq_true, decide_eq_true_eq]
    split <;> omega
  obtain ⟨r1, e1, e2⟩ := kSpell a0 ⟨h0, h1⟩
  obtain ⟨r2, e3, e4⟩ := kKeyword (cut l1 0 (if 20 < (l1.length : Int) then 20 else (l1.length : Int)))
  obtain ⟨r3, e5, e6⟩ := kPrec a0
  obtain ⟨r4, e7, e8⟩ := kUnary a0
  obtain ⟨r5, e9, e10⟩ := kBase a0
  obtain ⟨r6, e11, e12⟩ := kEnds a0
  rw [cavillaw06_TokenKinds.f, hg]
  simp only [cond_true, e1, e2, e3, e4, e5, e6, e7, e8, e9, e10, e11, e12, Option.bind_some, beq_self_eq_true, works 600 (by omega)]
end Go.Proofs.Ytcdcihmlmcnbjaa
