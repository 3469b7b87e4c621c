/-
  Chapter 10, plain: what strings.ReplaceAll does with one byte and nothing.
-/
import Derived.Test.YtjgjbdphjccpcaaDoorPk
import Derived.Lib.Replace
import Derived.Lib.CountLaws
namespace Go.Proofs.YtjgjbdphjccpcaaDoor.Pure
open Go Abs
set_option linter.unusedVariables false

theorem index_one_cons (c b : UInt8) (l : List UInt8) : Lib.index (b :: l) [c] = if b = c then 0 else if Lib.index l [c] = -1 then -1 else Lib.index l [c] + 1 := by
  rw [Lib.index]
  by_cases h : b = c
  · subst h; simp [List.isPrefixOf]
  · have : (c == b) = false := by simpa using fun e : c = b => h e.symm
    simp [List.isPrefixOf, this, h]
theorem strip_one (c : UInt8) : ∀ (s : List UInt8), Lib.replaceK [c] [] (Lib.count s [c]) s = s.filter (fun b => b != c)
  | [] => by
    have h : Lib.index [] [c] = -1 := rfl
    rw [Lib.count_miss h]
    rfl
  | b :: l => by
    have ih := strip_one c l
    have hi := index_one_cons c b l
    by_cases h : b = c
    · rw [if_pos h] at hi
      have hc := Lib.count_hit (s := b :: l) (sub := [c]) (i := 0) (by simp) hi
      rw [hc, Nat.add_comm, Lib.replaceK_hit _ _ _ _ 0 hi]
      simp only [List.length_singleton, Nat.zero_add, List.take_zero, List.nil_append, List.drop_succ_cons, List.drop_zero]
      rw [ih]
      simp [h]
    · rw [if_neg h] at hi
      have hf : (b :: l).filter (fun b => b != c) = b :: l.filter (fun b => b != c) := by simp [h]
      rw [hf, ← ih]
      by_cases hm : Lib.index l [c] = -1
      · rw [if_pos hm] at hi
        rw [Lib.count_miss hi, Lib.count_miss hm]
        rfl
      · rw [if_neg hm] at hi
        obtain ⟨i, hi'⟩ : ∃ i : Nat, Lib.index l [c] = i := ⟨(Lib.index l [c]).toNat, by have := Lib.index_ge l [c]; omega⟩
        rw [hi'] at hi
        have hi2 : Lib.index (b :: l) [c] = ((i + 1 : Nat) : Int) := by rw [hi]; omega
        rw [Lib.count_hit (by simp) hi2, Lib.count_hit (by simp) hi', Nat.add_comm, Nat.add_comm 1, Lib.replaceK_hit _ _ _ _ _ hi2, Lib.replaceK_hit _ _ _ _ _ hi']
        simp [List.drop_succ_cons]
theorem replaceAll_strip (s : List UInt8) : Lib.replaceAll s [13] [] = s.filter (fun b => b != 13) := by
  unfold Lib.replaceAll Lib.replace Lib.replaceNum
  rw [if_neg (by decide), if_pos (.inl (by decide))]
  exact strip_one 13 s
end Go.Proofs.YtjgjbdphjccpcaaDoor.Pure
