/-
  Library functions: contracts.
-/
import Derived.Test.YtaakccdfgejgpaaGreatDoorGTy
import Derived.Test.YtaakccdfgejgpaaGreatDoorAbsZc
import Derived.Test.YtaakccdfgejgpaaGreatDoorIs
import Derived.Test.YtaakccdfgejgpaaGreatDoorShelf
import Derived.Shelf.Spec.BitsCarry
namespace Go.Proofs.YtaakccdfgejgpaaGreatDoor
open Go Abs
set_option linter.unusedVariables false

/-! errors.Is -/
namespace lib_is
def go {R : Type} (args : List AVal) (H : Heap) (K : AVal → List (Nat × Blk) → List Blk → List Nat → Option R) : Option R := match args with
  | [.err e, .err (.no c)] => gk (isSm e) (K (.bool (isEq e c)) [] [] [])
  | _ => none
def ct : Ct where
  f := 29
  run := fun k args H n K => go args H K
theorem snd (k : Nat) : Snd Tryz.prog cfg k ct := by
  intro R args H n K r h
  replace h : go args H K = some r := h
  unfold go at h
  split at h
  · rename_i e c
    obtain ⟨h1, h2⟩ := gk_spec h
    refine ⟨_, _, _, _, h2, .pure (fun b hb => (by cases hb)) (by kernel_rfl) ?_⟩
    rintro F G w0 σ Hc w cs _ hh hv
    match cs, hv with
    | [c1, c2], ⟨v1, v2, _⟩ =>
      cases e with
      | nil =>
        obtain ⟨rfl, _⟩ := VR.err v1
        obtain ⟨rfl, _⟩ := VR.err v2
        refine (is.nil c w).mono ?_
        rintro e w' ⟨rfl, rfl⟩
        exact ⟨_, rfl, .refl _ _, rfl⟩
      | at_ _ _ => cases h1
      | no a =>
        obtain ⟨rfl, _⟩ := VR.err v1
        obtain ⟨rfl, _⟩ := VR.err v2
        refine (is.no a c w).mono ?_
        rintro e w' ⟨rfl, rfl⟩
        exact ⟨_, rfl, .refl _ _, rfl⟩
  · cases h
end lib_is

/-! strings.Contains, of one byte -/
namespace lib_contains
def go {R : Type} (args : List AVal) (H : Heap) (K : AVal → List (Nat × Blk) → List Blk → List Nat → Option R) : Option R := match args with
  | [.str s, .str [c]] => K (.bool (decide (0 ≤ Lib.indexByte s c))) [] [] []
  | _ => none
def ct : Ct where
  f := 25
  run := fun k args H n K => go args H K
theorem snd (k : Nat) : Snd Tryz.prog cfg k ct := by
  intro R args H n K r h
  replace h : go args H K = some r := h
  unfold go at h
  split at h
  · rename_i s c
    refine ⟨_, _, _, _, h, .pure (fun b hb => (by cases hb)) (by kernel_rfl) ?_⟩
    rintro F G w0 σ Hc w cs _ hh hv
    match cs, hv with
    | [c1, c2], ⟨v1, v2, _⟩ =>
      cases VR.str v1
      cases VR.str v2
      refine (Tryz.strings_Contains_one (mk s) c w).mono ?_
      rintro e w' ⟨rfl, rfl⟩
      exact ⟨_, rfl, .refl _ _, rfl⟩
  · cases h
end lib_contains

/-! strings.ReplaceAll -/
namespace lib_replace
def ok (s old new : List UInt8) : Bool := Nat.blt s.length 4294967281 && (Nat.blt 0 old.length && (Nat.ble (s.length + Lib.countB (mk s) (mk old) * new.length) 140737488355328 && Nat.blt (Lib.replaceAll s old new).length 4611686018427387904))
def go {R : Type} (args : List AVal) (H : Heap) (K : AVal → List (Nat × Blk) → List Blk → List Nat → Option R) : Option R := match args with
  | [.str s, .str old, .str new] => gk (ok s old new) (K (.str (Lib.replaceAll s old new)) [] [] [])
  | _ => none
def ct : Ct where
  f := 62
  run := fun k args H n K => go args H K
theorem snd (k : Nat) : Snd Tryz.prog cfg k ct := by
  intro R args H n K r h
  replace h : go args H K = some r := h
  unfold go at h
  split at h
  · rename_i s old new
    obtain ⟨h1, h2⟩ := gk_spec h
    refine ⟨_, _, _, _, h2, .pure (fun b hb => (by cases hb)) (by kernel_rfl) ?_⟩
    rintro F G w0 σ Hc w cs _ hh hv
    simp only [ok, Bool.and_eq_true, Nat.blt_eq] at h1
    obtain ⟨g1, g2, g3, g4⟩ := h1
    have g3 := Nat.le_of_ble_eq_true g3
    obtain ⟨_, _, w1, m, e1, e2⟩ := hh.gl.at_ hh.bx _ (List.mem_singleton.2 rfl)
    match cs, hv with
    | [c1, c2, c3], ⟨v1, v2, v3, _⟩ =>
      cases VR.str v1
      cases VR.str v2
      cases VR.str v3
      refine (Tryz.strings_ReplaceAll (mk s) (mk old) (mk new) m w g1 ?_ g2 g3).mono ?_
      · rw [← e2]; exact World.cell?_of_block e1
      · rintro e w' ⟨rfl, hb⟩
        exact ⟨_, rfl, hb, g4, rfl⟩
  · cases h
end lib_replace

/-! strings.Cut -/
namespace lib_cut
def ok (s : List UInt8) : Bool := Nat.blt s.length 4294967281
def go {R : Type} (args : List AVal) (H : Heap) (K : AVal → List (Nat × Blk) → List Blk → List Nat → Option R) : Option R := match args with
  | [.str s, .str sep] => gk (ok s) (K (.tup (.pair (.str (Lib.cut s sep).1) (.pair (.str (Lib.cut s sep).2.1) (.pair (.bool (Lib.cut s sep).2.2) .nil)))) [] [] [])
  | _ => none
def ct : Ct where
  f := 70
  run := fun k args H n K => go args H K
theorem short (s sep : List UInt8) : (Lib.cut s sep).1.length ≤ s.length ∧ (Lib.cut s sep).2.1.length ≤ s.length := by
  unfold Lib.cut
  split
  · simp only [List.length_take, List.length_drop]; omega
  · simp
theorem snd (k : Nat) : Snd Tryz.prog cfg k ct := by
  intro R args H n K r h
  replace h : go args H K = some r := h
  unfold go at h
  split at h
  · rename_i s sep
    obtain ⟨h1, h2⟩ := gk_spec h
    refine ⟨_, _, _, _, h2, .pure (fun b hb => (by cases hb)) (by kernel_rfl) ?_⟩
    rintro F G w0 σ Hc w cs _ hh hv
    have h1 : s.length < 4294967281 := by unfold ok at h1; simpa [Nat.blt_eq] using h1
    obtain ⟨_, _, w1, m, e1, e2⟩ := hh.gl.at_ hh.bx _ (List.mem_singleton.2 rfl)
    match cs, hv with
    | [c1, c2], ⟨v1, v2, _⟩ =>
      cases VR.str v1
      cases VR.str v2
      refine (Tryz.strings_Cut (mk s) (mk sep) m w h1 ?_).mono ?_
      · rw [← e2]; exact World.cell?_of_block e1
      · rintro e w' ⟨rfl, q, rfl⟩
        obtain ⟨l1, l2⟩ := short s sep
        refine ⟨_, rfl, ⟨rfl, rfl, rfl, Nat.le_refl _, fun _ _ => rfl⟩, ?_⟩
        exact ⟨[_, _, _], ⟨_, [_, _], ⟨Nat.lt_of_le_of_lt l1 (Nat.lt_trans h1 (by decide)), rfl⟩, ⟨_, [_], ⟨Nat.lt_of_le_of_lt l2 (Nat.lt_trans h1 (by decide)), rfl⟩, ⟨_, [], rfl, rfl, rfl⟩, rfl⟩, rfl⟩, rfl⟩
  · cases h
end lib_cut

/-! math/bits.Add64 -/
namespace lib_add64
def go {R : Type} (args : List AVal) (H : Heap) (K : AVal → List (Nat × Blk) → List Blk → List Nat → Option R) : Option R := match args with
  | [.int .u64 x, .int .u64 y, .int .u64 c] => gk (decide (c ≤ 1)) (K (.tup (.pair (.int .u64 ((x + y + c) % 18446744073709551616)) (.pair (.int .u64 ((x + y + c) / 18446744073709551616)) .nil))) [] [] [])
  | _ => none
def ct : Ct where
  f := 86
  run := fun k args H n K => go args H K
theorem call (x y c : Int) (hx : 0 ≤ x ∧ x ≤ 18446744073709551615) (hy : 0 ≤ y ∧ y ≤ 18446744073709551615) (hc : 0 ≤ c ∧ c ≤ 1) (w : World) :
    (callFunc 86 #[.int .u64 x, .int .u64 y, .int .u64 c]).run Tryz.prog w = .ok (.value (.tuple #[.int .u64 ((x + y + c) % 18446744073709551616), .int .u64 ((x + y + c) / 18446744073709551616)])) w := by
    rw [run_callFunc_extern Tryz.func86 (by kernel_rfl) (by kernel_rfl) (by kernel_rfl) (e := add64Entry) (by kernel_rfl), run_add64 x y c (by omega) (by omega) (by omega) (by omega)]
    rfl
theorem snd (k : Nat) : Snd Tryz.prog cfg k ct := by
  intro R args H n K r h
  replace h : go args H K = some r := h
  unfold go at h
  split at h
  · rename_i x y c
    obtain ⟨h1, h2⟩ := gk_spec h
    have h1 : c ≤ 1 := of_decide_eq_true h1
    refine ⟨_, _, _, _, h2, .extern (fun b hb => (by cases hb)) (by kernel_rfl) ?_⟩
    intro σ w cs hv
    match cs, hv with
    | [c1, c2, c3], ⟨v1, v2, v3, _⟩ =>
      obtain ⟨rfl, r1⟩ := VR.int v1
      obtain ⟨rfl, r2⟩ := VR.int v2
      obtain ⟨rfl, r3⟩ := VR.int v3
      have r1 : 0 ≤ x ∧ x ≤ 18446744073709551615 := r1
      have r2 : 0 ≤ y ∧ y ≤ 18446744073709551615 := r2
      have r3 : 0 ≤ c ∧ c ≤ 18446744073709551615 := r3
      refine ⟨_, call x y c r1 r2 ⟨r3.1, h1⟩ w, ?_⟩
      refine ⟨[_, _], ⟨_, [_], ⟨?_, rfl⟩, ⟨_, [], ⟨?_, rfl⟩, rfl, rfl⟩, rfl⟩, rfl⟩
      · show 0 ≤ ((x + y + c) % 18446744073709551616) ∧ ((x + y + c) % 18446744073709551616) ≤ 18446744073709551615
        omega
      · show 0 ≤ ((x + y + c) / 18446744073709551616) ∧ ((x + y + c) / 18446744073709551616) ≤ 18446744073709551615
        omega
  · cases h
end lib_add64

/-! math/bits.Sub64 -/
namespace lib_sub64
def go {R : Type} (args : List AVal) (H : Heap) (K : AVal → List (Nat × Blk) → List Blk → List Nat → Option R) : Option R := match args with
  | [.int .u64 x, .int .u64 y, .int .u64 c] => gk (decide (c ≤ 1)) (K (.tup (.pair (.int .u64 ((x - y - c) % 18446744073709551616)) (.pair (.int .u64 (if x < y + c then 1 else 0)) .nil))) [] [] [])
  | _ => none
def ct : Ct where
  f := 112
  run := fun k args H n K => go args H K
theorem call (x y c : Int) (hx : 0 ≤ x ∧ x ≤ 18446744073709551615) (hy : 0 ≤ y ∧ y ≤ 18446744073709551615) (hc : 0 ≤ c ∧ c ≤ 1) (w : World) :
    (callFunc 112 #[.int .u64 x, .int .u64 y, .int .u64 c]).run Tryz.prog w = .ok (.value (.tuple #[.int .u64 ((x - y - c) % 18446744073709551616), .int .u64 (if x < y + c then 1 else 0)])) w := by
    rw [run_callFunc_extern Tryz.func112 (by kernel_rfl) (by kernel_rfl) (by kernel_rfl) (e := sub64Entry) (by kernel_rfl)]
    have e := run_sub64 (P := Tryz.prog) x.toNat y.toNat c.toNat (by omega) w
    rw [show ((x.toNat : Nat) : Int) = x by omega, show ((y.toNat : Nat) : Int) = y by omega, show ((c.toNat : Nat) : Int) = c by omega] at e
    rw [e]
    have e1 : (((x.toNat + 18446744073709551616 - y.toNat - c.toNat) % 18446744073709551616 : Nat) : Int) = (x - y - c) % 18446744073709551616 := by omega
    have e2 : ((if x.toNat < y.toNat + c.toNat then 1 else 0 : Nat) : Int) = if x < y + c then 1 else 0 := by
      by_cases hh : x < y + c
      · rw [if_pos hh, if_pos (by omega)]; rfl
      · rw [if_neg hh, if_neg (by omega)]; rfl
    rw [e1, e2]
    rfl
theorem snd (k : Nat) : Snd Tryz.prog cfg k ct := by
  intro R args H n K r h
  replace h : go args H K = some r := h
  unfold go at h
  split at h
  · rename_i x y c
    obtain ⟨h1, h2⟩ := gk_spec h
    have h1 : c ≤ 1 := of_decide_eq_true h1
    refine ⟨_, _, _, _, h2, .extern (fun b hb => (by cases hb)) (by kernel_rfl) ?_⟩
    intro σ w cs hv
    match cs, hv with
    | [c1, c2, c3], ⟨v1, v2, v3, _⟩ =>
      obtain ⟨rfl, r1⟩ := VR.int v1
      obtain ⟨rfl, r2⟩ := VR.int v2
      obtain ⟨rfl, r3⟩ := VR.int v3
      have r1 : 0 ≤ x ∧ x ≤ 18446744073709551615 := r1
      have r2 : 0 ≤ y ∧ y ≤ 18446744073709551615 := r2
      have r3 : 0 ≤ c ∧ c ≤ 18446744073709551615 := r3
      refine ⟨_, call x y c r1 r2 ⟨r3.1, h1⟩ w, ?_⟩
      refine ⟨[_, _], ⟨_, [_], ⟨?_, rfl⟩, ⟨_, [], ⟨?_, rfl⟩, rfl, rfl⟩, rfl⟩, rfl⟩
      · show 0 ≤ ((x - y - c) % 18446744073709551616) ∧ ((x - y - c) % 18446744073709551616) ≤ 18446744073709551615
        omega
      · show 0 ≤ (if x < y + c then 1 else 0) ∧ (if x < y + c then 1 else 0) ≤ 18446744073709551615
        split <;> omega
  · cases h
end lib_sub64
end Go.Proofs.YtaakccdfgejgpaaGreatDoor
