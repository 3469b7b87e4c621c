/-
  What a function's model comes to, whatever the fuel from some number on.
-/
import Derived.Test.YtaakccdfgejgpaaGreatDoorAbsW
import Derived.Laws.BitsAllLaws
import Derived.Laws.BitsLemmas
import Derived.IntWalk
namespace Go.Proofs.YtaakccdfgejgpaaGreatDoor.Abs
open Go
set_option linter.unusedVariables false

def Ev {β : Type} (f : Nat → Option β) (r : β) : Prop := ∃ B, ∀ k, B ≤ k → f k = some r
section
variable {α β : Type} {f g : Nat → Option β} {r r' : β}
theorem Ev.ret : Ev (fun _ => some r) r := ⟨0, fun _ _ => rfl⟩
theorem Ev.ret' (e : r = r') : Ev (fun _ => some r) r' := e ▸ Ev.ret
theorem Ev.to (h : Ev f r) (e : r = r') : Ev f r' := e ▸ h
theorem Ev.bind {h : Nat → Option α} {a : α} {q : Nat → α → Option β} (h1 : Ev h a) (h2 : Ev (fun k => q k a) r) : Ev (fun k => bindO (h k) (q k)) r := by
  obtain ⟨B, hB⟩ := h1
  obtain ⟨D, hD⟩ := h2
  refine ⟨max B D, fun k hk => ?_⟩
  show bindO (h k) (q k) = some r
  rw [hB k (by omega)]
  exact hD k (by omega)
theorem Ev.gk {c : Bool} (hc : c = true) (h : Ev f r) : Ev (fun k => gk c (f k)) r := by subst hc; exact h
theorem Ev.tt {c : Bool} (hc : c = true) (h : Ev f r) : Ev (fun k => bif c then f k else g k) r := by subst hc; exact h
theorem Ev.ff {c : Bool} (hc : c = false) (h : Ev g r) : Ev (fun k => bif c then f k else g k) r := by subst hc; exact h
theorem Ev.bif {c : Bool} (h1 : c = true → Ev f r) (h2 : c = false → Ev g r) : Ev (fun k => bif c then f k else g k) r := by
  cases c
  · exact h2 rfl
  · exact h1 rfl
theorem Ev.succ (h : Ev f r) (e : ∀ k, g (k + 1) = f k) : Ev g r := by
  obtain ⟨B, hB⟩ := h
  refine ⟨B + 1, fun k hk => ?_⟩
  obtain ⟨j, rfl⟩ : ∃ j, k = j + 1 := ⟨k - 1, by omega⟩
  rw [e]
  exact hB j (by omega)
theorem Ev.get (h : Ev f r) : ∃ k, f k = some r := by
  obtain ⟨B, hB⟩ := h
  exact ⟨B, hB B (Nat.le_refl _)⟩
theorem Ev.uniq (h : Ev f r) (h' : Ev f r') : r = r' := by
  obtain ⟨B, hB⟩ := h
  obtain ⟨D, hD⟩ := h'
  have h1 := hB (max B D) (by omega)
  have h2 := hD (max B D) (by omega)
  rw [h1] at h2
  exact Option.some.inj h2
end

/-! ### Numbers -/
theorem w64 {n : Int} (h0 : -9223372036854775808 ≤ n) (h1 : n ≤ 9223372036854775807) : IntKind.i64.wrap n = n := IntWalk.i64_in n ⟨h0, h1⟩
theorem w32 {n : Int} (h0 : -2147483648 ≤ n) (h1 : n ≤ 2147483647) : IntKind.i32.wrap n = n := IntWalk.i32_in n ⟨h0, h1⟩
theorem w8 {n : Int} (h0 : 0 ≤ n) (h1 : n ≤ 255) : IntKind.u8.wrap n = n := IntWalk.u8_in n ⟨h0, h1⟩
theorem u8_lt (b : UInt8) : b.toNat < 256 := b.toNat_lt
theorem byt_lo (l : List UInt8) (i : Int) : 0 ≤ byt l i := by unfold byt; omega
theorem byt_hi (l : List UInt8) (i : Int) : byt l i < 256 := by unfold byt; have := u8_lt (l.getD i.toNat 0); omega
theorem toU8_val (x : Int) (h : 0 ≤ x) (h' : x < 256) : ((toU8 x).toNat : Int) = x := by
  unfold toU8
  simp only [Nat.toUInt8, UInt8.toNat_ofNat']
  omega
theorem toU8_byt (b : UInt8) : toU8 (b.toNat : Int) = b := by
  unfold toU8
  simp
theorem toU8_inj {x y : Int} (h : 0 ≤ x) (h' : x < 256) (k : 0 ≤ y) (k' : y < 256) : toU8 x = toU8 y ↔ x = y := by
  constructor
  · intro e
    have := congrArg (fun b : UInt8 => (b.toNat : Int)) e
    simp only [toU8_val x h h', toU8_val y k k'] at this
    exact this
  · rintro rfl; rfl
theorem inB_iff {i : Int} {n : Nat} : inB i n = true ↔ 0 ≤ i ∧ i < (n : Int) := by simp [inB]
theorem cutB_iff {lo hi : Int} {n : Nat} : cutB lo hi n = true ↔ 0 ≤ lo ∧ lo ≤ hi ∧ hi ≤ (n : Int) := by simp [cutB]
theorem room_iff {n : Nat} : room n = true ↔ n < 2147483648 := by simp [room]
theorem roomS_iff {a b : List UInt8} : roomS a b = true ↔ a.length + b.length < 4611686018427387904 := by simp [roomS]
theorem cut_lenI {α : Type} (l : List α) (a b : Int) (h0 : 0 ≤ a) (h1 : a ≤ b) (h2 : b ≤ (l.length : Int)) : ((cut l a b).length : Int) = b - a := by
  unfold cut
  simp only [List.length_drop, List.length_take]
  omega
theorem cut_byt (l : List UInt8) (a b i : Int) (h0 : 0 ≤ a) (h1 : a ≤ b) (h2 : b ≤ (l.length : Int)) (hi : 0 ≤ i) (hi' : i < b - a) : byt (cut l a b) i = byt l (a + i) := by
  unfold byt cut
  simp only [List.getD_eq_getElem?_getD, List.getElem?_drop, List.getElem?_take]
  rw [if_pos (by omega)]
  have : a.toNat + i.toNat = (a + i).toNat := by omega
  rw [this]
theorem cut_cut {α : Type} (l : List α) (a b c d : Int) (h0 : 0 ≤ a) (h1 : a ≤ b) (hc : 0 ≤ c) (h2 : c ≤ d) (h3 : d ≤ b - a) : cut (cut l a b) c d = cut l (a + c) (a + d) := by
  unfold cut
  rw [List.take_drop, List.drop_drop, List.take_take]
  have e1 : min (a.toNat + d.toNat) b.toNat = (a + d).toNat := by omega
  have e2 : a.toNat + c.toNat = (a + c).toNat := by omega
  rw [e1, e2]
theorem cut_all {α : Type} (l : List α) : cut l 0 (l.length : Int) = l := by simp [cut]
theorem byt_nat (l : List UInt8) (i : Nat) (h : i < l.length) : byt l (i : Int) = ((l[i]).toNat : Int) := by
  unfold byt
  simp [List.getD_eq_getElem?_getD, h]
theorem or_low (a b i : Nat) (h : b < 2 ^ i) : a * 2 ^ i ||| b = a * 2 ^ i + b := by
  have := Nat.shiftLeft_add_eq_or_of_lt h a
  rw [Nat.shiftLeft_eq] at this
  exact this.symm
theorem and_mask (a n : Nat) : a &&& (2 ^ n - 1) = a % 2 ^ n := Nat.and_two_pow_sub_one_eq_mod a n
end Go.Proofs.YtaakccdfgejgpaaGreatDoor.Abs
