/-
  Library functions: contracts.
-/
import Derived.Test.YtjgjbdphjccpcaaDoorGTy
import Derived.Test.YtjgjbdphjccpcaaDoorAbsZc
import Derived.Test.YtjgjbdphjccpcaaDoorIs
import Derived.Test.YtjgjbdphjccpcaaDoorShelf
namespace Go.Proofs.YtjgjbdphjccpcaaDoor
open Go Abs
set_option linter.unusedVariables false

/-! errors.Is -/
namespace lib_is
def go {R : Type} (args : List AVal) (H : Heap) (K : AVal → List (Nat × Blk) → List Blk → List Nat → Option R) : Option R := match args with
  | [.err e, .err (.no c)] => gk (isNo e) (K (.bool (errNo e == c)) [] [] [])
  | _ => none
def ct : Ct where
  f := 27
  run := fun k args H n K => go args H K
theorem snd (k : Nat) : Snd Tryd.prog cfg k ct := by
  intro R args H n K r h
  replace h : go args H K = some r := h
  unfold go at h
  split at h
  · rename_i e c
    obtain ⟨h1, h2⟩ := gk_spec h
    refine ⟨_, _, _, _, h2, .pure (fun b hb => (by cases hb)) (by kernel_rfl) ?_⟩
    rintro F G w0 σ Hc w cs _ hh hv
    match cs, hv with
    | [c1, c2], ⟨v1, v2, _⟩ =>
      cases e with
      | nil => cases h1
      | at_ _ _ => cases h1
      | no a =>
        obtain ⟨rfl, _⟩ := VR.err v1
        obtain ⟨rfl, _⟩ := VR.err v2
        refine (is.no a c w).mono ?_
        rintro e w' ⟨rfl, rfl⟩
        exact ⟨_, rfl, .refl _ _, rfl⟩
  · cases h
end lib_is

/-! strings.Contains, of one byte -/
namespace lib_contains
def go {R : Type} (args : List AVal) (H : Heap) (K : AVal → List (Nat × Blk) → List Blk → List Nat → Option R) : Option R := match args with
  | [.str s, .str [c]] => K (.bool (decide (0 ≤ Lib.indexByte s c))) [] [] []
  | _ => none
def ct : Ct where
  f := 23
  run := fun k args H n K => go args H K
theorem snd (k : Nat) : Snd Tryd.prog cfg k ct := by
  intro R args H n K r h
  replace h : go args H K = some r := h
  unfold go at h
  split at h
  · rename_i s c
    refine ⟨_, _, _, _, h, .pure (fun b hb => (by cases hb)) (by kernel_rfl) ?_⟩
    rintro F G w0 σ Hc w cs _ hh hv
    match cs, hv with
    | [c1, c2], ⟨v1, v2, _⟩ =>
      cases VR.str v1
      cases VR.str v2
      refine (Tryd.strings_Contains_one (mk s) c w).mono ?_
      rintro e w' ⟨rfl, rfl⟩
      exact ⟨_, rfl, .refl _ _, rfl⟩
  · cases h
end lib_contains

/-! strings.ReplaceAll -/
namespace lib_replace
def ok (s old new : List UInt8) : Bool := Nat.blt s.length 4294967281 && (Nat.blt 0 old.length && (Nat.ble (s.length + Lib.countB (mk s) (mk old) * new.length) 140737488355328 && Nat.blt (Lib.replaceAll s old new).length 4611686018427387904))
def go {R : Type} (args : List AVal) (H : Heap) (K : AVal → List (Nat × Blk) → List Blk → List Nat → Option R) : Option R := match args with
  | [.str s, .str old, .str new] => gk (ok s old new) (K (.str (Lib.replaceAll s old new)) [] [] [])
  | _ => none
def ct : Ct where
  f := 24
  run := fun k args H n K => go args H K
theorem snd (k : Nat) : Snd Tryd.prog cfg k ct := by
  intro R args H n K r h
  replace h : go args H K = some r := h
  unfold go at h
  split at h
  · rename_i s old new
    obtain ⟨h1, h2⟩ := gk_spec h
    refine ⟨_, _, _, _, h2, .pure (fun b hb => (by cases hb)) (by kernel_rfl) ?_⟩
    rintro F G w0 σ Hc w cs _ hh hv
    simp only [ok, Bool.and_eq_true, Nat.blt_eq] at h1
    obtain ⟨g1, g2, g3, g4⟩ := h1
    have g3 := Nat.le_of_ble_eq_true g3
    obtain ⟨_, _, w1, m, e1, e2⟩ := hh.gl.at_ hh.bx _ (List.mem_singleton.2 rfl)
    match cs, hv with
    | [c1, c2, c3], ⟨v1, v2, v3, _⟩ =>
      cases VR.str v1
      cases VR.str v2
      cases VR.str v3
      refine (Tryd.strings_ReplaceAll (mk s) (mk old) (mk new) m w g1 ?_ g2 g3).mono ?_
      · rw [← e2]; exact World.cell?_of_block e1
      · rintro e w' ⟨rfl, hb⟩
        exact ⟨_, rfl, hb, g4, rfl⟩
  · cases h
end lib_replace

/-! bytes.IndexByte -/
theorem indexByte_lt : ∀ (l : List UInt8) (c : UInt8), Lib.indexByte l c < (l.length : Int) ∨ Lib.indexByte l c = -1
  | [], c => .inr rfl
  | b :: l, c => by
    unfold Lib.indexByte
    simp only [List.length_cons, Int.natCast_succ]
    rcases indexByte_lt l c with h | h
    · split
      · left; omega
      · split
        · right; rfl
        · left; omega
    · rw [h]
      split
      · left; omega
      · right; rfl
theorem bytesOf_nums (l : List UInt8) : Lib.bytesOf (l.map fun x => (x.toNat : Int)) = l := by
  induction l with
  | nil => rfl
  | cons x r ih =>
    simp only [Lib.bytesOf, List.map_cons, List.map_map] at ih ⊢
    rw [ih]
    simp
namespace lib_indexByte
def go {R : Type} (args : List AVal) (H : Heap) (K : AVal → List (Nat × Blk) → List Blk → List Nat → Option R) : Option R := match args with
  | [.slice b g v, .int .u8 c] => match Abs.rowAt H b g with
    | some (_, _, q) => match u8Of (vw v q) with
      | some l => K (.int .i64 (Lib.indexByte l (toU8 c))) [] [] [b]
      | none => none
    | none => none
  | _ => none
def ct : Ct where
  f := 44
  run := fun k args H n K => go args H K
theorem snd (k : Nat) : Snd Tryd.prog cfg k ct := by
  intro R args H n K r h
  replace h : go args H K = some r := h
  unfold go at h
  split at h
  · rename_i b g v c
    split at h
    · rename_i e own q hr
      split at h
      · rename_i l hl
        refine ⟨_, _, _, _, h, .pure (fun i hi => ?_) (by kernel_rfl) ?_⟩
        · simp only [List.mem_singleton] at hi
          subst hi
          unfold Abs.rowAt at hr
          cases hd : hget H i with
          | dead => rw [hd] at hr; cases hr
          | var _ _ _ => rw [hd] at hr; cases hr
          | row _ _ _ _ _ => rfl
        · rintro F G w0 σ Hc w cs hag hh hv
          have hr' : Abs.rowAt Hc b g = some (e, own, q) := by rw [← hr]; simp only [Abs.rowAt, hag b (List.mem_singleton.2 rfl)]
          match cs, hv with
          | [c1, c2], ⟨v1, v2, _⟩ =>
            obtain ⟨rfl, _⟩ := VR.int v2
            have hq : ∃ l0, q = .u8 l0 := by
              have := vw_like v q
              cases hvq : vw v q with
              | u8 m => rw [hvq] at this; cases q <;> simp [Sq.like] at this; exact ⟨_, rfl⟩
              | int _ _ => rw [hvq] at hl; cases hl
              | str _ => rw [hvq] at hl; cases hl
              | bool _ => rw [hvq] at hl; cases hl
              | tok _ => rw [hvq] at hl; cases hl
            obtain ⟨l0, rfl⟩ := hq
            have hmax : l.length < maxL := by
              obtain ⟨pl, A, len, cap, ver, _, q1, q2, q3, q4, q5, q6⟩ := hh.slice v1 hr'
              have h1 := vok_le q5.1
              have h2 := q4.2.2.2.2.2.2.2.1
              have h3 := q4.2.1
              have h4 := q5.2.1
              have h5 : (vw v (.u8 l0)).len = l.length := by
                cases hvq : vw v (.u8 l0) with
                | u8 m => rw [hvq] at hl; cases hl; rfl
                | int _ _ => rw [hvq] at hl; cases hl
                | str _ => rw [hvq] at hl; cases hl
                | bool _ => rw [hvq] at hl; cases hl
                | tok _ => rw [hvq] at hl; cases hl
              omega
            obtain ⟨l', A, len, cap, k1, rfl, k2, k3, k4⟩ := u8_reads hh v1 hr'
            rw [k1] at hl
            cases hl
            have hrng : Rng .i64 (Lib.indexByte l (toU8 c)) := by
              have h1 := Lib.indexByte_ge l (toU8 c)
              have h2 := indexByte_lt l (toU8 c)
              show -9223372036854775808 ≤ Lib.indexByte l (toU8 c) ∧ Lib.indexByte l (toU8 c) ≤ 9223372036854775807
              unfold maxL at hmax
              rcases h2 with h2 | h2 <;> omega
            cases A with
            | none =>
              have : l = [] := by
                cases l with
                | nil => rfl
                | cons x r => obtain ⟨_, hA, _⟩ := k3 0 x rfl; cases hA
              subst this
              have hc := k4 rfl
              simp only [List.length_nil] at k2
              subst k2
              subst hc
              refine (Tryd.bytes_IndexByte_nil c w).mono ?_
              rintro e w' ⟨rfl, rfl⟩
              exact ⟨_, rfl, .refl _ _, hrng, rfl⟩
            | some a =>
              refine (Tryd.bytes_IndexByte_at a len cap (l.map fun x => (x.toNat : Int)) c w (by simp [k2]) (fun i hi => ?_)).mono ?_
              · have hlt : i < l.length := by omega
                obtain ⟨ad, ha, hcell⟩ := k3 i l[i] (List.getElem?_eq_getElem hlt)
                cases ha
                rw [hcell]
                simp [List.getD_eq_getElem?_getD, hlt]
              · rintro e w' ⟨rfl, rfl⟩
                rw [bytesOf_nums]
                exact ⟨_, rfl, .refl _ _, hrng, rfl⟩
      · cases h
    · cases h
  · cases h
end lib_indexByte
end Go.Proofs.YtjgjbdphjccpcaaDoor
