/-
  Labels are put into a function's given code.
-/
import Derived.Test.YtaakccdfgejgpaaGreatDoorAbsZ
namespace Go.Proofs.YtaakccdfgejgpaaGreatDoor.Abs
open Go
set_option linter.unusedVariables false

abbrev Anns := List (Nat × Nat × Keep)
def alk : Anns → Nat → Option (Nat × Keep)
  | [], _ => none
  | (j, x) :: r, i => match Nat.beq j i with
    | true => some x
    | false => alk r i
/-- Sequences and loops are numbered from the outside, from the left. -/
def annot (l : Anns) : Code → Nat → Option (ACode × Nat)
  | .skip, i => some (.skip, i)
  | .ret, i => some (.ret, i)
  | .exit id, i => some (.exit id, i)
  | .region id ops draw, i => some (.region id ops.toList draw, i)
  | .seq a b, i => match annot l a (i + 1) with
    | some (a', i1) => match annot l b i1 with
      | some (b', i2) => match alk l i with
        | some (j, keep) => some (.cut j keep a' b', i2)
        | none => some (.seq a' b', i2)
      | none => none
    | none => none
  | .cond c a b, i => match annot l a i with
    | some (a', i1) => match annot l b i1 with
      | some (b', i2) => some (.cond c a' b', i2)
      | none => none
    | none => none
  | .block id a, i => match annot l a i with
    | some (a', i1) => some (.block id a', i1)
    | none => none
  | .loop a, i => match annot l a (i + 1) with
    | some (a', i1) => match alk l i with
      | some (j, keep) => some (.loop j keep a', i1)
      | none => none
    | none => none
  | _, _ => none
theorem annot_erase {l : Anns} : ∀ {c : Code} {i i' : Nat} {a : ACode}, annot l c i = some (a, i') → a.erase = c := by
  intro c
  induction c with
  | skip => intro i i' a h; cases h; rfl
  | ret => intro i i' a h; cases h; rfl
  | exit id => intro i i' a h; cases h; rfl
  | region id ops draw => intro i i' a h; cases h; simp [ACode.erase]
  | seq x y ihx ihy =>
    intro i i' a h
    simp only [annot] at h
    split at h
    · rename_i h1
      split at h
      · rename_i h2
        split at h
        · cases h; simp only [ACode.erase, ihx h1, ihy h2]
        · cases h; simp only [ACode.erase, ihx h1, ihy h2]
      · cases h
    · cases h
  | cond c x y ihx ihy =>
    intro i i' a h
    simp only [annot] at h
    split at h
    · rename_i h1
      split at h
      · rename_i h2
        cases h; simp only [ACode.erase, ihx h1, ihy h2]
      · cases h
    · cases h
  | block id x ih =>
    intro i i' a h
    simp only [annot] at h
    split at h
    · rename_i h1; cases h; simp only [ACode.erase, ih h1]
    · cases h
  | loop x ih =>
    intro i i' a h
    simp only [annot] at h
    split at h
    · rename_i h1
      split at h
      · cases h; simp only [ACode.erase, ih h1]
      · cases h
    · cases h
  | _ => intro i i' a h; cases h

def codeO (fn : Func) (l : Anns) : Option ACode := match fn.body with
  | some c => match annot l c 0 with
    | some (a, _) => some a
    | none => none
  | none => none
def codeOf (fn : Func) (l : Anns) : ACode := match codeO fn l with
  | some a => a
  | none => .skip
theorem codeOf_spec {fn : Func} {l : Anns} (h : (codeO fn l).isSome = true) : fn.body = some (codeOf fn l).erase := by
  unfold codeOf
  unfold codeO at *
  cases hb : fn.body with
  | none => rw [hb] at h; cases h
  | some c =>
    rw [hb] at h
    simp only at h ⊢
    cases ha : annot l c 0 with
    | none => rw [ha] at h; cases h
    | some x =>
      obtain ⟨a, i⟩ := x
      simp only
      rw [annot_erase ha]
theorem FnOk.of {P : Program} {C : Cfg} {f n : Nat} {fn : Func} {l : Anns} {rs : List ResultVar} (h1 : P.funcs[f]? = some fn) (h2 : (codeO fn l).isSome = true) (h3 : fn.ntmps = n) (h4 : fn.results = rs.toArray) (h5 : entersB P f = true) (h6 : nodupL (0 :: Abs.labels (codeOf fn l)) = true) (h7 : Nat.ble rs.length 4 = true) : FnOk P C f n (codeOf fn l) rs :=
  ⟨⟨fn, h1, codeOf_spec h2, h3, h4⟩, h5, h6, h7⟩
end Go.Proofs.YtaakccdfgejgpaaGreatDoor.Abs
