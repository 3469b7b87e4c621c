/-
  From functions to contracts: definitions.
-/
import Derived.Test.YtaakccdfgejgpaaGreatDoorAbsV
namespace Go.Proofs.YtaakccdfgejgpaaGreatDoor.Abs
open Go
set_option linter.unusedVariables false

/-- Where a block that a function is handed comes from. -/
inductive Src where
  | nil
  | nilo
  | row (b g : Nat) (u : Vw)
  | own (b : Nat)
  | var (b : Nat)
abbrev ViewR := Option (AVal × Heap × List Src)
/-- What a function is handed, as a memory of its own. -/
def viewV (tt : Tab) (H : Heap) (own : Bool) : Nat → AVal → List Nat → Heap → List Src → ViewR
  | 0, _, _, _, _ => none
  | d + 1, v, ts, H0, ss => match v with
    | .pair a r => match viewV tt H own d a [hd0 ts] H0 ss with
      | some (a', H1, s1) => match viewV tt H own d r ts.tail H1 s1 with
        | some (r', H2, s2) => some (.pair a' r', H2, s2)
        | none => none
      | none => none
    | .agg p => match viewV tt H own d p (tysS tt (hd0 ts)) H0 ss with
      | some (p', H1, s1) => some (.agg p', H1, s1)
      | none => none
    | .fn f a c => match viewV tt H own d a [] H0 ss with
      | some (a', H1, s1) => match viewV tt H own d c [] H1 s1 with
        | some (c', H2, s2) => some (.fn f a' c', H2, s2)
        | none => none
      | none => none
    | .nils => match elemOf tt (hd0 ts) with
      | some e => match zq tt e with
        | some z => some (.slice H0.length 1 .all, H0 ++ [.row 0 1 own e z], ss ++ [match own with
          | true => .nilo
          | false => .nil])
        | none => none
      | none => none
    | .slice b g u => match hget H b with
      | .row _ g' ow e s => match Nat.beq g g', own with
        | true, false => some (.slice H0.length 1 .all, H0 ++ [.row 0 1 false e (vw u s)], ss ++ [.row b g u])
        | true, true => match ow, pre u with
          | true, true => some (.slice H0.length 1 .all, H0 ++ [.row 0 1 true e (vw u s)], ss ++ [.own b])
          | _, _ => none
        | _, _ => none
      | _ => none
    | .ptr b g p => match Nat.beq g 1, hget H b with
      | true, .var _ T u => match viewV tt H own d u [T] H0 ss with
        | some (u', H1, s1) => match fit1 tt u' T with
          | true => some (.ptr H1.length 1 p, H1 ++ [.var 0 T u'], s1 ++ [.var b])
          | false => none
        | none => none
      | _, _ => none
    | .tup _ => none
    | _ => some (v, H0, ss)
def viewL (tt : Tab) (H : Heap) : List (Nat × Bool) → List AVal → Heap → List Src → Option (List AVal × Heap × List Src)
  | [], [], H0, ss => some ([], H0, ss)
  | (t, own) :: r, v :: vs, H0, ss => match viewV tt H own 40 v [t] H0 ss with
    | some (v', H1, s1) => match viewL tt H r vs H1 s1 with
      | some (l, H2, s2) => some (v' :: l, H2, s2)
      | none => none
    | none => none
  | _, _, _, _ => none

def Src.id : Src → List Nat
  | .nil => []
  | .nilo => []
  | .row b _ _ => [b]
  | .own b => [b]
  | .var b => [b]
def Src.mine : Src → List Nat
  | .own b => [b]
  | .var b => [b]
  | _ => []
def srcIds : List Src → List Nat
  | [] => []
  | s :: r => s.id ++ srcIds r
/-- What is handed over is handed over once. -/
def ssOk : List Src → Bool
  | [] => true
  | s :: r => apartL s.mine (srcIds r) && (r.all (fun q => apartL q.mine s.id) && ssOk r)

def comp (u : Vw) : Vw → Vw
  | .all => u
  | .cut v lo hi => .cut (comp u v) lo hi
def srcAt : List Src → Nat → Option Src
  | [], _ => none
  | s :: _, 0 => some s
  | _ :: r, i + 1 => srcAt r i
/-- A value of the function's, as one of the caller's. -/
def trV (kp : Bool) (np n : Nat) (ss : List Src) : AVal → Option AVal
  | .ptr b g p => match Nat.blt b np with
    | true => match srcAt ss b, Nat.beq g 1 with
      | some (.var b'), true => some (.ptr b' 1 p)
      | _, _ => none
    | false => some (.ptr (Nat.add n (Nat.sub b np)) g p)
  | .slice b g u => match Nat.blt b np with
    | true => match kp, srcAt ss b, Nat.beq g 1 with
      | true, some (.row b' g' u'), true => some (.slice b' g' (comp u' u))
      | true, some .nil, true => some .nils
      | _, _, _ => none
    | false => some (.slice (Nat.add n (Nat.sub b np)) g u)
  | .fn f a c => match trV kp np n ss a, trV kp np n ss c with
    | some a', some c' => some (.fn f a' c')
    | _, _ => none
  | .pair a r => match trV kp np n ss a, trV kp np n ss r with
    | some a', some r' => some (.pair a' r')
    | _, _ => none
  | .agg p => match trV kp np n ss p with
    | some p' => some (.agg p')
    | none => none
  | .tup p => match trV kp np n ss p with
    | some p' => some (.tup p')
    | none => none
  | v => some v
def flatB : Blk → Bool
  | .row _ g own _ _ => own && Nat.beq g 1
  | .var _ _ v => v.ids.isEmpty
  | .dead => false
/-- What the function leaves of the blocks that it was handed. -/
def backB (tt : Tab) (kp : Bool) (np n : Nat) (ss : List Src) (vars : List (Nat × Nat × AVal)) : Option (List (Nat × Blk)) := go ss 0
where
  find : List (Nat × Nat × AVal) → Nat → Option (Nat × AVal)
    | [], _ => none
    | (j, T, u) :: r, i => match Nat.beq j i with
      | true => some (T, u)
      | false => find r i
  go : List Src → Nat → Option (List (Nat × Blk))
    | [], _ => some []
    | s :: r, i => match go r (i + 1) with
      | none => none
      | some l => match s with
        | .nil => some l
        | .nilo => some l
        | .row _ _ _ => some l
        | .own b => some ((b, .dead) :: l)
        | .var b => match find vars i with
          | none => none
          | some (T, u) => match trV kp np n ss u with
            | some u' => match fit1 tt u' T with
              | true => some ((b, .var 0 T u') :: l)
              | false => none
            | none => none
def bindO {α R : Type} : Option α → (α → Option R) → Option R
  | some a, f => f a
  | none, _ => none
/-- A result as the caller gets it: its value, the variables handed in, what is new. -/
abbrev Out := AVal × List (Nat × Nat × AVal) × List Blk
/-- A result's ways: whatever goes on with it. -/
abbrev EncK (β : Type) := (R : Type) → β → (Out → Option R) → Option R
def callRun {α β : Type} (tt : Tab) (ps : List (Nat × Bool)) (decA : List AVal → Heap → Option α) (m : Nat → α → Option β) (kp : Bool) (encK : EncK β) {R : Type} (k : Nat) (args : List AVal) (H : Heap) (n : Nat) (K : AVal → List (Nat × Blk) → List Blk → List Nat → Option R) : Option R :=
  match viewL tt H ps args [] [] with
  | none => none
  | some (xs, H0, ss) => match ssOk ss, decA xs H0 with
    | true, some a => bindO (m k a) fun b => encK R b fun o => match trV kp ss.length n ss o.1, backB tt kp ss.length n ss o.2.1, o.2.2.all flatB with
      | some v, some bs, true => K v bs o.2.2 (srcIds ss)
      | _, _, _ => none
    | _, _ => none

/-- What a function ends with, in one form. -/
def canonP (tt : Tab) (np : Nat) : List Nat → Heap → List (Nat × Nat) → Option (Heap × List (Nat × Nat))
  | [], H, m => some (H, m)
  | j :: r, H, m => match canonV tt np false false 40 (.ptr j 1 []) [] H m with
    | some (_, H1, m1) => canonP tt np r H1 m1
    | none => none
def canE (tt : Tab) (np : Nat) (kp : Bool) (ts vps : List Nat) (v : AVal) (H : Heap) : Option (AVal × Heap) := match Nat.ble np H.length with
  | false => none
  | true => match canonV tt np false kp 40 v ts H [] with
    | none => none
    | some (v1, H1, m1) => match canonP tt np vps H1 m1 with
      | none => none
      | some (H2, _) => match v1.ren np H.length, renH tt np H.length (H2.take np ++ H2.drop H.length) with
        | some v', some H' => some (v', H')
        | _, _ => none
/-- Are these blocks rows still as they were handed over? -/
def rowsAt (H : Heap) : List Nat → Bool
  | [] => true
  | j :: r => (match hget H j with
    | .row _ g _ _ _ => Nat.beq g 1
    | _ => false) && rowsAt H r
/-- Are all blocks but these the function's own? -/
def viewsIn (vws : List Nat) : Nat → Heap → Bool
  | _, [] => true
  | i, x :: r => (x.own || natIn i vws) && viewsIn vws (i + 1) r
def kFin {β : Type} (tt : Tab) (np : Nat) (kp : Bool) (ts vps vws : List Nat) (decB : AVal → Heap → Option β) (v : AVal) (H : Heap) : Option β := match canE tt np kp ts vps v H with
  | some (v', H') => match kp, rowsAt H' vws with
    | true, false => none
    | _, _ => decB v' H'
  | none => none
/-- What reading a result back means. -/
def BackOk {β : Type} (np : Nat) (vps : List Nat) (decB : AVal → Heap → Option β) (encB : β → Out) : Prop := ∀ v H b, decB v H = some b → (encB b).1 = v ∧ (∀ j T u, (j, T, u) ∈ (encB b).2.1 → hget H j = .var 0 T u) ∧ H.drop np = (encB b).2.2
end Go.Proofs.YtaakccdfgejgpaaGreatDoor.Abs
