/-
  Functions of the program as Lean functions with fuel; their contracts. Written by a program of this session.
-/
import Derived.Test.YtaakccdfgejgpaaGreatDoorG1b
namespace Go.Proofs.YtaakccdfgejgpaaGreatDoor
open Go Abs
set_option linter.unusedVariables false
set_option maxRecDepth 100000
/-! cavil/cavilref07.trim -/
namespace cavilref07_trim
inductive St where
  | l1 (x0 : List Int) (x1 : List Int) (x2 : Bool) (x3 : Bool) (x4 : Int)
def St.lab : St → Nat
  | .l1 _ _ _ _ _ => 1
def St.fr : St → Fr
  | .l1 x0 x1 x2 x3 x4 => [(0, .bool x3), (1, .slice 0 1 .all), (4, .ptr 2 1 []), (5, .int .i64 x4)]
def St.hp : St → Heap
  | .l1 x0 x1 x2 x3 x4 => [.row 0 1 false 3 (.int .i64 x0), .row 0 1 true 3 (.int .i64 x1), .var 0 40 (.agg (.pair (.bool x2) (.pair (.slice 1 1 .all) .nil)))]
def b0 (k : Nat) (J : St → Option (Bool × Int)) (x0 : Bool) (x1 : List Int) : Option (Bool × Int) :=
  J (.l1 x1 [] false x0 (x1.length : Int))
def b1 (k : Nat) (J : St → Option (Bool × Int)) (x0 : List Int) (x1 : List Int) (x2 : Bool) (x3 : Bool) (x4 : Int) : Option (Bool × Int) :=
  bif (decide (x4 > 0)) then
    gk (inB (wr .i64 (x4 - 1)) x0.length)
      (bif ((x0.getD (wr .i64 (x4 - 1)).toNat 0) == 0) then
        J (.l1 x0 x1 x2 x3 (wr .i64 (x4 - 1)))
      else
        bif x3 then
          gk (cutB 0 x4 x0.length)
            (some ((decide (x4 > 0)), x4))
        else
          gk (cutB 0 x4 x0.length)
            (some (false, x4)))
  else
    bif x3 then
      gk (cutB 0 x4 x0.length)
        (some ((decide (x4 > 0)), x4))
    else
      gk (cutB 0 x4 x0.length)
        (some (false, x4))
def go : Nat → St → Option (Bool × Int)
  | 0, _ => none
  | k + 1, .l1 x0 x1 x2 x3 x4 => b1 k (go k) x0 x1 x2 x3 x4
def m : Nat → Bool → List Int → Option (Bool × Int)
  | 0, _, _ => none
  | k + 1, x0, x1 => b0 k (go k) x0 x1
def anns : Anns := [(3, 1, [(0, 4, true), (1, 38, true), (4, 0, true), (5, 3, true)])]
noncomputable def code : ACode := codeOf Tryz.f51 anns
def rs : List ResultVar := [.cell 4 40]
def decA : List AVal → Heap → Option (Bool × (List Int))
  | [.bool x0, .slice 0 1 .all], [.row 0 1 false 3 (.int .i64 x1)] => some (x0, x1)
  | _, _ => none
def encA (a : Bool × (List Int)) : List AVal × Heap := ([.bool a.1, .slice 0 1 .all], [.row 0 1 false 3 (.int .i64 a.2)])
def decB : AVal → Heap → Option (Bool × Int)
  | .agg (.pair (.bool y0) (.pair (.slice 0 1 (.cut .all 0 y1)) .nil)), [_] => some (y0, y1)
  | _, _ => none
def encB (b : Bool × Int) : Out := (.agg (.pair (.bool b.1) (.pair (.slice 0 1 (.cut .all 0 b.2)) .nil)), [], [])
def encK : EncK (Bool × Int) := fun _ b K => K (encB b)
def X : List Ct := []
def ct : Ct := ⟨51, callRun cfg.tt [(4, false), (38, false)] decA (fun k a => m k a.1 a.2) true encK⟩
theorem ok : FnOk Tryz.prog cfg 51 29 code rs := .of Tryz.func51 (by kernel_rfl) rfl rfl (by kernel_rfl) (by kernel_rfl) rfl
abbrev kend : KK (Bool × Int) := kEnd cfg.tt rs (kFin cfg.tt 1 true [40] [] [0] decB)
noncomputable abbrev rn := run cfg X 29 1 code kend
theorem s0 (k : Nat) (J : Nat → Fr → Heap → Option (Bool × Int)) (x0 : Bool) (x1 : List Int) : stepJ cfg X 29 1 code kend k J 0 (argFr 0 (encA (x0, x1)).1) (encA (x0, x1)).2 = b0 k (fun s => J s.lab s.fr s.hp) x0 x1 := by kernel_rfl
theorem s1 (k : Nat) (J : Nat → Fr → Heap → Option (Bool × Int)) (x0 : List Int) (x1 : List Int) (x2 : Bool) (x3 : Bool) (x4 : Int) : stepJ cfg X 29 1 code kend k J (St.l1 x0 x1 x2 x3 x4).lab (St.l1 x0 x1 x2 x3 x4).fr (St.l1 x0 x1 x2 x3 x4).hp = b1 k (fun s => J s.lab s.fr s.hp) x0 x1 x2 x3 x4 := by kernel_rfl
theorem go_ok : ∀ (k : Nat) (s : St), rn k s.lab s.fr s.hp = go k s
  | 0, _ => rfl
  | k + 1, .l1 x0 x1 x2 x3 x4 => by
    have h := s1 k (rn k) x0 x1 x2 x3 x4
    rw [show (fun s : St => rn k s.lab s.fr s.hp) = go k from funext (go_ok k)] at h
    exact h
theorem run_ok : ∀ (k : Nat) (a : Bool × (List Int)), rn k 0 (argFr 0 (encA a).1) (encA a).2 = m k a.1 a.2
  | 0, _ => rfl
  | k + 1, (x0, x1) => by
    have h := s0 k (rn k) x0 x1
    rw [show (fun s : St => rn k s.lab s.fr s.hp) = go k from funext (go_ok k)] at h
    exact h
theorem snd (k : Nat) : Snd Tryz.prog cfg k ct := fn_snd (X := X) cfgOk mixed ok (np := 1) (vps := []) (vws := [0]) (decA := decA) (encA := encA) (decB := decB) (encB := encB) (encK := encK) (fun _ b _ => rfl)
  (by
    intro xs H a h
    unfold decA at h
    split at h
    · cases h; exact ⟨rfl, rfl, rfl, rfl⟩
    · cases h)
  (by
    intro v H b h
    unfold decB at h
    split at h
    · cases h; exact ⟨rfl, fun _ _ _ h => (by cases h), rfl⟩
    · cases h)
  rfl k (fun k' _ => AllS.mem (l := X) trivial) (fun a => run_ok k a)
end cavilref07_trim

/-! cavil/cavilref07.From -/
namespace cavilref07_From
inductive St where
  | l1 (x0 : Bool) (x1 : List Int) (x2 : List Int) (x3 : Bool) (x4 : List Int) (x5 : Int)
  | l2 (x0 : Bool) (x1 : List Int) (x2 : List Int) (x3 : Bool) (x4 : List Int) (x5 : Int) (x6 : Int) (x7 : Int)
def St.lab : St → Nat
  | .l1 _ _ _ _ _ _ => 1
  | .l2 _ _ _ _ _ _ _ _ => 2
def St.fr : St → Fr
  | .l1 x0 x1 x2 x3 x4 x5 => [(1, .ptr 0 1 []), (2, .ptr 2 1 []), (3, .slice 3 1 .all), (4, .int .i64 x5)]
  | .l2 x0 x1 x2 x3 x4 x5 x6 x7 => [(1, .ptr 0 1 []), (2, .ptr 2 1 []), (3, .slice 3 1 .all), (4, .int .i64 x5), (5, .int .u64 x6), (6, .int .i64 x7)]
def St.hp : St → Heap
  | .l1 x0 x1 x2 x3 x4 x5 => [.var 0 35 (.agg (.pair (.bool x0) (.pair (.arr 8 (.int .u64 x1)) .nil))), .row 0 1 true 3 (.int .i64 x2), .var 0 40 (.agg (.pair (.bool x3) (.pair (.slice 1 1 .all) .nil))), .row 0 1 true 3 (.int .i64 x4)]
  | .l2 x0 x1 x2 x3 x4 x5 x6 x7 => [.var 0 35 (.agg (.pair (.bool x0) (.pair (.arr 8 (.int .u64 x1)) .nil))), .row 0 1 true 3 (.int .i64 x2), .var 0 40 (.agg (.pair (.bool x3) (.pair (.slice 1 1 .all) .nil))), .row 0 1 true 3 (.int .i64 x4)]
def b0 (k : Nat) (J : St → Option (Bool × (List Int))) (x0 : Bool) (x1 : List Int) : Option (Bool × (List Int)) :=
  J (.l1 x0 x1 [] false [] 0)
def b1 (k : Nat) (J : St → Option (Bool × (List Int))) (x0 : Bool) (x1 : List Int) (x2 : List Int) (x3 : Bool) (x4 : List Int) (x5 : Int) : Option (Bool × (List Int)) :=
  bif (decide (x5 < 8)) then
    gk (inB x5 8)
      (J (.l2 x0 x1 x2 x3 x4 x5 (x1.getD x5.toNat 0) 0))
  else
    bindO (cavilref07_trim.m k x0 x4) fun r1 =>
      some (r1.1, (cut x4 0 r1.2))
def b2 (k : Nat) (J : St → Option (Bool × (List Int))) (x0 : Bool) (x1 : List Int) (x2 : List Int) (x3 : Bool) (x4 : List Int) (x5 : Int) (x6 : Int) (x7 : Int) : Option (Bool × (List Int)) :=
  bif (decide (x7 < 4)) then
    gk (room (x4 ++ ([(wr .i64 (remI x6 65536))] : List Int)).length)
      (J (.l2 x0 x1 x2 x3 (x4 ++ ([(wr .i64 (remI x6 65536))] : List Int)) x5 (quoI .u64 x6 65536) (wr .i64 (x7 + 1))))
  else
    J (.l1 x0 x1 x2 x3 x4 (wr .i64 (x5 + 1)))
def go : Nat → St → Option (Bool × (List Int))
  | 0, _ => none
  | k + 1, .l1 x0 x1 x2 x3 x4 x5 => b1 k (go k) x0 x1 x2 x3 x4 x5
  | k + 1, .l2 x0 x1 x2 x3 x4 x5 x6 x7 => b2 k (go k) x0 x1 x2 x3 x4 x5 x6 x7
def m : Nat → Bool → List Int → Option (Bool × (List Int))
  | 0, _, _ => none
  | k + 1, x0, x1 => b0 k (go k) x0 x1
def anns : Anns := [(4, 1, [(1, 0, false), (2, 0, false), (3, 38, false), (4, 3, false)]), (10, 2, [(1, 0, false), (2, 0, false), (3, 38, false), (4, 3, false), (5, 32, false), (6, 3, false)])]
noncomputable def code : ACode := codeOf Tryz.f22 anns
def rs : List ResultVar := [.cell 2 40]
def decA : List AVal → Heap → Option (Bool × (List Int))
  | [.agg (.pair (.bool x0) (.pair (.arr 8 (.int .u64 x1)) .nil))], [] => some (x0, x1)
  | _, _ => none
def encA (a : Bool × (List Int)) : List AVal × Heap := ([.agg (.pair (.bool a.1) (.pair (.arr 8 (.int .u64 a.2)) .nil))], [])
def decB : AVal → Heap → Option (Bool × (List Int))
  | .agg (.pair (.bool y0) (.pair (.slice 0 1 .all) .nil)), [.row 0 1 true 3 (.int .i64 y1)] => some (y0, y1)
  | _, _ => none
def encB (b : Bool × (List Int)) : Out := (.agg (.pair (.bool b.1) (.pair (.slice 0 1 .all) .nil)), [], [.row 0 1 true 3 (.int .i64 b.2)])
def encK : EncK (Bool × (List Int)) := fun _ b K => K (encB b)
def X : List Ct := [cavilref07_trim.ct]
def ct : Ct := ⟨22, callRun cfg.tt [(35, false)] decA (fun k a => m k a.1 a.2) false encK⟩
theorem ok : FnOk Tryz.prog cfg 22 31 code rs := .of Tryz.func22 (by kernel_rfl) rfl rfl (by kernel_rfl) (by kernel_rfl) rfl
abbrev kend : KK (Bool × (List Int)) := kEnd cfg.tt rs (kFin cfg.tt 0 false [40] [] [] decB)
noncomputable abbrev rn := run cfg X 31 0 code kend
theorem s0 (k : Nat) (J : Nat → Fr → Heap → Option (Bool × (List Int))) (x0 : Bool) (x1 : List Int) : stepJ cfg X 31 0 code kend k J 0 (argFr 0 (encA (x0, x1)).1) (encA (x0, x1)).2 = b0 k (fun s => J s.lab s.fr s.hp) x0 x1 := by kernel_rfl
theorem s1 (k : Nat) (J : Nat → Fr → Heap → Option (Bool × (List Int))) (x0 : Bool) (x1 : List Int) (x2 : List Int) (x3 : Bool) (x4 : List Int) (x5 : Int) : stepJ cfg X 31 0 code kend k J (St.l1 x0 x1 x2 x3 x4 x5).lab (St.l1 x0 x1 x2 x3 x4 x5).fr (St.l1 x0 x1 x2 x3 x4 x5).hp = b1 k (fun s => J s.lab s.fr s.hp) x0 x1 x2 x3 x4 x5 := by kernel_rfl
theorem s2 (k : Nat) (J : Nat → Fr → Heap → Option (Bool × (List Int))) (x0 : Bool) (x1 : List Int) (x2 : List Int) (x3 : Bool) (x4 : List Int) (x5 : Int) (x6 : Int) (x7 : Int) : stepJ cfg X 31 0 code kend k J (St.l2 x0 x1 x2 x3 x4 x5 x6 x7).lab (St.l2 x0 x1 x2 x3 x4 x5 x6 x7).fr (St.l2 x0 x1 x2 x3 x4 x5 x6 x7).hp = b2 k (fun s => J s.lab s.fr s.hp) x0 x1 x2 x3 x4 x5 x6 x7 := by kernel_rfl
theorem go_ok : ∀ (k : Nat) (s : St), rn k s.lab s.fr s.hp = go k s
  | 0, _ => rfl
  | k + 1, .l1 x0 x1 x2 x3 x4 x5 => by
    have h := s1 k (rn k) x0 x1 x2 x3 x4 x5
    rw [show (fun s : St => rn k s.lab s.fr s.hp) = go k from funext (go_ok k)] at h
    exact h
  | k + 1, .l2 x0 x1 x2 x3 x4 x5 x6 x7 => by
    have h := s2 k (rn k) x0 x1 x2 x3 x4 x5 x6 x7
    rw [show (fun s : St => rn k s.lab s.fr s.hp) = go k from funext (go_ok k)] at h
    exact h
theorem run_ok : ∀ (k : Nat) (a : Bool × (List Int)), rn k 0 (argFr 0 (encA a).1) (encA a).2 = m k a.1 a.2
  | 0, _ => rfl
  | k + 1, (x0, x1) => by
    have h := s0 k (rn k) x0 x1
    rw [show (fun s : St => rn k s.lab s.fr s.hp) = go k from funext (go_ok k)] at h
    exact h
theorem snd (k : Nat) : Snd Tryz.prog cfg k ct := fn_snd (X := X) cfgOk mixed ok (np := 0) (vps := []) (vws := []) (decA := decA) (encA := encA) (decB := decB) (encB := encB) (encK := encK) (fun _ b _ => rfl)
  (by
    intro xs H a h
    unfold decA at h
    split at h
    · cases h; exact ⟨rfl, rfl, rfl, rfl⟩
    · cases h)
  (by
    intro v H b h
    unfold decB at h
    split at h
    · cases h; exact ⟨rfl, fun _ _ _ h => (by cases h), rfl⟩
    · cases h)
  rfl k (fun k' _ => AllS.mem (l := X) ⟨cavilref07_trim.snd k', trivial⟩) (fun a => run_ok k a)
end cavilref07_From

/-! cavil/cavilref07.To -/
namespace cavilref07_To
inductive St where
  | l1 (x0 : List Int) (x1 : Bool) (x2 : Bool) (x3 : List Int) (x4 : Bool) (x5 : List Int) (x6 : Int)
def St.lab : St → Nat
  | .l1 _ _ _ _ _ _ _ => 1
def St.fr : St → Fr
  | .l1 x0 x1 x2 x3 x4 x5 x6 => [(1, .ptr 1 1 []), (2, .ptr 2 1 []), (4, .ptr 3 1 []), (5, .int .i64 x6)]
def St.hp : St → Heap
  | .l1 x0 x1 x2 x3 x4 x5 x6 => [.row 0 1 false 3 (.int .i64 x0), .var 0 40 (.agg (.pair (.bool x1) (.pair (.slice 0 1 .all) .nil))), .var 0 35 (.agg (.pair (.bool x2) (.pair (.arr 8 (.int .u64 x3)) .nil))), .var 0 35 (.agg (.pair (.bool x4) (.pair (.arr 8 (.int .u64 x5)) .nil)))]
def b0 (k : Nat) (J : St → Option (Bool × (List Int) × Bool)) (x0 : Bool) (x1 : List Int) : Option (Bool × (List Int) × Bool) :=
  bif (decide ((x1.length : Int) > 32)) then
    some (false, (List.replicate 8 (0 : Int)), false)
  else
    J (.l1 x1 x0 false (List.replicate 8 (0 : Int)) false (List.replicate 8 (0 : Int)) (wr .i64 ((x1.length : Int) - 1)))
def b1 (k : Nat) (J : St → Option (Bool × (List Int) × Bool)) (x0 : List Int) (x1 : Bool) (x2 : Bool) (x3 : List Int) (x4 : Bool) (x5 : List Int) (x6 : Int) : Option (Bool × (List Int) × Bool) :=
  bif (decide (x6 ≥ 0)) then
    gk (inB (quoI .i64 x6 4) 8)
      (gk (inB x6 x0.length)
        (gk (inB (quoI .i64 x6 4) 8)
          (J (.l1 x0 x1 x2 x3 x4 (x5.set (quoI .i64 x6 4).toNat (wr .u64 ((wr .u64 ((x5.getD (quoI .i64 x6 4).toNat 0) * 65536)) + (wr .u64 (x0.getD x6.toNat 0))))) (wr .i64 (x6 - 1))))))
  else
    some (x1, x5, true)
def go : Nat → St → Option (Bool × (List Int) × Bool)
  | 0, _ => none
  | k + 1, .l1 x0 x1 x2 x3 x4 x5 x6 => b1 k (go k) x0 x1 x2 x3 x4 x5 x6
def m : Nat → Bool → List Int → Option (Bool × (List Int) × Bool)
  | 0, _, _ => none
  | k + 1, x0, x1 => b0 k (go k) x0 x1
def anns : Anns := [(7, 1, [(1, 0, false), (2, 0, false), (4, 0, false), (5, 3, false)])]
noncomputable def code : ACode := codeOf Tryz.f37 anns
def rs : List ResultVar := [.cell 2 35, .tmp 3]
def decA : List AVal → Heap → Option (Bool × (List Int))
  | [.agg (.pair (.bool x0) (.pair (.slice 0 1 .all) .nil))], [.row 0 1 false 3 (.int .i64 x1)] => some (x0, x1)
  | _, _ => none
def encA (a : Bool × (List Int)) : List AVal × Heap := ([.agg (.pair (.bool a.1) (.pair (.slice 0 1 .all) .nil))], [.row 0 1 false 3 (.int .i64 a.2)])
def decB : AVal → Heap → Option (Bool × (List Int) × Bool)
  | .tup (.pair (.agg (.pair (.bool y0) (.pair (.arr 8 (.int .u64 y1)) .nil))) (.pair (.bool y2) .nil)), [_] => some (y0, y1, y2)
  | _, _ => none
def encB (b : Bool × (List Int) × Bool) : Out := (.tup (.pair (.agg (.pair (.bool b.1) (.pair (.arr 8 (.int .u64 b.2.1)) .nil))) (.pair (.bool b.2.2) .nil)), [], [])
def encK : EncK (Bool × (List Int) × Bool) := fun _ b K => K (encB b)
def X : List Ct := []
def ct : Ct := ⟨37, callRun cfg.tt [(40, false)] decA (fun k a => m k a.1 a.2) false encK⟩
theorem ok : FnOk Tryz.prog cfg 37 40 code rs := .of Tryz.func37 (by kernel_rfl) rfl rfl (by kernel_rfl) (by kernel_rfl) rfl
abbrev kend : KK (Bool × (List Int) × Bool) := kEnd cfg.tt rs (kFin cfg.tt 1 false [35, 4] [] [0] decB)
noncomputable abbrev rn := run cfg X 40 1 code kend
theorem s0 (k : Nat) (J : Nat → Fr → Heap → Option (Bool × (List Int) × Bool)) (x0 : Bool) (x1 : List Int) : stepJ cfg X 40 1 code kend k J 0 (argFr 0 (encA (x0, x1)).1) (encA (x0, x1)).2 = b0 k (fun s => J s.lab s.fr s.hp) x0 x1 := by kernel_rfl
theorem s1 (k : Nat) (J : Nat → Fr → Heap → Option (Bool × (List Int) × Bool)) (x0 : List Int) (x1 : Bool) (x2 : Bool) (x3 : List Int) (x4 : Bool) (x5 : List Int) (x6 : Int) : stepJ cfg X 40 1 code kend k J (St.l1 x0 x1 x2 x3 x4 x5 x6).lab (St.l1 x0 x1 x2 x3 x4 x5 x6).fr (St.l1 x0 x1 x2 x3 x4 x5 x6).hp = b1 k (fun s => J s.lab s.fr s.hp) x0 x1 x2 x3 x4 x5 x6 := by kernel_rfl
theorem go_ok : ∀ (k : Nat) (s : St), rn k s.lab s.fr s.hp = go k s
  | 0, _ => rfl
  | k + 1, .l1 x0 x1 x2 x3 x4 x5 x6 => by
    have h := s1 k (rn k) x0 x1 x2 x3 x4 x5 x6
    rw [show (fun s : St => rn k s.lab s.fr s.hp) = go k from funext (go_ok k)] at h
    exact h
theorem run_ok : ∀ (k : Nat) (a : Bool × (List Int)), rn k 0 (argFr 0 (encA a).1) (encA a).2 = m k a.1 a.2
  | 0, _ => rfl
  | k + 1, (x0, x1) => by
    have h := s0 k (rn k) x0 x1
    rw [show (fun s : St => rn k s.lab s.fr s.hp) = go k from funext (go_ok k)] at h
    exact h
theorem snd (k : Nat) : Snd Tryz.prog cfg k ct := fn_snd (X := X) cfgOk mixed ok (np := 1) (vps := []) (vws := [0]) (decA := decA) (encA := encA) (decB := decB) (encB := encB) (encK := encK) (fun _ b _ => rfl)
  (by
    intro xs H a h
    unfold decA at h
    split at h
    · cases h; exact ⟨rfl, rfl, rfl, rfl⟩
    · cases h)
  (by
    intro v H b h
    unfold decB at h
    split at h
    · cases h; exact ⟨rfl, fun _ _ _ h => (by cases h), rfl⟩
    · cases h)
  rfl k (fun k' _ => AllS.mem (l := X) trivial) (fun a => run_ok k a)
end cavilref07_To

/-! cavil/cavilref07.Small -/
namespace cavilref07_Small
inductive St where
  | l1 (x0 : List Int) (x1 : Bool) (x2 : List Int) (x3 : Int) (x4 : Int)
def St.lab : St → Nat
  | .l1 _ _ _ _ _ => 1
def St.fr : St → Fr
  | .l1 x0 x1 x2 x3 x4 => [(0, .int .i64 x3), (2, .ptr 1 1 []), (3, .slice 2 1 .all), (4, .int .i64 x4)]
def St.hp : St → Heap
  | .l1 x0 x1 x2 x3 x4 => [.row 0 1 true 3 (.int .i64 x0), .var 0 40 (.agg (.pair (.bool x1) (.pair (.slice 0 1 .all) .nil))), .row 0 1 true 3 (.int .i64 x2)]
def b0 (k : Nat) (J : St → Option (Bool × (List Int))) (x0 : Int) : Option (Bool × (List Int)) :=
  bif (decide (x0 < 0)) then
    J (.l1 [] false [] x0 (wr .i64 (0 - x0)))
  else
    J (.l1 [] false [] x0 x0)
def b1 (k : Nat) (J : St → Option (Bool × (List Int))) (x0 : List Int) (x1 : Bool) (x2 : List Int) (x3 : Int) (x4 : Int) : Option (Bool × (List Int)) :=
  bif (decide (x4 > 0)) then
    gk (room (x2 ++ ([(remI x4 65536)] : List Int)).length)
      (J (.l1 x0 x1 (x2 ++ ([(remI x4 65536)] : List Int)) x3 (quoI .i64 x4 65536)))
  else
    bindO (cavilref07_trim.m k (decide (x3 < 0)) x2) fun r1 =>
      some (r1.1, (cut x2 0 r1.2))
def go : Nat → St → Option (Bool × (List Int))
  | 0, _ => none
  | k + 1, .l1 x0 x1 x2 x3 x4 => b1 k (go k) x0 x1 x2 x3 x4
def m : Nat → Int → Option (Bool × (List Int))
  | 0, _ => none
  | k + 1, x0 => b0 k (go k) x0
def anns : Anns := [(6, 1, [(0, 3, false), (2, 0, false), (3, 38, false), (4, 3, false)])]
noncomputable def code : ACode := codeOf Tryz.f67 anns
def rs : List ResultVar := [.cell 2 40]
def decA : List AVal → Heap → Option (Int)
  | [.int .i64 x0], [] => some x0
  | _, _ => none
def encA (a : Int) : List AVal × Heap := ([.int .i64 a], [])
def decB : AVal → Heap → Option (Bool × (List Int))
  | .agg (.pair (.bool y0) (.pair (.slice 0 1 .all) .nil)), [.row 0 1 true 3 (.int .i64 y1)] => some (y0, y1)
  | _, _ => none
def encB (b : Bool × (List Int)) : Out := (.agg (.pair (.bool b.1) (.pair (.slice 0 1 .all) .nil)), [], [.row 0 1 true 3 (.int .i64 b.2)])
def encK : EncK (Bool × (List Int)) := fun _ b K => K (encB b)
def X : List Ct := [cavilref07_trim.ct]
def ct : Ct := ⟨67, callRun cfg.tt [(3, false)] decA (fun k a => m k a) false encK⟩
theorem ok : FnOk Tryz.prog cfg 67 23 code rs := .of Tryz.func67 (by kernel_rfl) rfl rfl (by kernel_rfl) (by kernel_rfl) rfl
abbrev kend : KK (Bool × (List Int)) := kEnd cfg.tt rs (kFin cfg.tt 0 false [40] [] [] decB)
noncomputable abbrev rn := run cfg X 23 0 code kend
theorem s0 (k : Nat) (J : Nat → Fr → Heap → Option (Bool × (List Int))) (x0 : Int) : stepJ cfg X 23 0 code kend k J 0 (argFr 0 (encA x0).1) (encA x0).2 = b0 k (fun s => J s.lab s.fr s.hp) x0 := by kernel_rfl
theorem s1 (k : Nat) (J : Nat → Fr → Heap → Option (Bool × (List Int))) (x0 : List Int) (x1 : Bool) (x2 : List Int) (x3 : Int) (x4 : Int) : stepJ cfg X 23 0 code kend k J (St.l1 x0 x1 x2 x3 x4).lab (St.l1 x0 x1 x2 x3 x4).fr (St.l1 x0 x1 x2 x3 x4).hp = b1 k (fun s => J s.lab s.fr s.hp) x0 x1 x2 x3 x4 := by kernel_rfl
theorem go_ok : ∀ (k : Nat) (s : St), rn k s.lab s.fr s.hp = go k s
  | 0, _ => rfl
  | k + 1, .l1 x0 x1 x2 x3 x4 => by
    have h := s1 k (rn k) x0 x1 x2 x3 x4
    rw [show (fun s : St => rn k s.lab s.fr s.hp) = go k from funext (go_ok k)] at h
    exact h
theorem run_ok : ∀ (k : Nat) (a : Int), rn k 0 (argFr 0 (encA a).1) (encA a).2 = m k a
  | 0, _ => rfl
  | k + 1, x0 => by
    have h := s0 k (rn k) x0
    rw [show (fun s : St => rn k s.lab s.fr s.hp) = go k from funext (go_ok k)] at h
    exact h
theorem snd (k : Nat) : Snd Tryz.prog cfg k ct := fn_snd (X := X) cfgOk mixed ok (np := 0) (vps := []) (vws := []) (decA := decA) (encA := encA) (decB := decB) (encB := encB) (encK := encK) (fun _ b _ => rfl)
  (by
    intro xs H a h
    unfold decA at h
    split at h
    · cases h; exact ⟨rfl, rfl, rfl, rfl⟩
    · cases h)
  (by
    intro v H b h
    unfold decB at h
    split at h
    · cases h; exact ⟨rfl, fun _ _ _ h => (by cases h), rfl⟩
    · cases h)
  rfl k (fun k' _ => AllS.mem (l := X) ⟨cavilref07_trim.snd k', trivial⟩) (fun a => run_ok k a)
end cavilref07_Small

/-! cavil/cavilref07.Order -/
namespace cavilref07_Order
inductive St where
  | l1 (x0 : List Int) (x1 : List Int) (x2 : Int)
def St.lab : St → Nat
  | .l1 _ _ _ => 1
def St.fr : St → Fr
  | .l1 x0 x1 x2 => [(0, .slice 0 1 .all), (1, .slice 1 1 .all), (5, .int .i64 x2)]
def St.hp : St → Heap
  | .l1 x0 x1 x2 => [.row 0 1 false 3 (.int .i64 x0), .row 0 1 false 3 (.int .i64 x1)]
def b0 (k : Nat) (J : St → Option (Int)) (x0 : List Int) (x1 : List Int) : Option (Int) :=
  bif ((x0.length : Int) != (x1.length : Int)) then
    bif (decide ((x0.length : Int) < (x1.length : Int))) then
      some (-1)
    else
      some 1
  else
    J (.l1 x0 x1 (wr .i64 ((x0.length : Int) - 1)))
def b1 (k : Nat) (J : St → Option (Int)) (x0 : List Int) (x1 : List Int) (x2 : Int) : Option (Int) :=
  bif (decide (x2 ≥ 0)) then
    gk (inB x2 x0.length)
      (gk (inB x2 x1.length)
        (bif (decide ((x0.getD x2.toNat 0) < (x1.getD x2.toNat 0))) then
          some (-1)
        else
          gk (inB x2 x0.length)
            (gk (inB x2 x1.length)
              (bif (decide ((x0.getD x2.toNat 0) > (x1.getD x2.toNat 0))) then
                some 1
              else
                J (.l1 x0 x1 (wr .i64 (x2 - 1)))))))
  else
    some 0
def go : Nat → St → Option (Int)
  | 0, _ => none
  | k + 1, .l1 x0 x1 x2 => b1 k (go k) x0 x1 x2
def m : Nat → List Int → List Int → Option (Int)
  | 0, _, _ => none
  | k + 1, x0, x1 => b0 k (go k) x0 x1
def anns : Anns := [(9, 1, [(0, 38, false), (1, 38, false), (5, 3, false)])]
noncomputable def code : ACode := codeOf Tryz.f50 anns
def rs : List ResultVar := [.tmp 4]
def decA : List AVal → Heap → Option ((List Int) × (List Int))
  | [.slice 0 1 .all, .slice 1 1 .all], [.row 0 1 false 3 (.int .i64 x0), .row 0 1 false 3 (.int .i64 x1)] => some (x0, x1)
  | _, _ => none
def encA (a : (List Int) × (List Int)) : List AVal × Heap := ([.slice 0 1 .all, .slice 1 1 .all], [.row 0 1 false 3 (.int .i64 a.1), .row 0 1 false 3 (.int .i64 a.2)])
def decB : AVal → Heap → Option (Int)
  | .int .i64 y0, [_, _] => some y0
  | _, _ => none
def encB (b : Int) : Out := (.int .i64 b, [], [])
def encK : EncK (Int) := fun _ b K => K (encB b)
def X : List Ct := []
def ct : Ct := ⟨50, callRun cfg.tt [(38, false), (38, false)] decA (fun k a => m k a.1 a.2) false encK⟩
theorem ok : FnOk Tryz.prog cfg 50 41 code rs := .of Tryz.func50 (by kernel_rfl) rfl rfl (by kernel_rfl) (by kernel_rfl) rfl
abbrev kend : KK (Int) := kEnd cfg.tt rs (kFin cfg.tt 2 false [3] [] [0, 1] decB)
noncomputable abbrev rn := run cfg X 41 2 code kend
theorem s0 (k : Nat) (J : Nat → Fr → Heap → Option (Int)) (x0 : List Int) (x1 : List Int) : stepJ cfg X 41 2 code kend k J 0 (argFr 0 (encA (x0, x1)).1) (encA (x0, x1)).2 = b0 k (fun s => J s.lab s.fr s.hp) x0 x1 := by kernel_rfl
theorem s1 (k : Nat) (J : Nat → Fr → Heap → Option (Int)) (x0 : List Int) (x1 : List Int) (x2 : Int) : stepJ cfg X 41 2 code kend k J (St.l1 x0 x1 x2).lab (St.l1 x0 x1 x2).fr (St.l1 x0 x1 x2).hp = b1 k (fun s => J s.lab s.fr s.hp) x0 x1 x2 := by kernel_rfl
theorem go_ok : ∀ (k : Nat) (s : St), rn k s.lab s.fr s.hp = go k s
  | 0, _ => rfl
  | k + 1, .l1 x0 x1 x2 => by
    have h := s1 k (rn k) x0 x1 x2
    rw [show (fun s : St => rn k s.lab s.fr s.hp) = go k from funext (go_ok k)] at h
    exact h
theorem run_ok : ∀ (k : Nat) (a : (List Int) × (List Int)), rn k 0 (argFr 0 (encA a).1) (encA a).2 = m k a.1 a.2
  | 0, _ => rfl
  | k + 1, (x0, x1) => by
    have h := s0 k (rn k) x0 x1
    rw [show (fun s : St => rn k s.lab s.fr s.hp) = go k from funext (go_ok k)] at h
    exact h
theorem snd (k : Nat) : Snd Tryz.prog cfg k ct := fn_snd (X := X) cfgOk mixed ok (np := 2) (vps := []) (vws := [0, 1]) (decA := decA) (encA := encA) (decB := decB) (encB := encB) (encK := encK) (fun _ b _ => rfl)
  (by
    intro xs H a h
    unfold decA at h
    split at h
    · cases h; exact ⟨rfl, rfl, rfl, rfl⟩
    · cases h)
  (by
    intro v H b h
    unfold decB at h
    split at h
    · cases h; exact ⟨rfl, fun _ _ _ h => (by cases h), rfl⟩
    · cases h)
  rfl k (fun k' _ => AllS.mem (l := X) trivial) (fun a => run_ok k a)
end cavilref07_Order

/-! cavil/cavilref07.Cmp -/
namespace cavilref07_Cmp
def b0 (k : Nat) (x0 : Bool) (x1 : List Int) (x2 : Bool) (x3 : List Int) : Option (Int) :=
  bif (!(x0 == x2)) then
    bif x0 then
      some (-1)
    else
      some 1
  else
    bif x0 then
      bindO (cavilref07_Order.m k x3 x1) fun r1 =>
        some r1
    else
      bindO (cavilref07_Order.m k x1 x3) fun r2 =>
        some r2
def m : Nat → Bool → List Int → Bool → List Int → Option (Int)
  | 0, _, _, _, _ => none
  | k + 1, x0, x1, x2, x3 => b0 k x0 x1 x2 x3
def anns : Anns := []
noncomputable def code : ACode := codeOf Tryz.f21 anns
def rs : List ResultVar := [.tmp 4]
def decA : List AVal → Heap → Option (Bool × (List Int) × Bool × (List Int))
  | [.agg (.pair (.bool x0) (.pair (.slice 0 1 .all) .nil)), .agg (.pair (.bool x2) (.pair (.slice 1 1 .all) .nil))], [.row 0 1 false 3 (.int .i64 x1), .row 0 1 false 3 (.int .i64 x3)] => some (x0, x1, x2, x3)
  | _, _ => none
def encA (a : Bool × (List Int) × Bool × (List Int)) : List AVal × Heap := ([.agg (.pair (.bool a.1) (.pair (.slice 0 1 .all) .nil)), .agg (.pair (.bool a.2.2.1) (.pair (.slice 1 1 .all) .nil))], [.row 0 1 false 3 (.int .i64 a.2.1), .row 0 1 false 3 (.int .i64 a.2.2.2)])
def decB : AVal → Heap → Option (Int)
  | .int .i64 y0, [_, _] => some y0
  | _, _ => none
def encB (b : Int) : Out := (.int .i64 b, [], [])
def encK : EncK (Int) := fun _ b K => K (encB b)
def X : List Ct := [cavilref07_Order.ct]
def ct : Ct := ⟨21, callRun cfg.tt [(40, false), (40, false)] decA (fun k a => m k a.1 a.2.1 a.2.2.1 a.2.2.2) false encK⟩
theorem ok : FnOk Tryz.prog cfg 21 24 code rs := .of Tryz.func21 (by kernel_rfl) rfl rfl (by kernel_rfl) (by kernel_rfl) rfl
abbrev kend : KK (Int) := kEnd cfg.tt rs (kFin cfg.tt 2 false [3] [] [0, 1] decB)
noncomputable abbrev rn := run cfg X 24 2 code kend
theorem s0 (k : Nat) (J : Nat → Fr → Heap → Option (Int)) (x0 : Bool) (x1 : List Int) (x2 : Bool) (x3 : List Int) : stepJ cfg X 24 2 code kend k J 0 (argFr 0 (encA (x0, x1, x2, x3)).1) (encA (x0, x1, x2, x3)).2 = b0 k x0 x1 x2 x3 := by kernel_rfl
theorem run_ok : ∀ (k : Nat) (a : Bool × (List Int) × Bool × (List Int)), rn k 0 (argFr 0 (encA a).1) (encA a).2 = m k a.1 a.2.1 a.2.2.1 a.2.2.2
  | 0, _ => rfl
  | k + 1, (x0, x1, x2, x3) => by
    have h := s0 k (rn k) x0 x1 x2 x3
    exact h
theorem snd (k : Nat) : Snd Tryz.prog cfg k ct := fn_snd (X := X) cfgOk mixed ok (np := 2) (vps := []) (vws := [0, 1]) (decA := decA) (encA := encA) (decB := decB) (encB := encB) (encK := encK) (fun _ b _ => rfl)
  (by
    intro xs H a h
    unfold decA at h
    split at h
    · cases h; exact ⟨rfl, rfl, rfl, rfl⟩
    · cases h)
  (by
    intro v H b h
    unfold decB at h
    split at h
    · cases h; exact ⟨rfl, fun _ _ _ h => (by cases h), rfl⟩
    · cases h)
  rfl k (fun k' _ => AllS.mem (l := X) ⟨cavilref07_Order.snd k', trivial⟩) (fun a => run_ok k a)
end cavilref07_Cmp

/-! cavil/cavilref07.digit -/
namespace cavilref07_digit
def b0 (k : Nat) (x0 : List Int) (x1 : Int) : Option (Int) :=
  bif (decide (x1 < (x0.length : Int))) then
    gk (inB x1 x0.length)
      (some (x0.getD x1.toNat 0))
  else
    some 0
def m : Nat → List Int → Int → Option (Int)
  | 0, _, _ => none
  | k + 1, x0, x1 => b0 k x0 x1
def anns : Anns := []
noncomputable def code : ACode := codeOf Tryz.f93 anns
def rs : List ResultVar := [.tmp 4]
def decA : List AVal → Heap → Option ((List Int) × Int)
  | [.slice 0 1 .all, .int .i64 x1], [.row 0 1 false 3 (.int .i64 x0)] => some (x0, x1)
  | _, _ => none
def encA (a : (List Int) × Int) : List AVal × Heap := ([.slice 0 1 .all, .int .i64 a.2], [.row 0 1 false 3 (.int .i64 a.1)])
def decB : AVal → Heap → Option (Int)
  | .int .i64 y0, [_] => some y0
  | _, _ => none
def encB (b : Int) : Out := (.int .i64 b, [], [])
def encK : EncK (Int) := fun _ b K => K (encB b)
def X : List Ct := []
def ct : Ct := ⟨93, callRun cfg.tt [(38, false), (3, false)] decA (fun k a => m k a.1 a.2) false encK⟩
theorem ok : FnOk Tryz.prog cfg 93 13 code rs := .of Tryz.func93 (by kernel_rfl) rfl rfl (by kernel_rfl) (by kernel_rfl) rfl
abbrev kend : KK (Int) := kEnd cfg.tt rs (kFin cfg.tt 1 false [3] [] [0] decB)
noncomputable abbrev rn := run cfg X 13 1 code kend
theorem s0 (k : Nat) (J : Nat → Fr → Heap → Option (Int)) (x0 : List Int) (x1 : Int) : stepJ cfg X 13 1 code kend k J 0 (argFr 0 (encA (x0, x1)).1) (encA (x0, x1)).2 = b0 k x0 x1 := by kernel_rfl
theorem run_ok : ∀ (k : Nat) (a : (List Int) × Int), rn k 0 (argFr 0 (encA a).1) (encA a).2 = m k a.1 a.2
  | 0, _ => rfl
  | k + 1, (x0, x1) => by
    have h := s0 k (rn k) x0 x1
    exact h
theorem snd (k : Nat) : Snd Tryz.prog cfg k ct := fn_snd (X := X) cfgOk mixed ok (np := 1) (vps := []) (vws := [0]) (decA := decA) (encA := encA) (decB := decB) (encB := encB) (encK := encK) (fun _ b _ => rfl)
  (by
    intro xs H a h
    unfold decA at h
    split at h
    · cases h; exact ⟨rfl, rfl, rfl, rfl⟩
    · cases h)
  (by
    intro v H b h
    unfold decB at h
    split at h
    · cases h; exact ⟨rfl, fun _ _ _ h => (by cases h), rfl⟩
    · cases h)
  rfl k (fun k' _ => AllS.mem (l := X) trivial) (fun a => run_ok k a)
end cavilref07_digit

/-! cavil/cavilref07.plus -/
namespace cavilref07_plus
inductive St where
  | l1 (x0 : List Int) (x1 : List Int) (x2 : List Int) (x3 : Int) (x4 : Int)
  | l2 (x0 : List Int) (x1 : List Int) (x2 : List Int) (x3 : Int) (x4 : Int) (x5 : Bool)
def St.lab : St → Nat
  | .l1 _ _ _ _ _ => 1
  | .l2 _ _ _ _ _ _ => 2
def St.fr : St → Fr
  | .l1 x0 x1 x2 x3 x4 => [(0, .slice 0 1 .all), (1, .slice 1 1 .all), (5, .slice 2 1 .all), (6, .int .i64 x3), (7, .int .i64 x4)]
  | .l2 x0 x1 x2 x3 x4 x5 => [(0, .slice 0 1 .all), (1, .slice 1 1 .all), (5, .slice 2 1 .all), (6, .int .i64 x3), (7, .int .i64 x4), (22, .bool x5)]
def St.hp : St → Heap
  | .l1 x0 x1 x2 x3 x4 => [.row 0 1 false 3 (.int .i64 x0), .row 0 1 false 3 (.int .i64 x1), .row 0 1 true 3 (.int .i64 x2)]
  | .l2 x0 x1 x2 x3 x4 x5 => [.row 0 1 false 3 (.int .i64 x0), .row 0 1 false 3 (.int .i64 x1), .row 0 1 true 3 (.int .i64 x2)]
def b0 (k : Nat) (J : St → Option ((List Int))) (x0 : List Int) (x1 : List Int) : Option ((List Int)) :=
  J (.l1 x0 x1 [] 0 0)
def b1 (k : Nat) (J : St → Option ((List Int))) (x0 : List Int) (x1 : List Int) (x2 : List Int) (x3 : Int) (x4 : Int) : Option ((List Int)) :=
  bif (decide (x4 < (x0.length : Int))) then
    J (.l2 x0 x1 x2 x3 x4 true)
  else
    bif (decide (x4 < (x1.length : Int))) then
      J (.l2 x0 x1 x2 x3 x4 true)
    else
      J (.l2 x0 x1 x2 x3 x4 (decide (x3 > 0)))
def b2 (k : Nat) (J : St → Option ((List Int))) (x0 : List Int) (x1 : List Int) (x2 : List Int) (x3 : Int) (x4 : Int) (x5 : Bool) : Option ((List Int)) :=
  bif x5 then
    bindO (cavilref07_digit.m k x0 x4) fun r1 =>
      bindO (cavilref07_digit.m k x1 x4) fun r2 =>
        gk (room (x2 ++ ([(remI (wr .i64 ((wr .i64 (r1 + r2)) + x3)) 65536)] : List Int)).length)
          (J (.l1 x0 x1 (x2 ++ ([(remI (wr .i64 ((wr .i64 (r1 + r2)) + x3)) 65536)] : List Int)) (quoI .i64 (wr .i64 ((wr .i64 (r1 + r2)) + x3)) 65536) (wr .i64 (x4 + 1))))
  else
    some x2
def go : Nat → St → Option ((List Int))
  | 0, _ => none
  | k + 1, .l1 x0 x1 x2 x3 x4 => b1 k (go k) x0 x1 x2 x3 x4
  | k + 1, .l2 x0 x1 x2 x3 x4 x5 => b2 k (go k) x0 x1 x2 x3 x4 x5
def m : Nat → List Int → List Int → Option ((List Int))
  | 0, _, _ => none
  | k + 1, x0, x1 => b0 k (go k) x0 x1
def anns : Anns := [(5, 1, [(0, 38, false), (1, 38, false), (5, 38, false), (6, 3, false), (7, 3, false)]), (7, 2, [(0, 38, false), (1, 38, false), (5, 38, false), (6, 3, false), (7, 3, false), (22, 4, false)])]
noncomputable def code : ACode := codeOf Tryz.f91 anns
def rs : List ResultVar := [.tmp 4]
def decA : List AVal → Heap → Option ((List Int) × (List Int))
  | [.slice 0 1 .all, .slice 1 1 .all], [.row 0 1 false 3 (.int .i64 x0), .row 0 1 false 3 (.int .i64 x1)] => some (x0, x1)
  | _, _ => none
def encA (a : (List Int) × (List Int)) : List AVal × Heap := ([.slice 0 1 .all, .slice 1 1 .all], [.row 0 1 false 3 (.int .i64 a.1), .row 0 1 false 3 (.int .i64 a.2)])
def decB : AVal → Heap → Option ((List Int))
  | .slice 2 1 .all, [_, _, .row 0 1 true 3 (.int .i64 y0)] => some y0
  | _, _ => none
def encB (b : (List Int)) : Out := (.slice 2 1 .all, [], [.row 0 1 true 3 (.int .i64 b)])
def encK : EncK ((List Int)) := fun _ b K => K (encB b)
def X : List Ct := [cavilref07_digit.ct]
def ct : Ct := ⟨91, callRun cfg.tt [(38, false), (38, false)] decA (fun k a => m k a.1 a.2) false encK⟩
theorem ok : FnOk Tryz.prog cfg 91 42 code rs := .of Tryz.func91 (by kernel_rfl) rfl rfl (by kernel_rfl) (by kernel_rfl) rfl
abbrev kend : KK ((List Int)) := kEnd cfg.tt rs (kFin cfg.tt 2 false [38] [] [0, 1] decB)
noncomputable abbrev rn := run cfg X 42 2 code kend
theorem s0 (k : Nat) (J : Nat → Fr → Heap → Option ((List Int))) (x0 : List Int) (x1 : List Int) : stepJ cfg X 42 2 code kend k J 0 (argFr 0 (encA (x0, x1)).1) (encA (x0, x1)).2 = b0 k (fun s => J s.lab s.fr s.hp) x0 x1 := by kernel_rfl
theorem s1 (k : Nat) (J : Nat → Fr → Heap → Option ((List Int))) (x0 : List Int) (x1 : List Int) (x2 : List Int) (x3 : Int) (x4 : Int) : stepJ cfg X 42 2 code kend k J (St.l1 x0 x1 x2 x3 x4).lab (St.l1 x0 x1 x2 x3 x4).fr (St.l1 x0 x1 x2 x3 x4).hp = b1 k (fun s => J s.lab s.fr s.hp) x0 x1 x2 x3 x4 := by kernel_rfl
theorem s2 (k : Nat) (J : Nat → Fr → Heap → Option ((List Int))) (x0 : List Int) (x1 : List Int) (x2 : List Int) (x3 : Int) (x4 : Int) (x5 : Bool) : stepJ cfg X 42 2 code kend k J (St.l2 x0 x1 x2 x3 x4 x5).lab (St.l2 x0 x1 x2 x3 x4 x5).fr (St.l2 x0 x1 x2 x3 x4 x5).hp = b2 k (fun s => J s.lab s.fr s.hp) x0 x1 x2 x3 x4 x5 := by kernel_rfl
theorem go_ok : ∀ (k : Nat) (s : St), rn k s.lab s.fr s.hp = go k s
  | 0, _ => rfl
  | k + 1, .l1 x0 x1 x2 x3 x4 => by
    have h := s1 k (rn k) x0 x1 x2 x3 x4
    rw [show (fun s : St => rn k s.lab s.fr s.hp) = go k from funext (go_ok k)] at h
    exact h
  | k + 1, .l2 x0 x1 x2 x3 x4 x5 => by
    have h := s2 k (rn k) x0 x1 x2 x3 x4 x5
    rw [show (fun s : St => rn k s.lab s.fr s.hp) = go k from funext (go_ok k)] at h
    exact h
theorem run_ok : ∀ (k : Nat) (a : (List Int) × (List Int)), rn k 0 (argFr 0 (encA a).1) (encA a).2 = m k a.1 a.2
  | 0, _ => rfl
  | k + 1, (x0, x1) => by
    have h := s0 k (rn k) x0 x1
    rw [show (fun s : St => rn k s.lab s.fr s.hp) = go k from funext (go_ok k)] at h
    exact h
theorem snd (k : Nat) : Snd Tryz.prog cfg k ct := fn_snd (X := X) cfgOk mixed ok (np := 2) (vps := []) (vws := [0, 1]) (decA := decA) (encA := encA) (decB := decB) (encB := encB) (encK := encK) (fun _ b _ => rfl)
  (by
    intro xs H a h
    unfold decA at h
    split at h
    · cases h; exact ⟨rfl, rfl, rfl, rfl⟩
    · cases h)
  (by
    intro v H b h
    unfold decB at h
    split at h
    · cases h; exact ⟨rfl, fun _ _ _ h => (by cases h), rfl⟩
    · cases h)
  rfl k (fun k' _ => AllS.mem (l := X) ⟨cavilref07_digit.snd k', trivial⟩) (fun a => run_ok k a)
end cavilref07_plus

/-! cavil/cavilref07.minus -/
namespace cavilref07_minus
inductive St where
  | l1 (x0 : List Int) (x1 : List Int) (x2 : List Int) (x3 : Int) (x4 : Int)
def St.lab : St → Nat
  | .l1 _ _ _ _ _ => 1
def St.fr : St → Fr
  | .l1 x0 x1 x2 x3 x4 => [(0, .slice 0 1 .all), (1, .slice 1 1 .all), (5, .slice 2 1 .all), (6, .int .i64 x3), (7, .int .i64 x4)]
def St.hp : St → Heap
  | .l1 x0 x1 x2 x3 x4 => [.row 0 1 false 3 (.int .i64 x0), .row 0 1 false 3 (.int .i64 x1), .row 0 1 true 3 (.int .i64 x2)]
def b0 (k : Nat) (J : St → Option ((List Int))) (x0 : List Int) (x1 : List Int) : Option ((List Int)) :=
  J (.l1 x0 x1 [] 0 0)
def b1 (k : Nat) (J : St → Option ((List Int))) (x0 : List Int) (x1 : List Int) (x2 : List Int) (x3 : Int) (x4 : Int) : Option ((List Int)) :=
  bif (decide (x4 < (x0.length : Int))) then
    gk (inB x4 x0.length)
      (bindO (cavilref07_digit.m k x1 x4) fun r1 =>
        bif (decide ((wr .i64 ((wr .i64 ((x0.getD x4.toNat 0) - r1)) - x3)) < 0)) then
          gk (room (x2 ++ ([(wr .i64 ((wr .i64 ((wr .i64 ((x0.getD x4.toNat 0) - r1)) - x3)) + 65536))] : List Int)).length)
            (J (.l1 x0 x1 (x2 ++ ([(wr .i64 ((wr .i64 ((wr .i64 ((x0.getD x4.toNat 0) - r1)) - x3)) + 65536))] : List Int)) 1 (wr .i64 (x4 + 1))))
        else
          gk (room (x2 ++ ([(wr .i64 ((wr .i64 ((x0.getD x4.toNat 0) - r1)) - x3))] : List Int)).length)
            (J (.l1 x0 x1 (x2 ++ ([(wr .i64 ((wr .i64 ((x0.getD x4.toNat 0) - r1)) - x3))] : List Int)) 0 (wr .i64 (x4 + 1)))))
  else
    some x2
def go : Nat → St → Option ((List Int))
  | 0, _ => none
  | k + 1, .l1 x0 x1 x2 x3 x4 => b1 k (go k) x0 x1 x2 x3 x4
def m : Nat → List Int → List Int → Option ((List Int))
  | 0, _, _ => none
  | k + 1, x0, x1 => b0 k (go k) x0 x1
def anns : Anns := [(5, 1, [(0, 38, false), (1, 38, false), (5, 38, false), (6, 3, false), (7, 3, false)])]
noncomputable def code : ACode := codeOf Tryz.f92 anns
def rs : List ResultVar := [.tmp 4]
def decA : List AVal → Heap → Option ((List Int) × (List Int))
  | [.slice 0 1 .all, .slice 1 1 .all], [.row 0 1 false 3 (.int .i64 x0), .row 0 1 false 3 (.int .i64 x1)] => some (x0, x1)
  | _, _ => none
def encA (a : (List Int) × (List Int)) : List AVal × Heap := ([.slice 0 1 .all, .slice 1 1 .all], [.row 0 1 false 3 (.int .i64 a.1), .row 0 1 false 3 (.int .i64 a.2)])
def decB : AVal → Heap → Option ((List Int))
  | .slice 2 1 .all, [_, _, .row 0 1 true 3 (.int .i64 y0)] => some y0
  | _, _ => none
def encB (b : (List Int)) : Out := (.slice 2 1 .all, [], [.row 0 1 true 3 (.int .i64 b)])
def encK : EncK ((List Int)) := fun _ b K => K (encB b)
def X : List Ct := [cavilref07_digit.ct]
def ct : Ct := ⟨92, callRun cfg.tt [(38, false), (38, false)] decA (fun k a => m k a.1 a.2) false encK⟩
theorem ok : FnOk Tryz.prog cfg 92 34 code rs := .of Tryz.func92 (by kernel_rfl) rfl rfl (by kernel_rfl) (by kernel_rfl) rfl
abbrev kend : KK ((List Int)) := kEnd cfg.tt rs (kFin cfg.tt 2 false [38] [] [0, 1] decB)
noncomputable abbrev rn := run cfg X 34 2 code kend
theorem s0 (k : Nat) (J : Nat → Fr → Heap → Option ((List Int))) (x0 : List Int) (x1 : List Int) : stepJ cfg X 34 2 code kend k J 0 (argFr 0 (encA (x0, x1)).1) (encA (x0, x1)).2 = b0 k (fun s => J s.lab s.fr s.hp) x0 x1 := by kernel_rfl
theorem s1 (k : Nat) (J : Nat → Fr → Heap → Option ((List Int))) (x0 : List Int) (x1 : List Int) (x2 : List Int) (x3 : Int) (x4 : Int) : stepJ cfg X 34 2 code kend k J (St.l1 x0 x1 x2 x3 x4).lab (St.l1 x0 x1 x2 x3 x4).fr (St.l1 x0 x1 x2 x3 x4).hp = b1 k (fun s => J s.lab s.fr s.hp) x0 x1 x2 x3 x4 := by kernel_rfl
theorem go_ok : ∀ (k : Nat) (s : St), rn k s.lab s.fr s.hp = go k s
  | 0, _ => rfl
  | k + 1, .l1 x0 x1 x2 x3 x4 => by
    have h := s1 k (rn k) x0 x1 x2 x3 x4
    rw [show (fun s : St => rn k s.lab s.fr s.hp) = go k from funext (go_ok k)] at h
    exact h
theorem run_ok : ∀ (k : Nat) (a : (List Int) × (List Int)), rn k 0 (argFr 0 (encA a).1) (encA a).2 = m k a.1 a.2
  | 0, _ => rfl
  | k + 1, (x0, x1) => by
    have h := s0 k (rn k) x0 x1
    rw [show (fun s : St => rn k s.lab s.fr s.hp) = go k from funext (go_ok k)] at h
    exact h
theorem snd (k : Nat) : Snd Tryz.prog cfg k ct := fn_snd (X := X) cfgOk mixed ok (np := 2) (vps := []) (vws := [0, 1]) (decA := decA) (encA := encA) (decB := decB) (encB := encB) (encK := encK) (fun _ b _ => rfl)
  (by
    intro xs H a h
    unfold decA at h
    split at h
    · cases h; exact ⟨rfl, rfl, rfl, rfl⟩
    · cases h)
  (by
    intro v H b h
    unfold decB at h
    split at h
    · cases h; exact ⟨rfl, fun _ _ _ h => (by cases h), rfl⟩
    · cases h)
  rfl k (fun k' _ => AllS.mem (l := X) ⟨cavilref07_digit.snd k', trivial⟩) (fun a => run_ok k a)
end cavilref07_minus

/-! cavil/cavilref07.Add -/
namespace cavilref07_Add
def b0 (k : Nat) (x0 : Bool) (x1 : List Int) (x2 : Bool) (x3 : List Int) : Option (Bool × (List Int)) :=
  bif (x0 == x2) then
    bindO (cavilref07_plus.m k x1 x3) fun r1 =>
      bindO (cavilref07_trim.m k x0 r1) fun r2 =>
        some (r2.1, (cut r1 0 r2.2))
  else
    bindO (cavilref07_Order.m k x1 x3) fun r3 =>
      bif (decide (r3 ≥ 0)) then
        bindO (cavilref07_minus.m k x1 x3) fun r4 =>
          bindO (cavilref07_trim.m k x0 r4) fun r5 =>
            some (r5.1, (cut r4 0 r5.2))
      else
        bindO (cavilref07_minus.m k x3 x1) fun r6 =>
          bindO (cavilref07_trim.m k x2 r6) fun r7 =>
            some (r7.1, (cut r6 0 r7.2))
def m : Nat → Bool → List Int → Bool → List Int → Option (Bool × (List Int))
  | 0, _, _, _, _ => none
  | k + 1, x0, x1, x2, x3 => b0 k x0 x1 x2 x3
def anns : Anns := []
noncomputable def code : ACode := codeOf Tryz.f65 anns
def rs : List ResultVar := [.cell 4 40]
def decA : List AVal → Heap → Option (Bool × (List Int) × Bool × (List Int))
  | [.agg (.pair (.bool x0) (.pair (.slice 0 1 .all) .nil)), .agg (.pair (.bool x2) (.pair (.slice 1 1 .all) .nil))], [.row 0 1 false 3 (.int .i64 x1), .row 0 1 false 3 (.int .i64 x3)] => some (x0, x1, x2, x3)
  | _, _ => none
def encA (a : Bool × (List Int) × Bool × (List Int)) : List AVal × Heap := ([.agg (.pair (.bool a.1) (.pair (.slice 0 1 .all) .nil)), .agg (.pair (.bool a.2.2.1) (.pair (.slice 1 1 .all) .nil))], [.row 0 1 false 3 (.int .i64 a.2.1), .row 0 1 false 3 (.int .i64 a.2.2.2)])
def decB : AVal → Heap → Option (Bool × (List Int))
  | .agg (.pair (.bool y0) (.pair (.slice 2 1 .all) .nil)), [_, _, .row 0 1 true 3 (.int .i64 y1)] => some (y0, y1)
  | _, _ => none
def encB (b : Bool × (List Int)) : Out := (.agg (.pair (.bool b.1) (.pair (.slice 2 1 .all) .nil)), [], [.row 0 1 true 3 (.int .i64 b.2)])
def encK : EncK (Bool × (List Int)) := fun _ b K => K (encB b)
def X : List Ct := [cavilref07_plus.ct, cavilref07_trim.ct, cavilref07_Order.ct, cavilref07_minus.ct]
def ct : Ct := ⟨65, callRun cfg.tt [(40, false), (40, false)] decA (fun k a => m k a.1 a.2.1 a.2.2.1 a.2.2.2) false encK⟩
theorem ok : FnOk Tryz.prog cfg 65 40 code rs := .of Tryz.func65 (by kernel_rfl) rfl rfl (by kernel_rfl) (by kernel_rfl) rfl
abbrev kend : KK (Bool × (List Int)) := kEnd cfg.tt rs (kFin cfg.tt 2 false [40] [] [0, 1] decB)
noncomputable abbrev rn := run cfg X 40 2 code kend
theorem s0 (k : Nat) (J : Nat → Fr → Heap → Option (Bool × (List Int))) (x0 : Bool) (x1 : List Int) (x2 : Bool) (x3 : List Int) : stepJ cfg X 40 2 code kend k J 0 (argFr 0 (encA (x0, x1, x2, x3)).1) (encA (x0, x1, x2, x3)).2 = b0 k x0 x1 x2 x3 := by kernel_rfl
theorem run_ok : ∀ (k : Nat) (a : Bool × (List Int) × Bool × (List Int)), rn k 0 (argFr 0 (encA a).1) (encA a).2 = m k a.1 a.2.1 a.2.2.1 a.2.2.2
  | 0, _ => rfl
  | k + 1, (x0, x1, x2, x3) => by
    have h := s0 k (rn k) x0 x1 x2 x3
    exact h
theorem snd (k : Nat) : Snd Tryz.prog cfg k ct := fn_snd (X := X) cfgOk mixed ok (np := 2) (vps := []) (vws := [0, 1]) (decA := decA) (encA := encA) (decB := decB) (encB := encB) (encK := encK) (fun _ b _ => rfl)
  (by
    intro xs H a h
    unfold decA at h
    split at h
    · cases h; exact ⟨rfl, rfl, rfl, rfl⟩
    · cases h)
  (by
    intro v H b h
    unfold decB at h
    split at h
    · cases h; exact ⟨rfl, fun _ _ _ h => (by cases h), rfl⟩
    · cases h)
  rfl k (fun k' _ => AllS.mem (l := X) ⟨cavilref07_plus.snd k', cavilref07_trim.snd k', cavilref07_Order.snd k', cavilref07_minus.snd k', trivial⟩) (fun a => run_ok k a)
end cavilref07_Add

/-! cavil/cavilref07.Sub -/
namespace cavilref07_Sub
def b0 (k : Nat) (x0 : Bool) (x1 : List Int) (x2 : Bool) (x3 : List Int) : Option (Bool × (List Int)) :=
  bindO (cavilref07_trim.m k (!x2) x3) fun r1 =>
    bindO (cavilref07_Add.m k x0 x1 r1.1 (cut x3 0 r1.2)) fun r2 =>
      some (r2.1, r2.2)
def m : Nat → Bool → List Int → Bool → List Int → Option (Bool × (List Int))
  | 0, _, _, _, _ => none
  | k + 1, x0, x1, x2, x3 => b0 k x0 x1 x2 x3
def anns : Anns := []
noncomputable def code : ACode := codeOf Tryz.f105 anns
def rs : List ResultVar := [.cell 4 40]
def decA : List AVal → Heap → Option (Bool × (List Int) × Bool × (List Int))
  | [.agg (.pair (.bool x0) (.pair (.slice 0 1 .all) .nil)), .agg (.pair (.bool x2) (.pair (.slice 1 1 .all) .nil))], [.row 0 1 false 3 (.int .i64 x1), .row 0 1 false 3 (.int .i64 x3)] => some (x0, x1, x2, x3)
  | _, _ => none
def encA (a : Bool × (List Int) × Bool × (List Int)) : List AVal × Heap := ([.agg (.pair (.bool a.1) (.pair (.slice 0 1 .all) .nil)), .agg (.pair (.bool a.2.2.1) (.pair (.slice 1 1 .all) .nil))], [.row 0 1 false 3 (.int .i64 a.2.1), .row 0 1 false 3 (.int .i64 a.2.2.2)])
def decB : AVal → Heap → Option (Bool × (List Int))
  | .agg (.pair (.bool y0) (.pair (.slice 2 1 .all) .nil)), [_, _, .row 0 1 true 3 (.int .i64 y1)] => some (y0, y1)
  | _, _ => none
def encB (b : Bool × (List Int)) : Out := (.agg (.pair (.bool b.1) (.pair (.slice 2 1 .all) .nil)), [], [.row 0 1 true 3 (.int .i64 b.2)])
def encK : EncK (Bool × (List Int)) := fun _ b K => K (encB b)
def X : List Ct := [cavilref07_trim.ct, cavilref07_Add.ct]
def ct : Ct := ⟨105, callRun cfg.tt [(40, false), (40, false)] decA (fun k a => m k a.1 a.2.1 a.2.2.1 a.2.2.2) false encK⟩
theorem ok : FnOk Tryz.prog cfg 105 13 code rs := .of Tryz.func105 (by kernel_rfl) rfl rfl (by kernel_rfl) (by kernel_rfl) rfl
abbrev kend : KK (Bool × (List Int)) := kEnd cfg.tt rs (kFin cfg.tt 2 false [40] [] [0, 1] decB)
noncomputable abbrev rn := run cfg X 13 2 code kend
theorem s0 (k : Nat) (J : Nat → Fr → Heap → Option (Bool × (List Int))) (x0 : Bool) (x1 : List Int) (x2 : Bool) (x3 : List Int) : stepJ cfg X 13 2 code kend k J 0 (argFr 0 (encA (x0, x1, x2, x3)).1) (encA (x0, x1, x2, x3)).2 = b0 k x0 x1 x2 x3 := by kernel_rfl
theorem run_ok : ∀ (k : Nat) (a : Bool × (List Int) × Bool × (List Int)), rn k 0 (argFr 0 (encA a).1) (encA a).2 = m k a.1 a.2.1 a.2.2.1 a.2.2.2
  | 0, _ => rfl
  | k + 1, (x0, x1, x2, x3) => by
    have h := s0 k (rn k) x0 x1 x2 x3
    exact h
theorem snd (k : Nat) : Snd Tryz.prog cfg k ct := fn_snd (X := X) cfgOk mixed ok (np := 2) (vps := []) (vws := [0, 1]) (decA := decA) (encA := encA) (decB := decB) (encB := encB) (encK := encK) (fun _ b _ => rfl)
  (by
    intro xs H a h
    unfold decA at h
    split at h
    · cases h; exact ⟨rfl, rfl, rfl, rfl⟩
    · cases h)
  (by
    intro v H b h
    unfold decB at h
    split at h
    · cases h; exact ⟨rfl, fun _ _ _ h => (by cases h), rfl⟩
    · cases h)
  rfl k (fun k' _ => AllS.mem (l := X) ⟨cavilref07_trim.snd k', cavilref07_Add.snd k', trivial⟩) (fun a => run_ok k a)
end cavilref07_Sub

/-! cavil/cavilref07.Mul -/
namespace cavilref07_Mul
inductive St where
  | l1 (x0 : List Int) (x1 : List Int) (x2 : Bool) (x3 : Bool) (x4 : List Int) (x5 : Bool) (x6 : List Int) (x7 : Int)
  | l2 (x0 : List Int) (x1 : List Int) (x2 : Bool) (x3 : Bool) (x4 : List Int) (x5 : Bool) (x6 : List Int) (x7 : Int) (x8 : Int) (x9 : Int)
  | l3 (x0 : List Int) (x1 : List Int) (x2 : Bool) (x3 : Bool) (x4 : List Int) (x5 : Bool) (x6 : List Int) (x7 : Int) (x8 : Int) (x9 : Int) (x10 : Bool)
def St.lab : St → Nat
  | .l1 _ _ _ _ _ _ _ _ => 1
  | .l2 _ _ _ _ _ _ _ _ _ _ => 2
  | .l3 _ _ _ _ _ _ _ _ _ _ _ => 3
def St.fr : St → Fr
  | .l1 x0 x1 x2 x3 x4 x5 x6 x7 => [(2, .ptr 2 1 []), (3, .ptr 3 1 []), (4, .ptr 5 1 []), (5, .slice 6 1 .all), (6, .int .i64 x7)]
  | .l2 x0 x1 x2 x3 x4 x5 x6 x7 x8 x9 => [(2, .ptr 2 1 []), (3, .ptr 3 1 []), (4, .ptr 5 1 []), (5, .slice 6 1 .all), (6, .int .i64 x7), (7, .int .i64 x8), (8, .int .i64 x9)]
  | .l3 x0 x1 x2 x3 x4 x5 x6 x7 x8 x9 x10 => [(2, .ptr 2 1 []), (3, .ptr 3 1 []), (4, .ptr 5 1 []), (5, .slice 6 1 .all), (6, .int .i64 x7), (7, .int .i64 x8), (8, .int .i64 x9), (34, .bool x10)]
def St.hp : St → Heap
  | .l1 x0 x1 x2 x3 x4 x5 x6 x7 => [.row 0 1 false 3 (.int .i64 x0), .row 0 1 false 3 (.int .i64 x1), .var 0 40 (.agg (.pair (.bool x2) (.pair (.slice 0 1 .all) .nil))), .var 0 40 (.agg (.pair (.bool x3) (.pair (.slice 1 1 .all) .nil))), .row 0 1 true 3 (.int .i64 x4), .var 0 40 (.agg (.pair (.bool x5) (.pair (.slice 4 1 .all) .nil))), .row 0 1 true 3 (.int .i64 x6)]
  | .l2 x0 x1 x2 x3 x4 x5 x6 x7 x8 x9 => [.row 0 1 false 3 (.int .i64 x0), .row 0 1 false 3 (.int .i64 x1), .var 0 40 (.agg (.pair (.bool x2) (.pair (.slice 0 1 .all) .nil))), .var 0 40 (.agg (.pair (.bool x3) (.pair (.slice 1 1 .all) .nil))), .row 0 1 true 3 (.int .i64 x4), .var 0 40 (.agg (.pair (.bool x5) (.pair (.slice 4 1 .all) .nil))), .row 0 1 true 3 (.int .i64 x6)]
  | .l3 x0 x1 x2 x3 x4 x5 x6 x7 x8 x9 x10 => [.row 0 1 false 3 (.int .i64 x0), .row 0 1 false 3 (.int .i64 x1), .var 0 40 (.agg (.pair (.bool x2) (.pair (.slice 0 1 .all) .nil))), .var 0 40 (.agg (.pair (.bool x3) (.pair (.slice 1 1 .all) .nil))), .row 0 1 true 3 (.int .i64 x4), .var 0 40 (.agg (.pair (.bool x5) (.pair (.slice 4 1 .all) .nil))), .row 0 1 true 3 (.int .i64 x6)]
def b0 (k : Nat) (J : St → Option (Bool × (List Int))) (x0 : Bool) (x1 : List Int) (x2 : Bool) (x3 : List Int) : Option (Bool × (List Int)) :=
  gk ((nn (wr .i64 ((wr .i64 ((x1.length : Int) + (x3.length : Int))) + 1)) && (((wr .i64 ((wr .i64 ((x1.length : Int) + (x3.length : Int))) + 1)) == (wr .i64 ((wr .i64 ((x1.length : Int) + (x3.length : Int))) + 1))) && room (wr .i64 ((wr .i64 ((x1.length : Int) + (x3.length : Int))) + 1)).toNat)))
    (J (.l1 x1 x3 x0 x2 [] false (List.replicate (wr .i64 ((wr .i64 ((x1.length : Int) + (x3.length : Int))) + 1)).toNat (0 : Int)) 0))
def b1 (k : Nat) (J : St → Option (Bool × (List Int))) (x0 : List Int) (x1 : List Int) (x2 : Bool) (x3 : Bool) (x4 : List Int) (x5 : Bool) (x6 : List Int) (x7 : Int) : Option (Bool × (List Int)) :=
  bif (decide (x7 < (x0.length : Int))) then
    J (.l2 x0 x1 x2 x3 x4 x5 x6 x7 0 0)
  else
    bindO (cavilref07_trim.m k (!(x2 == x3)) x6) fun r1 =>
      some (r1.1, (cut x6 0 r1.2))
def b2 (k : Nat) (J : St → Option (Bool × (List Int))) (x0 : List Int) (x1 : List Int) (x2 : Bool) (x3 : Bool) (x4 : List Int) (x5 : Bool) (x6 : List Int) (x7 : Int) (x8 : Int) (x9 : Int) : Option (Bool × (List Int)) :=
  bif (decide (x9 < (x1.length : Int))) then
    J (.l3 x0 x1 x2 x3 x4 x5 x6 x7 x8 x9 true)
  else
    J (.l3 x0 x1 x2 x3 x4 x5 x6 x7 x8 x9 (decide (x8 > 0)))
def b3 (k : Nat) (J : St → Option (Bool × (List Int))) (x0 : List Int) (x1 : List Int) (x2 : Bool) (x3 : Bool) (x4 : List Int) (x5 : Bool) (x6 : List Int) (x7 : Int) (x8 : Int) (x9 : Int) (x10 : Bool) : Option (Bool × (List Int)) :=
  bif x10 then
    gk (inB (wr .i64 (x7 + x9)) x6.length)
      (gk (inB x7 x0.length)
        (bindO (cavilref07_digit.m k x1 x9) fun r1 =>
          gk (inB (wr .i64 (x7 + x9)) x6.length)
            (J (.l2 x0 x1 x2 x3 x4 x5 (x6.set (wr .i64 (x7 + x9)).toNat (remI (wr .i64 ((wr .i64 ((x6.getD (wr .i64 (x7 + x9)).toNat 0) + (wr .i64 ((x0.getD x7.toNat 0) * r1)))) + x8)) 65536)) x7 (quoI .i64 (wr .i64 ((wr .i64 ((x6.getD (wr .i64 (x7 + x9)).toNat 0) + (wr .i64 ((x0.getD x7.toNat 0) * r1)))) + x8)) 65536) (wr .i64 (x9 + 1))))))
  else
    J (.l1 x0 x1 x2 x3 x4 x5 x6 (wr .i64 (x7 + 1)))
def go : Nat → St → Option (Bool × (List Int))
  | 0, _ => none
  | k + 1, .l1 x0 x1 x2 x3 x4 x5 x6 x7 => b1 k (go k) x0 x1 x2 x3 x4 x5 x6 x7
  | k + 1, .l2 x0 x1 x2 x3 x4 x5 x6 x7 x8 x9 => b2 k (go k) x0 x1 x2 x3 x4 x5 x6 x7 x8 x9
  | k + 1, .l3 x0 x1 x2 x3 x4 x5 x6 x7 x8 x9 x10 => b3 k (go k) x0 x1 x2 x3 x4 x5 x6 x7 x8 x9 x10
def m : Nat → Bool → List Int → Bool → List Int → Option (Bool × (List Int))
  | 0, _, _, _, _ => none
  | k + 1, x0, x1, x2, x3 => b0 k (go k) x0 x1 x2 x3
def anns : Anns := [(4, 1, [(2, 0, false), (3, 0, false), (4, 0, false), (5, 38, false), (6, 3, false)]), (10, 2, [(2, 0, false), (3, 0, false), (4, 0, false), (5, 38, false), (6, 3, false), (7, 3, false), (8, 3, false)]), (12, 3, [(2, 0, false), (3, 0, false), (4, 0, false), (5, 38, false), (6, 3, false), (7, 3, false), (8, 3, false), (34, 4, false)])]
noncomputable def code : ACode := codeOf Tryz.f66 anns
def rs : List ResultVar := [.cell 4 40]
def decA : List AVal → Heap → Option (Bool × (List Int) × Bool × (List Int))
  | [.agg (.pair (.bool x0) (.pair (.slice 0 1 .all) .nil)), .agg (.pair (.bool x2) (.pair (.slice 1 1 .all) .nil))], [.row 0 1 false 3 (.int .i64 x1), .row 0 1 false 3 (.int .i64 x3)] => some (x0, x1, x2, x3)
  | _, _ => none
def encA (a : Bool × (List Int) × Bool × (List Int)) : List AVal × Heap := ([.agg (.pair (.bool a.1) (.pair (.slice 0 1 .all) .nil)), .agg (.pair (.bool a.2.2.1) (.pair (.slice 1 1 .all) .nil))], [.row 0 1 false 3 (.int .i64 a.2.1), .row 0 1 false 3 (.int .i64 a.2.2.2)])
def decB : AVal → Heap → Option (Bool × (List Int))
  | .agg (.pair (.bool y0) (.pair (.slice 2 1 .all) .nil)), [_, _, .row 0 1 true 3 (.int .i64 y1)] => some (y0, y1)
  | _, _ => none
def encB (b : Bool × (List Int)) : Out := (.agg (.pair (.bool b.1) (.pair (.slice 2 1 .all) .nil)), [], [.row 0 1 true 3 (.int .i64 b.2)])
def encK : EncK (Bool × (List Int)) := fun _ b K => K (encB b)
def X : List Ct := [cavilref07_trim.ct, cavilref07_digit.ct]
def ct : Ct := ⟨66, callRun cfg.tt [(40, false), (40, false)] decA (fun k a => m k a.1 a.2.1 a.2.2.1 a.2.2.2) false encK⟩
theorem ok : FnOk Tryz.prog cfg 66 72 code rs := .of Tryz.func66 (by kernel_rfl) rfl rfl (by kernel_rfl) (by kernel_rfl) rfl
abbrev kend : KK (Bool × (List Int)) := kEnd cfg.tt rs (kFin cfg.tt 2 false [40] [] [0, 1] decB)
noncomputable abbrev rn := run cfg X 72 2 code kend
theorem s0 (k : Nat) (J : Nat → Fr → Heap → Option (Bool × (List Int))) (x0 : Bool) (x1 : List Int) (x2 : Bool) (x3 : List Int) : stepJ cfg X 72 2 code kend k J 0 (argFr 0 (encA (x0, x1, x2, x3)).1) (encA (x0, x1, x2, x3)).2 = b0 k (fun s => J s.lab s.fr s.hp) x0 x1 x2 x3 := by kernel_rfl
theorem s1 (k : Nat) (J : Nat → Fr → Heap → Option (Bool × (List Int))) (x0 : List Int) (x1 : List Int) (x2 : Bool) (x3 : Bool) (x4 : List Int) (x5 : Bool) (x6 : List Int) (x7 : Int) : stepJ cfg X 72 2 code kend k J (St.l1 x0 x1 x2 x3 x4 x5 x6 x7).lab (St.l1 x0 x1 x2 x3 x4 x5 x6 x7).fr (St.l1 x0 x1 x2 x3 x4 x5 x6 x7).hp = b1 k (fun s => J s.lab s.fr s.hp) x0 x1 x2 x3 x4 x5 x6 x7 := by kernel_rfl
theorem s2 (k : Nat) (J : Nat → Fr → Heap → Option (Bool × (List Int))) (x0 : List Int) (x1 : List Int) (x2 : Bool) (x3 : Bool) (x4 : List Int) (x5 : Bool) (x6 : List Int) (x7 : Int) (x8 : Int) (x9 : Int) : stepJ cfg X 72 2 code kend k J (St.l2 x0 x1 x2 x3 x4 x5 x6 x7 x8 x9).lab (St.l2 x0 x1 x2 x3 x4 x5 x6 x7 x8 x9).fr (St.l2 x0 x1 x2 x3 x4 x5 x6 x7 x8 x9).hp = b2 k (fun s => J s.lab s.fr s.hp) x0 x1 x2 x3 x4 x5 x6 x7 x8 x9 := by kernel_rfl
theorem s3 (k : Nat) (J : Nat → Fr → Heap → Option (Bool × (List Int))) (x0 : List Int) (x1 : List Int) (x2 : Bool) (x3 : Bool) (x4 : List Int) (x5 : Bool) (x6 : List Int) (x7 : Int) (x8 : Int) (x9 : Int) (x10 : Bool) : stepJ cfg X 72 2 code kend k J (St.l3 x0 x1 x2 x3 x4 x5 x6 x7 x8 x9 x10).lab (St.l3 x0 x1 x2 x3 x4 x5 x6 x7 x8 x9 x10).fr (St.l3 x0 x1 x2 x3 x4 x5 x6 x7 x8 x9 x10).hp = b3 k (fun s => J s.lab s.fr s.hp) x0 x1 x2 x3 x4 x5 x6 x7 x8 x9 x10 := by kernel_rfl
theorem go_ok : ∀ (k : Nat) (s : St), rn k s.lab s.fr s.hp = go k s
  | 0, _ => rfl
  | k + 1, .l1 x0 x1 x2 x3 x4 x5 x6 x7 => by
    have h := s1 k (rn k) x0 x1 x2 x3 x4 x5 x6 x7
    rw [show (fun s : St => rn k s.lab s.fr s.hp) = go k from funext (go_ok k)] at h
    exact h
  | k + 1, .l2 x0 x1 x2 x3 x4 x5 x6 x7 x8 x9 => by
    have h := s2 k (rn k) x0 x1 x2 x3 x4 x5 x6 x7 x8 x9
    rw [show (fun s : St => rn k s.lab s.fr s.hp) = go k from funext (go_ok k)] at h
    exact h
  | k + 1, .l3 x0 x1 x2 x3 x4 x5 x6 x7 x8 x9 x10 => by
    have h := s3 k (rn k) x0 x1 x2 x3 x4 x5 x6 x7 x8 x9 x10
    rw [show (fun s : St => rn k s.lab s.fr s.hp) = go k from funext (go_ok k)] at h
    exact h
theorem run_ok : ∀ (k : Nat) (a : Bool × (List Int) × Bool × (List Int)), rn k 0 (argFr 0 (encA a).1) (encA a).2 = m k a.1 a.2.1 a.2.2.1 a.2.2.2
  | 0, _ => rfl
  | k + 1, (x0, x1, x2, x3) => by
    have h := s0 k (rn k) x0 x1 x2 x3
    rw [show (fun s : St => rn k s.lab s.fr s.hp) = go k from funext (go_ok k)] at h
    exact h
theorem snd (k : Nat) : Snd Tryz.prog cfg k ct := fn_snd (X := X) cfgOk mixed ok (np := 2) (vps := []) (vws := [0, 1]) (decA := decA) (encA := encA) (decB := decB) (encB := encB) (encK := encK) (fun _ b _ => rfl)
  (by
    intro xs H a h
    unfold decA at h
    split at h
    · cases h; exact ⟨rfl, rfl, rfl, rfl⟩
    · cases h)
  (by
    intro v H b h
    unfold decB at h
    split at h
    · cases h; exact ⟨rfl, fun _ _ _ h => (by cases h), rfl⟩
    · cases h)
  rfl k (fun k' _ => AllS.mem (l := X) ⟨cavilref07_trim.snd k', cavilref07_digit.snd k', trivial⟩) (fun a => run_ok k a)
end cavilref07_Mul

/-! cavil/cavilref07.Bits -/
namespace cavilref07_Bits
inductive St where
  | l1 (x0 : List Int) (x1 : Int) (x2 : Int)
def St.lab : St → Nat
  | .l1 _ _ _ => 1
def St.fr : St → Fr
  | .l1 x0 x1 x2 => [(3, .int .i64 x1), (4, .int .i64 x2)]
def St.hp : St → Heap
  | .l1 x0 x1 x2 => [.row 0 1 false 3 (.int .i64 x0)]
def b0 (k : Nat) (J : St → Option (Int)) (x0 : Bool) (x1 : List Int) : Option (Int) :=
  bif ((x1.length : Int) == 0) then
    some 0
  else
    gk (inB (wr .i64 ((x1.length : Int) - 1)) x1.length)
      (J (.l1 x1 (wr .i64 (16 * (wr .i64 ((x1.length : Int) - 1)))) (x1.getD (wr .i64 ((x1.length : Int) - 1)).toNat 0)))
def b1 (k : Nat) (J : St → Option (Int)) (x0 : List Int) (x1 : Int) (x2 : Int) : Option (Int) :=
  bif (decide (x2 > 0)) then
    J (.l1 x0 (wr .i64 (x1 + 1)) (quoI .i64 x2 2))
  else
    some x1
def go : Nat → St → Option (Int)
  | 0, _ => none
  | k + 1, .l1 x0 x1 x2 => b1 k (go k) x0 x1 x2
def m : Nat → Bool → List Int → Option (Int)
  | 0, _, _ => none
  | k + 1, x0, x1 => b0 k (go k) x0 x1
def anns : Anns := [(7, 1, [(3, 3, false), (4, 3, false)])]
noncomputable def code : ACode := codeOf Tryz.f121 anns
def rs : List ResultVar := [.tmp 2]
def decA : List AVal → Heap → Option (Bool × (List Int))
  | [.agg (.pair (.bool x0) (.pair (.slice 0 1 .all) .nil))], [.row 0 1 false 3 (.int .i64 x1)] => some (x0, x1)
  | _, _ => none
def encA (a : Bool × (List Int)) : List AVal × Heap := ([.agg (.pair (.bool a.1) (.pair (.slice 0 1 .all) .nil))], [.row 0 1 false 3 (.int .i64 a.2)])
def decB : AVal → Heap → Option (Int)
  | .int .i64 y0, [_] => some y0
  | _, _ => none
def encB (b : Int) : Out := (.int .i64 b, [], [])
def encK : EncK (Int) := fun _ b K => K (encB b)
def X : List Ct := []
def ct : Ct := ⟨121, callRun cfg.tt [(40, false)] decA (fun k a => m k a.1 a.2) false encK⟩
theorem ok : FnOk Tryz.prog cfg 121 29 code rs := .of Tryz.func121 (by kernel_rfl) rfl rfl (by kernel_rfl) (by kernel_rfl) rfl
abbrev kend : KK (Int) := kEnd cfg.tt rs (kFin cfg.tt 1 false [3] [] [0] decB)
noncomputable abbrev rn := run cfg X 29 1 code kend
theorem s0 (k : Nat) (J : Nat → Fr → Heap → Option (Int)) (x0 : Bool) (x1 : List Int) : stepJ cfg X 29 1 code kend k J 0 (argFr 0 (encA (x0, x1)).1) (encA (x0, x1)).2 = b0 k (fun s => J s.lab s.fr s.hp) x0 x1 := by kernel_rfl
theorem s1 (k : Nat) (J : Nat → Fr → Heap → Option (Int)) (x0 : List Int) (x1 : Int) (x2 : Int) : stepJ cfg X 29 1 code kend k J (St.l1 x0 x1 x2).lab (St.l1 x0 x1 x2).fr (St.l1 x0 x1 x2).hp = b1 k (fun s => J s.lab s.fr s.hp) x0 x1 x2 := by kernel_rfl
theorem go_ok : ∀ (k : Nat) (s : St), rn k s.lab s.fr s.hp = go k s
  | 0, _ => rfl
  | k + 1, .l1 x0 x1 x2 => by
    have h := s1 k (rn k) x0 x1 x2
    rw [show (fun s : St => rn k s.lab s.fr s.hp) = go k from funext (go_ok k)] at h
    exact h
theorem run_ok : ∀ (k : Nat) (a : Bool × (List Int)), rn k 0 (argFr 0 (encA a).1) (encA a).2 = m k a.1 a.2
  | 0, _ => rfl
  | k + 1, (x0, x1) => by
    have h := s0 k (rn k) x0 x1
    rw [show (fun s : St => rn k s.lab s.fr s.hp) = go k from funext (go_ok k)] at h
    exact h
theorem snd (k : Nat) : Snd Tryz.prog cfg k ct := fn_snd (X := X) cfgOk mixed ok (np := 1) (vps := []) (vws := [0]) (decA := decA) (encA := encA) (decB := decB) (encB := encB) (encK := encK) (fun _ b _ => rfl)
  (by
    intro xs H a h
    unfold decA at h
    split at h
    · cases h; exact ⟨rfl, rfl, rfl, rfl⟩
    · cases h)
  (by
    intro v H b h
    unfold decB at h
    split at h
    · cases h; exact ⟨rfl, fun _ _ _ h => (by cases h), rfl⟩
    · cases h)
  rfl k (fun k' _ => AllS.mem (l := X) trivial) (fun a => run_ok k a)
end cavilref07_Bits

/-! cavil/cavilref07.Power -/
namespace cavilref07_Power
def b0 (k : Nat) (x0 : Int) : Option (Bool × (List Int)) :=
  gk ((nn (wr .i64 ((quoI .i64 x0 16) + 1)) && (((wr .i64 ((quoI .i64 x0 16) + 1)) == (wr .i64 ((quoI .i64 x0 16) + 1))) && room (wr .i64 ((quoI .i64 x0 16) + 1)).toNat)))
    (gk (nn (remI x0 16))
      (gk (inB (quoI .i64 x0 16) (List.replicate (wr .i64 ((quoI .i64 x0 16) + 1)).toNat (0 : Int)).length)
        (bindO (cavilref07_trim.m k false ((List.replicate (wr .i64 ((quoI .i64 x0 16) + 1)).toNat (0 : Int)).set (quoI .i64 x0 16).toNat (shlI .i64 1 (remI x0 16)))) fun r1 =>
          some (r1.1, (cut ((List.replicate (wr .i64 ((quoI .i64 x0 16) + 1)).toNat (0 : Int)).set (quoI .i64 x0 16).toNat (shlI .i64 1 (remI x0 16))) 0 r1.2)))))
def m : Nat → Int → Option (Bool × (List Int))
  | 0, _ => none
  | k + 1, x0 => b0 k x0
def anns : Anns := []
noncomputable def code : ACode := codeOf Tryz.f122 anns
def rs : List ResultVar := [.cell 2 40]
def decA : List AVal → Heap → Option (Int)
  | [.int .i64 x0], [] => some x0
  | _, _ => none
def encA (a : Int) : List AVal × Heap := ([.int .i64 a], [])
def decB : AVal → Heap → Option (Bool × (List Int))
  | .agg (.pair (.bool y0) (.pair (.slice 0 1 .all) .nil)), [.row 0 1 true 3 (.int .i64 y1)] => some (y0, y1)
  | _, _ => none
def encB (b : Bool × (List Int)) : Out := (.agg (.pair (.bool b.1) (.pair (.slice 0 1 .all) .nil)), [], [.row 0 1 true 3 (.int .i64 b.2)])
def encK : EncK (Bool × (List Int)) := fun _ b K => K (encB b)
def X : List Ct := [cavilref07_trim.ct]
def ct : Ct := ⟨122, callRun cfg.tt [(3, false)] decA (fun k a => m k a) false encK⟩
theorem ok : FnOk Tryz.prog cfg 122 17 code rs := .of Tryz.func122 (by kernel_rfl) rfl rfl (by kernel_rfl) (by kernel_rfl) rfl
abbrev kend : KK (Bool × (List Int)) := kEnd cfg.tt rs (kFin cfg.tt 0 false [40] [] [] decB)
noncomputable abbrev rn := run cfg X 17 0 code kend
theorem s0 (k : Nat) (J : Nat → Fr → Heap → Option (Bool × (List Int))) (x0 : Int) : stepJ cfg X 17 0 code kend k J 0 (argFr 0 (encA x0).1) (encA x0).2 = b0 k x0 := by kernel_rfl
theorem run_ok : ∀ (k : Nat) (a : Int), rn k 0 (argFr 0 (encA a).1) (encA a).2 = m k a
  | 0, _ => rfl
  | k + 1, x0 => by
    have h := s0 k (rn k) x0
    exact h
theorem snd (k : Nat) : Snd Tryz.prog cfg k ct := fn_snd (X := X) cfgOk mixed ok (np := 0) (vps := []) (vws := []) (decA := decA) (encA := encA) (decB := decB) (encB := encB) (encK := encK) (fun _ b _ => rfl)
  (by
    intro xs H a h
    unfold decA at h
    split at h
    · cases h; exact ⟨rfl, rfl, rfl, rfl⟩
    · cases h)
  (by
    intro v H b h
    unfold decB at h
    split at h
    · cases h; exact ⟨rfl, fun _ _ _ h => (by cases h), rfl⟩
    · cases h)
  rfl k (fun k' _ => AllS.mem (l := X) ⟨cavilref07_trim.snd k', trivial⟩) (fun a => run_ok k a)
end cavilref07_Power

/-! cavil/cavilref07.Div -/
namespace cavilref07_Div
inductive St where
  | l1 (x0 : List Int) (x1 : List Int) (x2 : Bool) (x3 : Bool) (x4 : List Int) (x5 : Bool) (x6 : List Int) (x7 : Bool) (x8 : List Int) (x9 : List Int) (x10 : Int)
  | l2 (x0 : List Int) (x1 : List Int) (x2 : Bool) (x3 : Bool) (x4 : List Int) (x5 : Bool) (x6 : List Int) (x7 : Bool) (x8 : List Int) (x9 : List Int) (x10 : Int) (x11 : Int)
  | l3 (x0 : List Int) (x1 : List Int) (x2 : Bool) (x3 : Bool) (x4 : List Int) (x5 : Bool) (x6 : List Int) (x7 : Bool) (x8 : List Int) (x9 : List Int) (x10 : Int) (x11 : Int)
def St.lab : St → Nat
  | .l1 _ _ _ _ _ _ _ _ _ _ _ => 1
  | .l2 _ _ _ _ _ _ _ _ _ _ _ _ => 2
  | .l3 _ _ _ _ _ _ _ _ _ _ _ _ => 3
def St.fr : St → Fr
  | .l1 x0 x1 x2 x3 x4 x5 x6 x7 x8 x9 x10 => [(2, .ptr 2 1 []), (3, .ptr 3 1 []), (4, .ptr 5 1 []), (5, .ptr 7 1 []), (6, .slice 8 1 .all), (7, .slice 9 1 .all), (8, .int .i64 x10)]
  | .l2 x0 x1 x2 x3 x4 x5 x6 x7 x8 x9 x10 x11 => [(2, .ptr 2 1 []), (3, .ptr 3 1 []), (4, .ptr 5 1 []), (5, .ptr 7 1 []), (6, .slice 8 1 .all), (7, .slice 9 1 .all), (8, .int .i64 x10), (9, .int .i64 x11)]
  | .l3 x0 x1 x2 x3 x4 x5 x6 x7 x8 x9 x10 x11 => [(2, .ptr 2 1 []), (3, .ptr 3 1 []), (4, .ptr 5 1 []), (5, .ptr 7 1 []), (6, .slice 8 1 .all), (7, .slice 9 1 .all), (8, .int .i64 x10), (9, .int .i64 x11)]
def St.hp : St → Heap
  | .l1 x0 x1 x2 x3 x4 x5 x6 x7 x8 x9 x10 => [.row 0 1 false 3 (.int .i64 x0), .row 0 1 false 3 (.int .i64 x1), .var 0 40 (.agg (.pair (.bool x2) (.pair (.slice 0 1 .all) .nil))), .var 0 40 (.agg (.pair (.bool x3) (.pair (.slice 1 1 .all) .nil))), .row 0 1 true 3 (.int .i64 x4), .var 0 40 (.agg (.pair (.bool x5) (.pair (.slice 4 1 .all) .nil))), .row 0 1 true 3 (.int .i64 x6), .var 0 40 (.agg (.pair (.bool x7) (.pair (.slice 6 1 .all) .nil))), .row 0 1 true 3 (.int .i64 x8), .row 0 1 true 3 (.int .i64 x9)]
  | .l2 x0 x1 x2 x3 x4 x5 x6 x7 x8 x9 x10 x11 => [.row 0 1 false 3 (.int .i64 x0), .row 0 1 false 3 (.int .i64 x1), .var 0 40 (.agg (.pair (.bool x2) (.pair (.slice 0 1 .all) .nil))), .var 0 40 (.agg (.pair (.bool x3) (.pair (.slice 1 1 .all) .nil))), .row 0 1 true 3 (.int .i64 x4), .var 0 40 (.agg (.pair (.bool x5) (.pair (.slice 4 1 .all) .nil))), .row 0 1 true 3 (.int .i64 x6), .var 0 40 (.agg (.pair (.bool x7) (.pair (.slice 6 1 .all) .nil))), .row 0 1 true 3 (.int .i64 x8), .row 0 1 true 3 (.int .i64 x9)]
  | .l3 x0 x1 x2 x3 x4 x5 x6 x7 x8 x9 x10 x11 => [.row 0 1 false 3 (.int .i64 x0), .row 0 1 false 3 (.int .i64 x1), .var 0 40 (.agg (.pair (.bool x2) (.pair (.slice 0 1 .all) .nil))), .var 0 40 (.agg (.pair (.bool x3) (.pair (.slice 1 1 .all) .nil))), .row 0 1 true 3 (.int .i64 x4), .var 0 40 (.agg (.pair (.bool x5) (.pair (.slice 4 1 .all) .nil))), .row 0 1 true 3 (.int .i64 x6), .var 0 40 (.agg (.pair (.bool x7) (.pair (.slice 6 1 .all) .nil))), .row 0 1 true 3 (.int .i64 x8), .row 0 1 true 3 (.int .i64 x9)]
def b0 (k : Nat) (J : St → Option (Bool × Bool × (List Int) × (List Int))) (x0 : Bool) (x1 : List Int) (x2 : Bool) (x3 : List Int) : Option (Bool × Bool × (List Int) × (List Int)) :=
  gk ((nn (x1.length : Int) && (((x1.length : Int) == (x1.length : Int)) && room (x1.length : Int).toNat)))
    (J (.l1 x1 x3 x0 x2 [] false [] false [] (List.replicate (x1.length : Int).toNat (0 : Int)) (wr .i64 ((x1.length : Int) - 1))))
def b1 (k : Nat) (J : St → Option (Bool × Bool × (List Int) × (List Int))) (x0 : List Int) (x1 : List Int) (x2 : Bool) (x3 : Bool) (x4 : List Int) (x5 : Bool) (x6 : List Int) (x7 : Bool) (x8 : List Int) (x9 : List Int) (x10 : Int) : Option (Bool × Bool × (List Int) × (List Int)) :=
  bif (decide (x10 ≥ 0)) then
    J (.l2 x0 x1 x2 x3 x4 x5 x6 x7 x8 x9 x10 15)
  else
    bindO (cavilref07_trim.m k (!(x2 == x3)) x9) fun r1 =>
      bindO (cavilref07_trim.m k x2 x8) fun r2 =>
        some (r1.1, r2.1, (cut x9 0 r1.2), (cut x8 0 r2.2))
def b2 (k : Nat) (J : St → Option (Bool × Bool × (List Int) × (List Int))) (x0 : List Int) (x1 : List Int) (x2 : Bool) (x3 : Bool) (x4 : List Int) (x5 : Bool) (x6 : List Int) (x7 : Bool) (x8 : List Int) (x9 : List Int) (x10 : Int) (x11 : Int) : Option (Bool × Bool × (List Int) × (List Int)) :=
  bif (decide (x11 ≥ 0)) then
    bindO (cavilref07_plus.m k x8 x8) fun r1 =>
      bindO (cavilref07_trim.m k false r1) fun r2 =>
        gk (inB x10 x0.length)
          (gk (nn x11)
            (bif ((Go.bits .and .i64 (shrI .i64 (x0.getD x10.toNat 0) x11) 1) == 1) then
              bindO (cavilref07_plus.m k (cut r1 0 r2.2) ([1] : List Int)) fun r3 =>
                J (.l3 x0 x1 x2 x3 x4 x5 x6 x7 r3 x9 x10 x11)
            else
              J (.l3 x0 x1 x2 x3 x4 x5 x6 x7 (cut r1 0 r2.2) x9 x10 x11)))
  else
    J (.l1 x0 x1 x2 x3 x4 x5 x6 x7 x8 x9 (wr .i64 (x10 - 1)))
def b3 (k : Nat) (J : St → Option (Bool × Bool × (List Int) × (List Int))) (x0 : List Int) (x1 : List Int) (x2 : Bool) (x3 : Bool) (x4 : List Int) (x5 : Bool) (x6 : List Int) (x7 : Bool) (x8 : List Int) (x9 : List Int) (x10 : Int) (x11 : Int) : Option (Bool × Bool × (List Int) × (List Int)) :=
  bindO (cavilref07_Order.m k x8 x1) fun r1 =>
    bif (decide (r1 ≥ 0)) then
      bindO (cavilref07_minus.m k x8 x1) fun r2 =>
        bindO (cavilref07_trim.m k false r2) fun r3 =>
          gk (inB x10 x9.length)
            (gk (nn x11)
              (gk (inB x10 x9.length)
                (J (.l2 x0 x1 x2 x3 x4 x5 x6 x7 (cut r2 0 r3.2) (x9.set x10.toNat (wr .i64 ((x9.getD x10.toNat 0) + (shlI .i64 1 x11)))) x10 (wr .i64 (x11 - 1))))))
    else
      J (.l2 x0 x1 x2 x3 x4 x5 x6 x7 x8 x9 x10 (wr .i64 (x11 - 1)))
def go : Nat → St → Option (Bool × Bool × (List Int) × (List Int))
  | 0, _ => none
  | k + 1, .l1 x0 x1 x2 x3 x4 x5 x6 x7 x8 x9 x10 => b1 k (go k) x0 x1 x2 x3 x4 x5 x6 x7 x8 x9 x10
  | k + 1, .l2 x0 x1 x2 x3 x4 x5 x6 x7 x8 x9 x10 x11 => b2 k (go k) x0 x1 x2 x3 x4 x5 x6 x7 x8 x9 x10 x11
  | k + 1, .l3 x0 x1 x2 x3 x4 x5 x6 x7 x8 x9 x10 x11 => b3 k (go k) x0 x1 x2 x3 x4 x5 x6 x7 x8 x9 x10 x11
def m : Nat → Bool → List Int → Bool → List Int → Option (Bool × Bool × (List Int) × (List Int))
  | 0, _, _, _, _ => none
  | k + 1, x0, x1, x2, x3 => b0 k (go k) x0 x1 x2 x3
def anns : Anns := [(5, 1, [(2, 0, false), (3, 0, false), (4, 0, false), (5, 0, false), (6, 38, false), (7, 38, false), (8, 3, false)]), (10, 2, [(2, 0, false), (3, 0, false), (4, 0, false), (5, 0, false), (6, 38, false), (7, 38, false), (8, 3, false), (9, 3, false)]), (15, 3, [(2, 0, false), (3, 0, false), (4, 0, false), (5, 0, false), (6, 38, false), (7, 38, false), (8, 3, false), (9, 3, false)])]
noncomputable def code : ACode := codeOf Tryz.f123 anns
def rs : List ResultVar := [.cell 4 40, .cell 5 40]
def decA : List AVal → Heap → Option (Bool × (List Int) × Bool × (List Int))
  | [.agg (.pair (.bool x0) (.pair (.slice 0 1 .all) .nil)), .agg (.pair (.bool x2) (.pair (.slice 1 1 .all) .nil))], [.row 0 1 false 3 (.int .i64 x1), .row 0 1 false 3 (.int .i64 x3)] => some (x0, x1, x2, x3)
  | _, _ => none
def encA (a : Bool × (List Int) × Bool × (List Int)) : List AVal × Heap := ([.agg (.pair (.bool a.1) (.pair (.slice 0 1 .all) .nil)), .agg (.pair (.bool a.2.2.1) (.pair (.slice 1 1 .all) .nil))], [.row 0 1 false 3 (.int .i64 a.2.1), .row 0 1 false 3 (.int .i64 a.2.2.2)])
def decB : AVal → Heap → Option (Bool × Bool × (List Int) × (List Int))
  | .tup (.pair (.agg (.pair (.bool y0) (.pair (.slice 2 1 .all) .nil))) (.pair (.agg (.pair (.bool y1) (.pair (.slice 3 1 .all) .nil))) .nil)), [_, _, .row 0 1 true 3 (.int .i64 y2), .row 0 1 true 3 (.int .i64 y3)] => some (y0, y1, y2, y3)
  | _, _ => none
def encB (b : Bool × Bool × (List Int) × (List Int)) : Out := (.tup (.pair (.agg (.pair (.bool b.1) (.pair (.slice 2 1 .all) .nil))) (.pair (.agg (.pair (.bool b.2.1) (.pair (.slice 3 1 .all) .nil))) .nil)), [], [.row 0 1 true 3 (.int .i64 b.2.2.1), .row 0 1 true 3 (.int .i64 b.2.2.2)])
def encK : EncK (Bool × Bool × (List Int) × (List Int)) := fun _ b K => K (encB b)
def X : List Ct := [cavilref07_trim.ct, cavilref07_plus.ct, cavilref07_Order.ct, cavilref07_minus.ct]
def ct : Ct := ⟨123, callRun cfg.tt [(40, false), (40, false)] decA (fun k a => m k a.1 a.2.1 a.2.2.1 a.2.2.2) false encK⟩
theorem ok : FnOk Tryz.prog cfg 123 75 code rs := .of Tryz.func123 (by kernel_rfl) rfl rfl (by kernel_rfl) (by kernel_rfl) rfl
abbrev kend : KK (Bool × Bool × (List Int) × (List Int)) := kEnd cfg.tt rs (kFin cfg.tt 2 false [40, 40] [] [0, 1] decB)
noncomputable abbrev rn := run cfg X 75 2 code kend
theorem s0 (k : Nat) (J : Nat → Fr → Heap → Option (Bool × Bool × (List Int) × (List Int))) (x0 : Bool) (x1 : List Int) (x2 : Bool) (x3 : List Int) : stepJ cfg X 75 2 code kend k J 0 (argFr 0 (encA (x0, x1, x2, x3)).1) (encA (x0, x1, x2, x3)).2 = b0 k (fun s => J s.lab s.fr s.hp) x0 x1 x2 x3 := by kernel_rfl
theorem s1 (k : Nat) (J : Nat → Fr → Heap → Option (Bool × Bool × (List Int) × (List Int))) (x0 : List Int) (x1 : List Int) (x2 : Bool) (x3 : Bool) (x4 : List Int) (x5 : Bool) (x6 : List Int) (x7 : Bool) (x8 : List Int) (x9 : List Int) (x10 : Int) : stepJ cfg X 75 2 code kend k J (St.l1 x0 x1 x2 x3 x4 x5 x6 x7 x8 x9 x10).lab (St.l1 x0 x1 x2 x3 x4 x5 x6 x7 x8 x9 x10).fr (St.l1 x0 x1 x2 x3 x4 x5 x6 x7 x8 x9 x10).hp = b1 k (fun s => J s.lab s.fr s.hp) x0 x1 x2 x3 x4 x5 x6 x7 x8 x9 x10 := by kernel_rfl
theorem s2 (k : Nat) (J : Nat → Fr → Heap → Option (Bool × Bool × (List Int) × (List Int))) (x0 : List Int) (x1 : List Int) (x2 : Bool) (x3 : Bool) (x4 : List Int) (x5 : Bool) (x6 : List Int) (x7 : Bool) (x8 : List Int) (x9 : List Int) (x10 : Int) (x11 : Int) : stepJ cfg X 75 2 code kend k J (St.l2 x0 x1 x2 x3 x4 x5 x6 x7 x8 x9 x10 x11).lab (St.l2 x0 x1 x2 x3 x4 x5 x6 x7 x8 x9 x10 x11).fr (St.l2 x0 x1 x2 x3 x4 x5 x6 x7 x8 x9 x10 x11).hp = b2 k (fun s => J s.lab s.fr s.hp) x0 x1 x2 x3 x4 x5 x6 x7 x8 x9 x10 x11 := by kernel_rfl
theorem s3 (k : Nat) (J : Nat → Fr → Heap → Option (Bool × Bool × (List Int) × (List Int))) (x0 : List Int) (x1 : List Int) (x2 : Bool) (x3 : Bool) (x4 : List Int) (x5 : Bool) (x6 : List Int) (x7 : Bool) (x8 : List Int) (x9 : List Int) (x10 : Int) (x11 : Int) : stepJ cfg X 75 2 code kend k J (St.l3 x0 x1 x2 x3 x4 x5 x6 x7 x8 x9 x10 x11).lab (St.l3 x0 x1 x2 x3 x4 x5 x6 x7 x8 x9 x10 x11).fr (St.l3 x0 x1 x2 x3 x4 x5 x6 x7 x8 x9 x10 x11).hp = b3 k (fun s => J s.lab s.fr s.hp) x0 x1 x2 x3 x4 x5 x6 x7 x8 x9 x10 x11 := by kernel_rfl
theorem go_ok : ∀ (k : Nat) (s : St), rn k s.lab s.fr s.hp = go k s
  | 0, _ => rfl
  | k + 1, .l1 x0 x1 x2 x3 x4 x5 x6 x7 x8 x9 x10 => by
    have h := s1 k (rn k) x0 x1 x2 x3 x4 x5 x6 x7 x8 x9 x10
    rw [show (fun s : St => rn k s.lab s.fr s.hp) = go k from funext (go_ok k)] at h
    exact h
  | k + 1, .l2 x0 x1 x2 x3 x4 x5 x6 x7 x8 x9 x10 x11 => by
    have h := s2 k (rn k) x0 x1 x2 x3 x4 x5 x6 x7 x8 x9 x10 x11
    rw [show (fun s : St => rn k s.lab s.fr s.hp) = go k from funext (go_ok k)] at h
    exact h
  | k + 1, .l3 x0 x1 x2 x3 x4 x5 x6 x7 x8 x9 x10 x11 => by
    have h := s3 k (rn k) x0 x1 x2 x3 x4 x5 x6 x7 x8 x9 x10 x11
    rw [show (fun s : St => rn k s.lab s.fr s.hp) = go k from funext (go_ok k)] at h
    exact h
theorem run_ok : ∀ (k : Nat) (a : Bool × (List Int) × Bool × (List Int)), rn k 0 (argFr 0 (encA a).1) (encA a).2 = m k a.1 a.2.1 a.2.2.1 a.2.2.2
  | 0, _ => rfl
  | k + 1, (x0, x1, x2, x3) => by
    have h := s0 k (rn k) x0 x1 x2 x3
    rw [show (fun s : St => rn k s.lab s.fr s.hp) = go k from funext (go_ok k)] at h
    exact h
theorem snd (k : Nat) : Snd Tryz.prog cfg k ct := fn_snd (X := X) cfgOk mixed ok (np := 2) (vps := []) (vws := [0, 1]) (decA := decA) (encA := encA) (decB := decB) (encB := encB) (encK := encK) (fun _ b _ => rfl)
  (by
    intro xs H a h
    unfold decA at h
    split at h
    · cases h; exact ⟨rfl, rfl, rfl, rfl⟩
    · cases h)
  (by
    intro v H b h
    unfold decB at h
    split at h
    · cases h; exact ⟨rfl, fun _ _ _ h => (by cases h), rfl⟩
    · cases h)
  rfl k (fun k' _ => AllS.mem (l := X) ⟨cavilref07_trim.snd k', cavilref07_plus.snd k', cavilref07_Order.snd k', cavilref07_minus.snd k', trivial⟩) (fun a => run_ok k a)
end cavilref07_Div

/-! cavil/cavilref07.Gcd -/
namespace cavilref07_Gcd
inductive Rs where
  | r1 (y0 : Bool) (y1 : Int) (y2 : Int)
  | r2 (y0 : Bool) (y1 : Int) (y2 : Int)
  | r3 (y0 : Bool) (y1 : List Int)
inductive St where
  | l1 (x0 : List Int) (x1 : List Int) (x2 : List Int) (x3 : Bool) (x4 : Bool) (x5 : Int) (x6 : Int) (x7 : Bool) (x8 : Int) (x9 : Int)
  | l2 (x0 : List Int) (x1 : List Int) (x2 : List Int) (x3 : Bool) (x4 : Bool) (x5 : Int) (x6 : Int) (x7 : Bool) (x8 : Int) (x9 : Int)
  | l3 (x0 : List Int) (x1 : List Int) (x2 : List Int) (x3 : Bool) (x4 : Bool) (x5 : Int) (x6 : Int) (x7 : List Int) (x8 : Bool)
  | l4 (x0 : List Int) (x1 : List Int) (x2 : List Int) (x3 : Bool) (x4 : Bool) (x5 : Int) (x6 : Int) (x7 : List Int) (x8 : Bool)
  | l5 (x0 : List Int) (x1 : List Int) (x2 : List Int) (x3 : Bool) (x4 : List Int) (x5 : Bool) (x6 : Bool) (x7 : Int) (x8 : Int)
  | l6 (x0 : List Int) (x1 : List Int) (x2 : List Int) (x3 : Bool) (x4 : List Int) (x5 : Bool) (x6 : List Int) (x7 : Bool)
  | l7 (x0 : List Int) (x1 : List Int) (x2 : List Int) (x3 : Bool) (x4 : List Int) (x5 : Bool) (x6 : Bool) (x7 : Int) (x8 : Int)
def St.lab : St → Nat
  | .l1 _ _ _ _ _ _ _ _ _ _ => 1
  | .l2 _ _ _ _ _ _ _ _ _ _ => 1
  | .l3 _ _ _ _ _ _ _ _ _ => 1
  | .l4 _ _ _ _ _ _ _ _ _ => 1
  | .l5 _ _ _ _ _ _ _ _ _ => 1
  | .l6 _ _ _ _ _ _ _ _ => 1
  | .l7 _ _ _ _ _ _ _ _ _ => 1
def St.fr : St → Fr
  | .l1 x0 x1 x2 x3 x4 x5 x6 x7 x8 x9 => [(4, .ptr 3 1 []), (5, .ptr 4 1 []), (6, .ptr 5 1 [])]
  | .l2 x0 x1 x2 x3 x4 x5 x6 x7 x8 x9 => [(4, .ptr 3 1 []), (5, .ptr 4 1 []), (6, .ptr 5 1 [])]
  | .l3 x0 x1 x2 x3 x4 x5 x6 x7 x8 => [(4, .ptr 3 1 []), (5, .ptr 4 1 []), (6, .ptr 6 1 [])]
  | .l4 x0 x1 x2 x3 x4 x5 x6 x7 x8 => [(4, .ptr 3 1 []), (5, .ptr 4 1 []), (6, .ptr 6 1 [])]
  | .l5 x0 x1 x2 x3 x4 x5 x6 x7 x8 => [(4, .ptr 3 1 []), (5, .ptr 5 1 []), (6, .ptr 6 1 [])]
  | .l6 x0 x1 x2 x3 x4 x5 x6 x7 => [(4, .ptr 3 1 []), (5, .ptr 5 1 []), (6, .ptr 7 1 [])]
  | .l7 x0 x1 x2 x3 x4 x5 x6 x7 x8 => [(4, .ptr 3 1 []), (5, .ptr 5 1 []), (6, .ptr 6 1 [])]
def St.hp : St → Heap
  | .l1 x0 x1 x2 x3 x4 x5 x6 x7 x8 x9 => [.row 0 1 false 3 (.int .i64 x0), .row 0 1 false 3 (.int .i64 x1), .row 0 1 true 3 (.int .i64 x2), .var 0 40 (.agg (.pair (.bool x3) (.pair (.slice 2 1 .all) .nil))), .var 0 40 (.agg (.pair (.bool x4) (.pair (.slice 0 1 (.cut .all x5 x6)) .nil))), .var 0 40 (.agg (.pair (.bool x7) (.pair (.slice 1 1 (.cut .all x8 x9)) .nil)))]
  | .l2 x0 x1 x2 x3 x4 x5 x6 x7 x8 x9 => [.row 0 1 false 3 (.int .i64 x0), .row 0 1 false 3 (.int .i64 x1), .row 0 1 true 3 (.int .i64 x2), .var 0 40 (.agg (.pair (.bool x3) (.pair (.slice 2 1 .all) .nil))), .var 0 40 (.agg (.pair (.bool x4) (.pair (.slice 1 1 (.cut .all x5 x6)) .nil))), .var 0 40 (.agg (.pair (.bool x7) (.pair (.slice 0 1 (.cut .all x8 x9)) .nil)))]
  | .l3 x0 x1 x2 x3 x4 x5 x6 x7 x8 => [.row 0 1 false 3 (.int .i64 x0), .row 0 1 false 3 (.int .i64 x1), .row 0 1 true 3 (.int .i64 x2), .var 0 40 (.agg (.pair (.bool x3) (.pair (.slice 2 1 .all) .nil))), .var 0 40 (.agg (.pair (.bool x4) (.pair (.slice 1 1 (.cut .all x5 x6)) .nil))), .row 0 1 true 3 (.int .i64 x7), .var 0 40 (.agg (.pair (.bool x8) (.pair (.slice 5 1 .all) .nil)))]
  | .l4 x0 x1 x2 x3 x4 x5 x6 x7 x8 => [.row 0 1 false 3 (.int .i64 x0), .row 0 1 false 3 (.int .i64 x1), .row 0 1 true 3 (.int .i64 x2), .var 0 40 (.agg (.pair (.bool x3) (.pair (.slice 2 1 .all) .nil))), .var 0 40 (.agg (.pair (.bool x4) (.pair (.slice 0 1 (.cut .all x5 x6)) .nil))), .row 0 1 true 3 (.int .i64 x7), .var 0 40 (.agg (.pair (.bool x8) (.pair (.slice 5 1 .all) .nil)))]
  | .l5 x0 x1 x2 x3 x4 x5 x6 x7 x8 => [.row 0 1 false 3 (.int .i64 x0), .row 0 1 false 3 (.int .i64 x1), .row 0 1 true 3 (.int .i64 x2), .var 0 40 (.agg (.pair (.bool x3) (.pair (.slice 2 1 .all) .nil))), .row 0 1 true 3 (.int .i64 x4), .var 0 40 (.agg (.pair (.bool x5) (.pair (.slice 4 1 .all) .nil))), .var 0 40 (.agg (.pair (.bool x6) (.pair (.slice 1 1 (.cut .all x7 x8)) .nil)))]
  | .l6 x0 x1 x2 x3 x4 x5 x6 x7 => [.row 0 1 false 3 (.int .i64 x0), .row 0 1 false 3 (.int .i64 x1), .row 0 1 true 3 (.int .i64 x2), .var 0 40 (.agg (.pair (.bool x3) (.pair (.slice 2 1 .all) .nil))), .row 0 1 true 3 (.int .i64 x4), .var 0 40 (.agg (.pair (.bool x5) (.pair (.slice 4 1 .all) .nil))), .row 0 1 true 3 (.int .i64 x6), .var 0 40 (.agg (.pair (.bool x7) (.pair (.slice 6 1 .all) .nil)))]
  | .l7 x0 x1 x2 x3 x4 x5 x6 x7 x8 => [.row 0 1 false 3 (.int .i64 x0), .row 0 1 false 3 (.int .i64 x1), .row 0 1 true 3 (.int .i64 x2), .var 0 40 (.agg (.pair (.bool x3) (.pair (.slice 2 1 .all) .nil))), .row 0 1 true 3 (.int .i64 x4), .var 0 40 (.agg (.pair (.bool x5) (.pair (.slice 4 1 .all) .nil))), .var 0 40 (.agg (.pair (.bool x6) (.pair (.slice 0 1 (.cut .all x7 x8)) .nil)))]
def b0 (k : Nat) (J : St → Option (Rs)) (x0 : Bool) (x1 : List Int) (x2 : Bool) (x3 : List Int) : Option (Rs) :=
  bindO (cavilref07_trim.m k false x1) fun r1 =>
    bindO (cavilref07_trim.m k false x3) fun r2 =>
      J (.l1 x1 x3 [] false r1.1 0 r1.2 r2.1 0 r2.2)
def b1 (k : Nat) (J : St → Option (Rs)) (x0 : List Int) (x1 : List Int) (x2 : List Int) (x3 : Bool) (x4 : Bool) (x5 : Int) (x6 : Int) (x7 : Bool) (x8 : Int) (x9 : Int) : Option (Rs) :=
  bif (decide (((cut x1 x8 x9).length : Int) > 0)) then
    bindO (cavilref07_Order.m k (cut x0 x5 x6) (cut x1 x8 x9)) fun r1 =>
      bif (decide (r1 < 0)) then
        J (.l2 x0 x1 x2 x3 x7 x8 x9 x4 x5 x6)
      else
        bindO (cavilref07_Bits.m k x4 (cut x0 x5 x6)) fun r2 =>
          bindO (cavilref07_Bits.m k x7 (cut x1 x8 x9)) fun r3 =>
            bindO (cavilref07_Power.m k (wr .i64 (r2 - r3))) fun r4 =>
              bindO (cavilref07_Mul.m k x7 (cut x1 x8 x9) r4.1 r4.2) fun r5 =>
                bindO (cavilref07_Order.m k r5.2 (cut x0 x5 x6)) fun r6 =>
                  bif (decide (r6 > 0)) then
                    bindO (cavilref07_Power.m k (wr .i64 ((wr .i64 (r2 - r3)) - 1))) fun r7 =>
                      bindO (cavilref07_Mul.m k x7 (cut x1 x8 x9) r7.1 r7.2) fun r8 =>
                        bindO (cavilref07_Sub.m k x4 (cut x0 x5 x6) r8.1 r8.2) fun r9 =>
                          J (.l3 x0 x1 x2 x3 x7 x8 x9 r9.2 r9.1)
                  else
                    bindO (cavilref07_Sub.m k x4 (cut x0 x5 x6) r5.1 r5.2) fun r10 =>
                      J (.l3 x0 x1 x2 x3 x7 x8 x9 r10.2 r10.1)
  else
    some (.r1 x4 x5 x6)
def b2 (k : Nat) (J : St → Option (Rs)) (x0 : List Int) (x1 : List Int) (x2 : List Int) (x3 : Bool) (x4 : Bool) (x5 : Int) (x6 : Int) (x7 : Bool) (x8 : Int) (x9 : Int) : Option (Rs) :=
  bif (decide (((cut x0 x8 x9).length : Int) > 0)) then
    bindO (cavilref07_Order.m k (cut x1 x5 x6) (cut x0 x8 x9)) fun r1 =>
      bif (decide (r1 < 0)) then
        J (.l1 x0 x1 x2 x3 x7 x8 x9 x4 x5 x6)
      else
        bindO (cavilref07_Bits.m k x4 (cut x1 x5 x6)) fun r2 =>
          bindO (cavilref07_Bits.m k x7 (cut x0 x8 x9)) fun r3 =>
            bindO (cavilref07_Power.m k (wr .i64 (r2 - r3))) fun r4 =>
              bindO (cavilref07_Mul.m k x7 (cut x0 x8 x9) r4.1 r4.2) fun r5 =>
                bindO (cavilref07_Order.m k r5.2 (cut x1 x5 x6)) fun r6 =>
                  bif (decide (r6 > 0)) then
                    bindO (cavilref07_Power.m k (wr .i64 ((wr .i64 (r2 - r3)) - 1))) fun r7 =>
                      bindO (cavilref07_Mul.m k x7 (cut x0 x8 x9) r7.1 r7.2) fun r8 =>
                        bindO (cavilref07_Sub.m k x4 (cut x1 x5 x6) r8.1 r8.2) fun r9 =>
                          J (.l4 x0 x1 x2 x3 x7 x8 x9 r9.2 r9.1)
                  else
                    bindO (cavilref07_Sub.m k x4 (cut x1 x5 x6) r5.1 r5.2) fun r10 =>
                      J (.l4 x0 x1 x2 x3 x7 x8 x9 r10.2 r10.1)
  else
    some (.r2 x4 x5 x6)
def b3 (k : Nat) (J : St → Option (Rs)) (x0 : List Int) (x1 : List Int) (x2 : List Int) (x3 : Bool) (x4 : Bool) (x5 : Int) (x6 : Int) (x7 : List Int) (x8 : Bool) : Option (Rs) :=
  bif (decide ((x7.length : Int) > 0)) then
    bindO (cavilref07_Order.m k (cut x1 x5 x6) x7) fun r1 =>
      bif (decide (r1 < 0)) then
        J (.l5 x0 x1 x2 x3 x7 x8 x4 x5 x6)
      else
        bindO (cavilref07_Bits.m k x4 (cut x1 x5 x6)) fun r2 =>
          bindO (cavilref07_Bits.m k x8 x7) fun r3 =>
            bindO (cavilref07_Power.m k (wr .i64 (r2 - r3))) fun r4 =>
              bindO (cavilref07_Mul.m k x8 x7 r4.1 r4.2) fun r5 =>
                bindO (cavilref07_Order.m k r5.2 (cut x1 x5 x6)) fun r6 =>
                  bif (decide (r6 > 0)) then
                    bindO (cavilref07_Power.m k (wr .i64 ((wr .i64 (r2 - r3)) - 1))) fun r7 =>
                      bindO (cavilref07_Mul.m k x8 x7 r7.1 r7.2) fun r8 =>
                        bindO (cavilref07_Sub.m k x4 (cut x1 x5 x6) r8.1 r8.2) fun r9 =>
                          J (.l6 x0 x1 x2 x3 x7 x8 r9.2 r9.1)
                  else
                    bindO (cavilref07_Sub.m k x4 (cut x1 x5 x6) r5.1 r5.2) fun r10 =>
                      J (.l6 x0 x1 x2 x3 x7 x8 r10.2 r10.1)
  else
    some (.r2 x4 x5 x6)
def b4 (k : Nat) (J : St → Option (Rs)) (x0 : List Int) (x1 : List Int) (x2 : List Int) (x3 : Bool) (x4 : Bool) (x5 : Int) (x6 : Int) (x7 : List Int) (x8 : Bool) : Option (Rs) :=
  bif (decide ((x7.length : Int) > 0)) then
    bindO (cavilref07_Order.m k (cut x0 x5 x6) x7) fun r1 =>
      bif (decide (r1 < 0)) then
        J (.l7 x0 x1 x2 x3 x7 x8 x4 x5 x6)
      else
        bindO (cavilref07_Bits.m k x4 (cut x0 x5 x6)) fun r2 =>
          bindO (cavilref07_Bits.m k x8 x7) fun r3 =>
            bindO (cavilref07_Power.m k (wr .i64 (r2 - r3))) fun r4 =>
              bindO (cavilref07_Mul.m k x8 x7 r4.1 r4.2) fun r5 =>
                bindO (cavilref07_Order.m k r5.2 (cut x0 x5 x6)) fun r6 =>
                  bif (decide (r6 > 0)) then
                    bindO (cavilref07_Power.m k (wr .i64 ((wr .i64 (r2 - r3)) - 1))) fun r7 =>
                      bindO (cavilref07_Mul.m k x8 x7 r7.1 r7.2) fun r8 =>
                        bindO (cavilref07_Sub.m k x4 (cut x0 x5 x6) r8.1 r8.2) fun r9 =>
                          J (.l6 x0 x1 x2 x3 x7 x8 r9.2 r9.1)
                  else
                    bindO (cavilref07_Sub.m k x4 (cut x0 x5 x6) r5.1 r5.2) fun r10 =>
                      J (.l6 x0 x1 x2 x3 x7 x8 r10.2 r10.1)
  else
    some (.r1 x4 x5 x6)
def b5 (k : Nat) (J : St → Option (Rs)) (x0 : List Int) (x1 : List Int) (x2 : List Int) (x3 : Bool) (x4 : List Int) (x5 : Bool) (x6 : Bool) (x7 : Int) (x8 : Int) : Option (Rs) :=
  bif (decide (((cut x1 x7 x8).length : Int) > 0)) then
    bindO (cavilref07_Order.m k x4 (cut x1 x7 x8)) fun r1 =>
      bif (decide (r1 < 0)) then
        J (.l3 x0 x1 x2 x3 x6 x7 x8 x4 x5)
      else
        bindO (cavilref07_Bits.m k x5 x4) fun r2 =>
          bindO (cavilref07_Bits.m k x6 (cut x1 x7 x8)) fun r3 =>
            bindO (cavilref07_Power.m k (wr .i64 (r2 - r3))) fun r4 =>
              bindO (cavilref07_Mul.m k x6 (cut x1 x7 x8) r4.1 r4.2) fun r5 =>
                bindO (cavilref07_Order.m k r5.2 x4) fun r6 =>
                  bif (decide (r6 > 0)) then
                    bindO (cavilref07_Power.m k (wr .i64 ((wr .i64 (r2 - r3)) - 1))) fun r7 =>
                      bindO (cavilref07_Mul.m k x6 (cut x1 x7 x8) r7.1 r7.2) fun r8 =>
                        bindO (cavilref07_Sub.m k x5 x4 r8.1 r8.2) fun r9 =>
                          J (.l3 x0 x1 x2 x3 x6 x7 x8 r9.2 r9.1)
                  else
                    bindO (cavilref07_Sub.m k x5 x4 r5.1 r5.2) fun r10 =>
                      J (.l3 x0 x1 x2 x3 x6 x7 x8 r10.2 r10.1)
  else
    some (.r3 x5 x4)
def b6 (k : Nat) (J : St → Option (Rs)) (x0 : List Int) (x1 : List Int) (x2 : List Int) (x3 : Bool) (x4 : List Int) (x5 : Bool) (x6 : List Int) (x7 : Bool) : Option (Rs) :=
  bif (decide ((x6.length : Int) > 0)) then
    bindO (cavilref07_Order.m k x4 x6) fun r1 =>
      bif (decide (r1 < 0)) then
        J (.l6 x0 x1 x2 x3 x6 x7 x4 x5)
      else
        bindO (cavilref07_Bits.m k x5 x4) fun r2 =>
          bindO (cavilref07_Bits.m k x7 x6) fun r3 =>
            bindO (cavilref07_Power.m k (wr .i64 (r2 - r3))) fun r4 =>
              bindO (cavilref07_Mul.m k x7 x6 r4.1 r4.2) fun r5 =>
                bindO (cavilref07_Order.m k r5.2 x4) fun r6 =>
                  bif (decide (r6 > 0)) then
                    bindO (cavilref07_Power.m k (wr .i64 ((wr .i64 (r2 - r3)) - 1))) fun r7 =>
                      bindO (cavilref07_Mul.m k x7 x6 r7.1 r7.2) fun r8 =>
                        bindO (cavilref07_Sub.m k x5 x4 r8.1 r8.2) fun r9 =>
                          J (.l6 x0 x1 x2 x3 x6 x7 r9.2 r9.1)
                  else
                    bindO (cavilref07_Sub.m k x5 x4 r5.1 r5.2) fun r10 =>
                      J (.l6 x0 x1 x2 x3 x6 x7 r10.2 r10.1)
  else
    some (.r3 x5 x4)
def b7 (k : Nat) (J : St → Option (Rs)) (x0 : List Int) (x1 : List Int) (x2 : List Int) (x3 : Bool) (x4 : List Int) (x5 : Bool) (x6 : Bool) (x7 : Int) (x8 : Int) : Option (Rs) :=
  bif (decide (((cut x0 x7 x8).length : Int) > 0)) then
    bindO (cavilref07_Order.m k x4 (cut x0 x7 x8)) fun r1 =>
      bif (decide (r1 < 0)) then
        J (.l4 x0 x1 x2 x3 x6 x7 x8 x4 x5)
      else
        bindO (cavilref07_Bits.m k x5 x4) fun r2 =>
          bindO (cavilref07_Bits.m k x6 (cut x0 x7 x8)) fun r3 =>
            bindO (cavilref07_Power.m k (wr .i64 (r2 - r3))) fun r4 =>
              bindO (cavilref07_Mul.m k x6 (cut x0 x7 x8) r4.1 r4.2) fun r5 =>
                bindO (cavilref07_Order.m k r5.2 x4) fun r6 =>
                  bif (decide (r6 > 0)) then
                    bindO (cavilref07_Power.m k (wr .i64 ((wr .i64 (r2 - r3)) - 1))) fun r7 =>
                      bindO (cavilref07_Mul.m k x6 (cut x0 x7 x8) r7.1 r7.2) fun r8 =>
                        bindO (cavilref07_Sub.m k x5 x4 r8.1 r8.2) fun r9 =>
                          J (.l4 x0 x1 x2 x3 x6 x7 x8 r9.2 r9.1)
                  else
                    bindO (cavilref07_Sub.m k x5 x4 r5.1 r5.2) fun r10 =>
                      J (.l4 x0 x1 x2 x3 x6 x7 x8 r10.2 r10.1)
  else
    some (.r3 x5 x4)
def go : Nat → St → Option (Rs)
  | 0, _ => none
  | k + 1, .l1 x0 x1 x2 x3 x4 x5 x6 x7 x8 x9 => b1 k (go k) x0 x1 x2 x3 x4 x5 x6 x7 x8 x9
  | k + 1, .l2 x0 x1 x2 x3 x4 x5 x6 x7 x8 x9 => b2 k (go k) x0 x1 x2 x3 x4 x5 x6 x7 x8 x9
  | k + 1, .l3 x0 x1 x2 x3 x4 x5 x6 x7 x8 => b3 k (go k) x0 x1 x2 x3 x4 x5 x6 x7 x8
  | k + 1, .l4 x0 x1 x2 x3 x4 x5 x6 x7 x8 => b4 k (go k) x0 x1 x2 x3 x4 x5 x6 x7 x8
  | k + 1, .l5 x0 x1 x2 x3 x4 x5 x6 x7 x8 => b5 k (go k) x0 x1 x2 x3 x4 x5 x6 x7 x8
  | k + 1, .l6 x0 x1 x2 x3 x4 x5 x6 x7 => b6 k (go k) x0 x1 x2 x3 x4 x5 x6 x7
  | k + 1, .l7 x0 x1 x2 x3 x4 x5 x6 x7 x8 => b7 k (go k) x0 x1 x2 x3 x4 x5 x6 x7 x8
def m : Nat → Bool → List Int → Bool → List Int → Option (Rs)
  | 0, _, _, _, _ => none
  | k + 1, x0, x1, x2, x3 => b0 k (go k) x0 x1 x2 x3
def anns : Anns := [(3, 1, [(4, 0, true), (5, 0, true), (6, 0, true)])]
noncomputable def code : ACode := codeOf Tryz.f103 anns
def rs : List ResultVar := [.cell 4 40]
def decA : List AVal → Heap → Option (Bool × (List Int) × Bool × (List Int))
  | [.agg (.pair (.bool x0) (.pair (.slice 0 1 .all) .nil)), .agg (.pair (.bool x2) (.pair (.slice 1 1 .all) .nil))], [.row 0 1 false 3 (.int .i64 x1), .row 0 1 false 3 (.int .i64 x3)] => some (x0, x1, x2, x3)
  | _, _ => none
def encA (a : Bool × (List Int) × Bool × (List Int)) : List AVal × Heap := ([.agg (.pair (.bool a.1) (.pair (.slice 0 1 .all) .nil)), .agg (.pair (.bool a.2.2.1) (.pair (.slice 1 1 .all) .nil))], [.row 0 1 false 3 (.int .i64 a.2.1), .row 0 1 false 3 (.int .i64 a.2.2.2)])
def decB : AVal → Heap → Option (Rs)
  | .agg (.pair (.bool y0) (.pair (.slice 0 1 (.cut .all y1 y2)) .nil)), [_, _] => some (.r1 y0 y1 y2)
  | .agg (.pair (.bool y0) (.pair (.slice 1 1 (.cut .all y1 y2)) .nil)), [_, _] => some (.r2 y0 y1 y2)
  | .agg (.pair (.bool y0) (.pair (.slice 2 1 .all) .nil)), [_, _, .row 0 1 true 3 (.int .i64 y1)] => some (.r3 y0 y1)
  | _, _ => none
def encB : Rs → Out
  | .r1 y0 y1 y2 => (.agg (.pair (.bool y0) (.pair (.slice 0 1 (.cut .all y1 y2)) .nil)), [], [])
  | .r2 y0 y1 y2 => (.agg (.pair (.bool y0) (.pair (.slice 1 1 (.cut .all y1 y2)) .nil)), [], [])
  | .r3 y0 y1 => (.agg (.pair (.bool y0) (.pair (.slice 2 1 .all) .nil)), [], [.row 0 1 true 3 (.int .i64 y1)])
def encK : EncK Rs := fun _ b K => match b with
  | .r1 y0 y1 y2 => K (.agg (.pair (.bool y0) (.pair (.slice 0 1 (.cut .all y1 y2)) .nil)), [], [])
  | .r2 y0 y1 y2 => K (.agg (.pair (.bool y0) (.pair (.slice 1 1 (.cut .all y1 y2)) .nil)), [], [])
  | .r3 y0 y1 => K (.agg (.pair (.bool y0) (.pair (.slice 2 1 .all) .nil)), [], [.row 0 1 true 3 (.int .i64 y1)])
def X : List Ct := [cavilref07_trim.ct, cavilref07_Order.ct, cavilref07_Bits.ct, cavilref07_Power.ct, cavilref07_Mul.ct, cavilref07_Sub.ct]
def ct : Ct := ⟨103, callRun cfg.tt [(40, false), (40, false)] decA (fun k a => m k a.1 a.2.1 a.2.2.1 a.2.2.2) true encK⟩
theorem ok : FnOk Tryz.prog cfg 103 53 code rs := .of Tryz.func103 (by kernel_rfl) rfl rfl (by kernel_rfl) (by kernel_rfl) rfl
abbrev kend : KK (Rs) := kEnd cfg.tt rs (kFin cfg.tt 2 true [40] [] [0, 1] decB)
noncomputable abbrev rn := run cfg X 53 2 code kend
theorem s0 (k : Nat) (J : Nat → Fr → Heap → Option (Rs)) (x0 : Bool) (x1 : List Int) (x2 : Bool) (x3 : List Int) : stepJ cfg X 53 2 code kend k J 0 (argFr 0 (encA (x0, x1, x2, x3)).1) (encA (x0, x1, x2, x3)).2 = b0 k (fun s => J s.lab s.fr s.hp) x0 x1 x2 x3 := by kernel_rfl
theorem s1 (k : Nat) (J : Nat → Fr → Heap → Option (Rs)) (x0 : List Int) (x1 : List Int) (x2 : List Int) (x3 : Bool) (x4 : Bool) (x5 : Int) (x6 : Int) (x7 : Bool) (x8 : Int) (x9 : Int) : stepJ cfg X 53 2 code kend k J (St.l1 x0 x1 x2 x3 x4 x5 x6 x7 x8 x9).lab (St.l1 x0 x1 x2 x3 x4 x5 x6 x7 x8 x9).fr (St.l1 x0 x1 x2 x3 x4 x5 x6 x7 x8 x9).hp = b1 k (fun s => J s.lab s.fr s.hp) x0 x1 x2 x3 x4 x5 x6 x7 x8 x9 := by kernel_rfl
theorem s2 (k : Nat) (J : Nat → Fr → Heap → Option (Rs)) (x0 : List Int) (x1 : List Int) (x2 : List Int) (x3 : Bool) (x4 : Bool) (x5 : Int) (x6 : Int) (x7 : Bool) (x8 : Int) (x9 : Int) : stepJ cfg X 53 2 code kend k J (St.l2 x0 x1 x2 x3 x4 x5 x6 x7 x8 x9).lab (St.l2 x0 x1 x2 x3 x4 x5 x6 x7 x8 x9).fr (St.l2 x0 x1 x2 x3 x4 x5 x6 x7 x8 x9).hp = b2 k (fun s => J s.lab s.fr s.hp) x0 x1 x2 x3 x4 x5 x6 x7 x8 x9 := by kernel_rfl
theorem s3 (k : Nat) (J : Nat → Fr → Heap → Option (Rs)) (x0 : List Int) (x1 : List Int) (x2 : List Int) (x3 : Bool) (x4 : Bool) (x5 : Int) (x6 : Int) (x7 : List Int) (x8 : Bool) : stepJ cfg X 53 2 code kend k J (St.l3 x0 x1 x2 x3 x4 x5 x6 x7 x8).lab (St.l3 x0 x1 x2 x3 x4 x5 x6 x7 x8).fr (St.l3 x0 x1 x2 x3 x4 x5 x6 x7 x8).hp = b3 k (fun s => J s.lab s.fr s.hp) x0 x1 x2 x3 x4 x5 x6 x7 x8 := by kernel_rfl
theorem s4 (k : Nat) (J : Nat → Fr → Heap → Option (Rs)) (x0 : List Int) (x1 : List Int) (x2 : List Int) (x3 : Bool) (x4 : Bool) (x5 : Int) (x6 : Int) (x7 : List Int) (x8 : Bool) : stepJ cfg X 53 2 code kend k J (St.l4 x0 x1 x2 x3 x4 x5 x6 x7 x8).lab (St.l4 x0 x1 x2 x3 x4 x5 x6 x7 x8).fr (St.l4 x0 x1 x2 x3 x4 x5 x6 x7 x8).hp = b4 k (fun s => J s.lab s.fr s.hp) x0 x1 x2 x3 x4 x5 x6 x7 x8 := by kernel_rfl
theorem s5 (k : Nat) (J : Nat → Fr → Heap → Option (Rs)) (x0 : List Int) (x1 : List Int) (x2 : List Int) (x3 : Bool) (x4 : List Int) (x5 : Bool) (x6 : Bool) (x7 : Int) (x8 : Int) : stepJ cfg X 53 2 code kend k J (St.l5 x0 x1 x2 x3 x4 x5 x6 x7 x8).lab (St.l5 x0 x1 x2 x3 x4 x5 x6 x7 x8).fr (St.l5 x0 x1 x2 x3 x4 x5 x6 x7 x8).hp = b5 k (fun s => J s.lab s.fr s.hp) x0 x1 x2 x3 x4 x5 x6 x7 x8 := by kernel_rfl
theorem s6 (k : Nat) (J : Nat → Fr → Heap → Option (Rs)) (x0 : List Int) (x1 : List Int) (x2 : List Int) (x3 : Bool) (x4 : List Int) (x5 : Bool) (x6 : List Int) (x7 : Bool) : stepJ cfg X 53 2 code kend k J (St.l6 x0 x1 x2 x3 x4 x5 x6 x7).lab (St.l6 x0 x1 x2 x3 x4 x5 x6 x7).fr (St.l6 x0 x1 x2 x3 x4 x5 x6 x7).hp = b6 k (fun s => J s.lab s.fr s.hp) x0 x1 x2 x3 x4 x5 x6 x7 := by kernel_rfl
theorem s7 (k : Nat) (J : Nat → Fr → Heap → Option (Rs)) (x0 : List Int) (x1 : List Int) (x2 : List Int) (x3 : Bool) (x4 : List Int) (x5 : Bool) (x6 : Bool) (x7 : Int) (x8 : Int) : stepJ cfg X 53 2 code kend k J (St.l7 x0 x1 x2 x3 x4 x5 x6 x7 x8).lab (St.l7 x0 x1 x2 x3 x4 x5 x6 x7 x8).fr (St.l7 x0 x1 x2 x3 x4 x5 x6 x7 x8).hp = b7 k (fun s => J s.lab s.fr s.hp) x0 x1 x2 x3 x4 x5 x6 x7 x8 := by kernel_rfl
theorem go_ok : ∀ (k : Nat) (s : St), rn k s.lab s.fr s.hp = go k s
  | 0, _ => rfl
  | k + 1, .l1 x0 x1 x2 x3 x4 x5 x6 x7 x8 x9 => by
    have h := s1 k (rn k) x0 x1 x2 x3 x4 x5 x6 x7 x8 x9
    rw [show (fun s : St => rn k s.lab s.fr s.hp) = go k from funext (go_ok k)] at h
    exact h
  | k + 1, .l2 x0 x1 x2 x3 x4 x5 x6 x7 x8 x9 => by
    have h := s2 k (rn k) x0 x1 x2 x3 x4 x5 x6 x7 x8 x9
    rw [show (fun s : St => rn k s.lab s.fr s.hp) = go k from funext (go_ok k)] at h
    exact h
  | k + 1, .l3 x0 x1 x2 x3 x4 x5 x6 x7 x8 => by
    have h := s3 k (rn k) x0 x1 x2 x3 x4 x5 x6 x7 x8
    rw [show (fun s : St => rn k s.lab s.fr s.hp) = go k from funext (go_ok k)] at h
    exact h
  | k + 1, .l4 x0 x1 x2 x3 x4 x5 x6 x7 x8 => by
    have h := s4 k (rn k) x0 x1 x2 x3 x4 x5 x6 x7 x8
    rw [show (fun s : St => rn k s.lab s.fr s.hp) = go k from funext (go_ok k)] at h
    exact h
  | k + 1, .l5 x0 x1 x2 x3 x4 x5 x6 x7 x8 => by
    have h := s5 k (rn k) x0 x1 x2 x3 x4 x5 x6 x7 x8
    rw [show (fun s : St => rn k s.lab s.fr s.hp) = go k from funext (go_ok k)] at h
    exact h
  | k + 1, .l6 x0 x1 x2 x3 x4 x5 x6 x7 => by
    have h := s6 k (rn k) x0 x1 x2 x3 x4 x5 x6 x7
    rw [show (fun s : St => rn k s.lab s.fr s.hp) = go k from funext (go_ok k)] at h
    exact h
  | k + 1, .l7 x0 x1 x2 x3 x4 x5 x6 x7 x8 => by
    have h := s7 k (rn k) x0 x1 x2 x3 x4 x5 x6 x7 x8
    rw [show (fun s : St => rn k s.lab s.fr s.hp) = go k from funext (go_ok k)] at h
    exact h
theorem run_ok : ∀ (k : Nat) (a : Bool × (List Int) × Bool × (List Int)), rn k 0 (argFr 0 (encA a).1) (encA a).2 = m k a.1 a.2.1 a.2.2.1 a.2.2.2
  | 0, _ => rfl
  | k + 1, (x0, x1, x2, x3) => by
    have h := s0 k (rn k) x0 x1 x2 x3
    rw [show (fun s : St => rn k s.lab s.fr s.hp) = go k from funext (go_ok k)] at h
    exact h
theorem snd (k : Nat) : Snd Tryz.prog cfg k ct := fn_snd (X := X) cfgOk mixed ok (np := 2) (vps := []) (vws := [0, 1]) (decA := decA) (encA := encA) (decB := decB) (encB := encB) (encK := encK) (fun _ b _ => by cases b <;> rfl)
  (by
    intro xs H a h
    unfold decA at h
    split at h
    · cases h; exact ⟨rfl, rfl, rfl, rfl⟩
    · cases h)
  (by
    intro v H b h
    unfold decB at h
    split at h
    · cases h; exact ⟨rfl, fun _ _ _ h => (by cases h), rfl⟩
    · cases h; exact ⟨rfl, fun _ _ _ h => (by cases h), rfl⟩
    · cases h; exact ⟨rfl, fun _ _ _ h => (by cases h), rfl⟩
    · cases h)
  rfl k (fun k' _ => AllS.mem (l := X) ⟨cavilref07_trim.snd k', cavilref07_Order.snd k', cavilref07_Bits.snd k', cavilref07_Power.snd k', cavilref07_Mul.snd k', cavilref07_Sub.snd k', trivial⟩) (fun a => run_ok k a)
end cavilref07_Gcd

/-! cavil/cavilref07.Digit -/
namespace cavilref07_Digit
inductive St where
  | l1 (x0 : Int) (x1 : List UInt8) (x2 : List UInt8) (x3 : Int)
def St.lab : St → Nat
  | .l1 _ _ _ _ => 1
def St.fr : St → Fr
  | .l1 x0 x1 x2 x3 => [(0, .int .u8 x0), (3, .str x1), (4, .str x2), (5, .int .i64 x3)]
def St.hp : St → Heap
  | .l1 x0 x1 x2 x3 => []
def b0 (k : Nat) (J : St → Option (Int)) (x0 : Int) : Option (Int) :=
  J (.l1 x0 ([48, 49, 50, 51, 52, 53, 54, 55, 56, 57, 97, 98, 99, 100, 101, 102] : List UInt8) ([48, 49, 50, 51, 52, 53, 54, 55, 56, 57, 65, 66, 67, 68, 69, 70] : List UInt8) 0)
def b1 (k : Nat) (J : St → Option (Int)) (x0 : Int) (x1 : List UInt8) (x2 : List UInt8) (x3 : Int) : Option (Int) :=
  bif (decide (x3 < 16)) then
    gk (inB x3 x1.length)
      (bif ((byt x1 x3) == x0) then
        some x3
      else
        gk (inB x3 x2.length)
          (bif ((byt x2 x3) == x0) then
            some x3
          else
            J (.l1 x0 x1 x2 (wr .i64 (x3 + 1)))))
  else
    some 99
def go : Nat → St → Option (Int)
  | 0, _ => none
  | k + 1, .l1 x0 x1 x2 x3 => b1 k (go k) x0 x1 x2 x3
def m : Nat → Int → Option (Int)
  | 0, _ => none
  | k + 1, x0 => b0 k (go k) x0
def anns : Anns := [(5, 1, [(0, 5, false), (3, 9, false), (4, 9, false), (5, 3, false)])]
noncomputable def code : ACode := codeOf Tryz.f64 anns
def rs : List ResultVar := [.tmp 2]
def decA : List AVal → Heap → Option (Int)
  | [.int .u8 x0], [] => some x0
  | _, _ => none
def encA (a : Int) : List AVal × Heap := ([.int .u8 a], [])
def decB : AVal → Heap → Option (Int)
  | .int .i64 y0, [] => some y0
  | _, _ => none
def encB (b : Int) : Out := (.int .i64 b, [], [])
def encK : EncK (Int) := fun _ b K => K (encB b)
def X : List Ct := []
def ct : Ct := ⟨64, callRun cfg.tt [(5, false)] decA (fun k a => m k a) false encK⟩
theorem ok : FnOk Tryz.prog cfg 64 23 code rs := .of Tryz.func64 (by kernel_rfl) rfl rfl (by kernel_rfl) (by kernel_rfl) rfl
abbrev kend : KK (Int) := kEnd cfg.tt rs (kFin cfg.tt 0 false [3] [] [] decB)
noncomputable abbrev rn := run cfg X 23 0 code kend
theorem s0 (k : Nat) (J : Nat → Fr → Heap → Option (Int)) (x0 : Int) : stepJ cfg X 23 0 code kend k J 0 (argFr 0 (encA x0).1) (encA x0).2 = b0 k (fun s => J s.lab s.fr s.hp) x0 := by kernel_rfl
theorem s1 (k : Nat) (J : Nat → Fr → Heap → Option (Int)) (x0 : Int) (x1 : List UInt8) (x2 : List UInt8) (x3 : Int) : stepJ cfg X 23 0 code kend k J (St.l1 x0 x1 x2 x3).lab (St.l1 x0 x1 x2 x3).fr (St.l1 x0 x1 x2 x3).hp = b1 k (fun s => J s.lab s.fr s.hp) x0 x1 x2 x3 := by kernel_rfl
theorem go_ok : ∀ (k : Nat) (s : St), rn k s.lab s.fr s.hp = go k s
  | 0, _ => rfl
  | k + 1, .l1 x0 x1 x2 x3 => by
    have h := s1 k (rn k) x0 x1 x2 x3
    rw [show (fun s : St => rn k s.lab s.fr s.hp) = go k from funext (go_ok k)] at h
    exact h
theorem run_ok : ∀ (k : Nat) (a : Int), rn k 0 (argFr 0 (encA a).1) (encA a).2 = m k a
  | 0, _ => rfl
  | k + 1, x0 => by
    have h := s0 k (rn k) x0
    rw [show (fun s : St => rn k s.lab s.fr s.hp) = go k from funext (go_ok k)] at h
    exact h
theorem snd (k : Nat) : Snd Tryz.prog cfg k ct := fn_snd (X := X) cfgOk mixed ok (np := 0) (vps := []) (vws := []) (decA := decA) (encA := encA) (decB := decB) (encB := encB) (encK := encK) (fun _ b _ => rfl)
  (by
    intro xs H a h
    unfold decA at h
    split at h
    · cases h; exact ⟨rfl, rfl, rfl, rfl⟩
    · cases h)
  (by
    intro v H b h
    unfold decB at h
    split at h
    · cases h; exact ⟨rfl, fun _ _ _ h => (by cases h), rfl⟩
    · cases h)
  rfl k (fun k' _ => AllS.mem (l := X) trivial) (fun a => run_ok k a)
end cavilref07_Digit

/-! cavil/cavilref07.Parse -/
namespace cavilref07_Parse
inductive St where
  | l1 (x0 : List Int) (x1 : Bool) (x2 : List UInt8) (x3 : Int) (x4 : Bool)
  | l2 (x0 : List Int) (x1 : Bool) (x2 : List UInt8) (x3 : Int) (x4 : Int)
  | l3 (x0 : List Int) (x1 : Bool) (x2 : List Int) (x3 : Bool) (x4 : List UInt8) (x5 : Int) (x6 : Int)
def St.lab : St → Nat
  | .l1 _ _ _ _ _ => 1
  | .l2 _ _ _ _ _ => 2
  | .l3 _ _ _ _ _ _ _ => 3
def St.fr : St → Fr
  | .l1 x0 x1 x2 x3 x4 => [(0, .str x2), (1, .int .i64 x3), (4, .ptr 1 1 []), (22, .bool x4)]
  | .l2 x0 x1 x2 x3 x4 => [(0, .str x2), (1, .int .i64 x3), (4, .ptr 1 1 []), (6, .int .i64 x4)]
  | .l3 x0 x1 x2 x3 x4 x5 x6 => [(0, .str x4), (1, .int .i64 x5), (4, .ptr 1 1 []), (7, .ptr 3 1 []), (8, .int .i64 x6)]
def St.hp : St → Heap
  | .l1 x0 x1 x2 x3 x4 => [.row 0 1 true 3 (.int .i64 x0), .var 0 40 (.agg (.pair (.bool x1) (.pair (.slice 0 1 .all) .nil)))]
  | .l2 x0 x1 x2 x3 x4 => [.row 0 1 true 3 (.int .i64 x0), .var 0 40 (.agg (.pair (.bool x1) (.pair (.slice 0 1 .all) .nil)))]
  | .l3 x0 x1 x2 x3 x4 x5 x6 => [.row 0 1 true 3 (.int .i64 x0), .var 0 40 (.agg (.pair (.bool x1) (.pair (.slice 0 1 .all) .nil))), .row 0 1 true 3 (.int .i64 x2), .var 0 40 (.agg (.pair (.bool x3) (.pair (.slice 2 1 .all) .nil)))]
def b0 (k : Nat) (J : St → Option (Bool × Int × (List Int))) (x0 : List UInt8) (x1 : Int) : Option (Bool × Int × (List Int)) :=
  bif (x1 != 2) then
    bif (x1 != 8) then
      bif (x1 != 10) then
        J (.l1 [] false x0 x1 (x1 != 16))
      else
        J (.l1 [] false x0 x1 false)
    else
      J (.l1 [] false x0 x1 false)
  else
    J (.l1 [] false x0 x1 false)
def b1 (k : Nat) (J : St → Option (Bool × Int × (List Int))) (x0 : List Int) (x1 : Bool) (x2 : List UInt8) (x3 : Int) (x4 : Bool) : Option (Bool × Int × (List Int)) :=
  bif x4 then
    some (false, 1, [])
  else
    bif ((x2.length : Int) == 0) then
      some (false, 12, [])
    else
      J (.l2 x0 x1 x2 x3 0)
def b2 (k : Nat) (J : St → Option (Bool × Int × (List Int))) (x0 : List Int) (x1 : Bool) (x2 : List UInt8) (x3 : Int) (x4 : Int) : Option (Bool × Int × (List Int)) :=
  bif (decide (x4 < (x2.length : Int))) then
    gk (inB x4 x2.length)
      (bindO (cavilref07_Digit.m k (byt x2 x4)) fun r1 =>
        bif (decide (r1 ≥ x3)) then
          some (false, 13, [])
        else
          J (.l2 x0 x1 x2 x3 (wr .i64 (x4 + 1))))
  else
    J (.l3 x0 x1 [] false x2 x3 0)
def b3 (k : Nat) (J : St → Option (Bool × Int × (List Int))) (x0 : List Int) (x1 : Bool) (x2 : List Int) (x3 : Bool) (x4 : List UInt8) (x5 : Int) (x6 : Int) : Option (Bool × Int × (List Int)) :=
  bif (decide (x6 < (x4.length : Int))) then
    bindO (cavilref07_Small.m k x5) fun r1 =>
      bindO (cavilref07_Mul.m k x3 x2 r1.1 r1.2) fun r2 =>
        gk (inB x6 x4.length)
          (bindO (cavilref07_Digit.m k (byt x4 x6)) fun r3 =>
            bindO (cavilref07_Small.m k r3) fun r4 =>
              bindO (cavilref07_Add.m k r2.1 r2.2 r4.1 r4.2) fun r5 =>
                bif (decide ((r5.2.length : Int) > 32)) then
                  some (false, 9, [])
                else
                  J (.l3 x0 x1 r5.2 r5.1 x4 x5 (wr .i64 (x6 + 1))))
  else
    some (x3, 0, x2)
def go : Nat → St → Option (Bool × Int × (List Int))
  | 0, _ => none
  | k + 1, .l1 x0 x1 x2 x3 x4 => b1 k (go k) x0 x1 x2 x3 x4
  | k + 1, .l2 x0 x1 x2 x3 x4 => b2 k (go k) x0 x1 x2 x3 x4
  | k + 1, .l3 x0 x1 x2 x3 x4 x5 x6 => b3 k (go k) x0 x1 x2 x3 x4 x5 x6
def m : Nat → List UInt8 → Int → Option (Bool × Int × (List Int))
  | 0, _, _ => none
  | k + 1, x0, x1 => b0 k (go k) x0 x1
def anns : Anns := [(2, 1, [(0, 9, false), (1, 3, false), (4, 0, false), (22, 4, false)]), (9, 2, [(0, 9, false), (1, 3, false), (4, 0, false), (6, 3, false)]), (18, 3, [(0, 9, false), (1, 3, false), (4, 0, false), (7, 0, false), (8, 3, false)])]
noncomputable def code : ACode := codeOf Tryz.f35 anns
def rs : List ResultVar := [.cell 4 40, .tmp 5]
def decA : List AVal → Heap → Option ((List UInt8) × Int)
  | [.str x0, .int .i64 x1], [] => some (x0, x1)
  | _, _ => none
def encA (a : (List UInt8) × Int) : List AVal × Heap := ([.str a.1, .int .i64 a.2], [])
def decB : AVal → Heap → Option (Bool × Int × (List Int))
  | .tup (.pair (.agg (.pair (.bool y0) (.pair (.slice 0 1 .all) .nil))) (.pair (.int .i64 y1) .nil)), [.row 0 1 true 3 (.int .i64 y2)] => some (y0, y1, y2)
  | _, _ => none
def encB (b : Bool × Int × (List Int)) : Out := (.tup (.pair (.agg (.pair (.bool b.1) (.pair (.slice 0 1 .all) .nil))) (.pair (.int .i64 b.2.1) .nil)), [], [.row 0 1 true 3 (.int .i64 b.2.2)])
def encK : EncK (Bool × Int × (List Int)) := fun _ b K => K (encB b)
def X : List Ct := [cavilref07_Digit.ct, cavilref07_Small.ct, cavilref07_Mul.ct, cavilref07_Add.ct]
def ct : Ct := ⟨35, callRun cfg.tt [(9, false), (3, false)] decA (fun k a => m k a.1 a.2) false encK⟩
theorem ok : FnOk Tryz.prog cfg 35 63 code rs := .of Tryz.func35 (by kernel_rfl) rfl rfl (by kernel_rfl) (by kernel_rfl) rfl
abbrev kend : KK (Bool × Int × (List Int)) := kEnd cfg.tt rs (kFin cfg.tt 0 false [40, 3] [] [] decB)
noncomputable abbrev rn := run cfg X 63 0 code kend
theorem s0 (k : Nat) (J : Nat → Fr → Heap → Option (Bool × Int × (List Int))) (x0 : List UInt8) (x1 : Int) : stepJ cfg X 63 0 code kend k J 0 (argFr 0 (encA (x0, x1)).1) (encA (x0, x1)).2 = b0 k (fun s => J s.lab s.fr s.hp) x0 x1 := by kernel_rfl
theorem s1 (k : Nat) (J : Nat → Fr → Heap → Option (Bool × Int × (List Int))) (x0 : List Int) (x1 : Bool) (x2 : List UInt8) (x3 : Int) (x4 : Bool) : stepJ cfg X 63 0 code kend k J (St.l1 x0 x1 x2 x3 x4).lab (St.l1 x0 x1 x2 x3 x4).fr (St.l1 x0 x1 x2 x3 x4).hp = b1 k (fun s => J s.lab s.fr s.hp) x0 x1 x2 x3 x4 := by kernel_rfl
theorem s2 (k : Nat) (J : Nat → Fr → Heap → Option (Bool × Int × (List Int))) (x0 : List Int) (x1 : Bool) (x2 : List UInt8) (x3 : Int) (x4 : Int) : stepJ cfg X 63 0 code kend k J (St.l2 x0 x1 x2 x3 x4).lab (St.l2 x0 x1 x2 x3 x4).fr (St.l2 x0 x1 x2 x3 x4).hp = b2 k (fun s => J s.lab s.fr s.hp) x0 x1 x2 x3 x4 := by kernel_rfl
theorem s3 (k : Nat) (J : Nat → Fr → Heap → Option (Bool × Int × (List Int))) (x0 : List Int) (x1 : Bool) (x2 : List Int) (x3 : Bool) (x4 : List UInt8) (x5 : Int) (x6 : Int) : stepJ cfg X 63 0 code kend k J (St.l3 x0 x1 x2 x3 x4 x5 x6).lab (St.l3 x0 x1 x2 x3 x4 x5 x6).fr (St.l3 x0 x1 x2 x3 x4 x5 x6).hp = b3 k (fun s => J s.lab s.fr s.hp) x0 x1 x2 x3 x4 x5 x6 := by kernel_rfl
theorem go_ok : ∀ (k : Nat) (s : St), rn k s.lab s.fr s.hp = go k s
  | 0, _ => rfl
  | k + 1, .l1 x0 x1 x2 x3 x4 => by
    have h := s1 k (rn k) x0 x1 x2 x3 x4
    rw [show (fun s : St => rn k s.lab s.fr s.hp) = go k from funext (go_ok k)] at h
    exact h
  | k + 1, .l2 x0 x1 x2 x3 x4 => by
    have h := s2 k (rn k) x0 x1 x2 x3 x4
    rw [show (fun s : St => rn k s.lab s.fr s.hp) = go k from funext (go_ok k)] at h
    exact h
  | k + 1, .l3 x0 x1 x2 x3 x4 x5 x6 => by
    have h := s3 k (rn k) x0 x1 x2 x3 x4 x5 x6
    rw [show (fun s : St => rn k s.lab s.fr s.hp) = go k from funext (go_ok k)] at h
    exact h
theorem run_ok : ∀ (k : Nat) (a : (List UInt8) × Int), rn k 0 (argFr 0 (encA a).1) (encA a).2 = m k a.1 a.2
  | 0, _ => rfl
  | k + 1, (x0, x1) => by
    have h := s0 k (rn k) x0 x1
    rw [show (fun s : St => rn k s.lab s.fr s.hp) = go k from funext (go_ok k)] at h
    exact h
theorem snd (k : Nat) : Snd Tryz.prog cfg k ct := fn_snd (X := X) cfgOk mixed ok (np := 0) (vps := []) (vws := []) (decA := decA) (encA := encA) (decB := decB) (encB := encB) (encK := encK) (fun _ b _ => rfl)
  (by
    intro xs H a h
    unfold decA at h
    split at h
    · cases h; exact ⟨rfl, rfl, rfl, rfl⟩
    · cases h)
  (by
    intro v H b h
    unfold decB at h
    split at h
    · cases h; exact ⟨rfl, fun _ _ _ h => (by cases h), rfl⟩
    · cases h)
  rfl k (fun k' _ => AllS.mem (l := X) ⟨cavilref07_Digit.snd k', cavilref07_Small.snd k', cavilref07_Mul.snd k', cavilref07_Add.snd k', trivial⟩) (fun a => run_ok k a)
end cavilref07_Parse

/-! cavil/cavilref08.Num -/
namespace cavilref08_Num
def b0 (k : Nat) (x0 : Bool) (x1 : List Int) : Option (Bool × (List Int)) :=
  bindO (cavilref07_From.m k x0 x1) fun r1 =>
    some (r1.1, r1.2)
def m : Nat → Bool → List Int → Option (Bool × (List Int))
  | 0, _, _ => none
  | k + 1, x0, x1 => b0 k x0 x1
def anns : Anns := []
noncomputable def code : ACode := codeOf Tryz.f101 anns
def rs : List ResultVar := [.cell 2 40]
def decA : List AVal → Heap → Option (Bool × (List Int))
  | [.agg (.pair (.bool x0) (.pair (.arr 8 (.int .u64 x1)) .nil))], [] => some (x0, x1)
  | _, _ => none
def encA (a : Bool × (List Int)) : List AVal × Heap := ([.agg (.pair (.bool a.1) (.pair (.arr 8 (.int .u64 a.2)) .nil))], [])
def decB : AVal → Heap → Option (Bool × (List Int))
  | .agg (.pair (.bool y0) (.pair (.slice 0 1 .all) .nil)), [.row 0 1 true 3 (.int .i64 y1)] => some (y0, y1)
  | _, _ => none
def encB (b : Bool × (List Int)) : Out := (.agg (.pair (.bool b.1) (.pair (.slice 0 1 .all) .nil)), [], [.row 0 1 true 3 (.int .i64 b.2)])
def encK : EncK (Bool × (List Int)) := fun _ b K => K (encB b)
def X : List Ct := [cavilref07_From.ct]
def ct : Ct := ⟨101, callRun cfg.tt [(35, false)] decA (fun k a => m k a.1 a.2) false encK⟩
theorem ok : FnOk Tryz.prog cfg 101 5 code rs := .of Tryz.func101 (by kernel_rfl) rfl rfl (by kernel_rfl) (by kernel_rfl) rfl
abbrev kend : KK (Bool × (List Int)) := kEnd cfg.tt rs (kFin cfg.tt 0 false [40] [] [] decB)
noncomputable abbrev rn := run cfg X 5 0 code kend
theorem s0 (k : Nat) (J : Nat → Fr → Heap → Option (Bool × (List Int))) (x0 : Bool) (x1 : List Int) : stepJ cfg X 5 0 code kend k J 0 (argFr 0 (encA (x0, x1)).1) (encA (x0, x1)).2 = b0 k x0 x1 := by kernel_rfl
theorem run_ok : ∀ (k : Nat) (a : Bool × (List Int)), rn k 0 (argFr 0 (encA a).1) (encA a).2 = m k a.1 a.2
  | 0, _ => rfl
  | k + 1, (x0, x1) => by
    have h := s0 k (rn k) x0 x1
    exact h
theorem snd (k : Nat) : Snd Tryz.prog cfg k ct := fn_snd (X := X) cfgOk mixed ok (np := 0) (vps := []) (vws := []) (decA := decA) (encA := encA) (decB := decB) (encB := encB) (encK := encK) (fun _ b _ => rfl)
  (by
    intro xs H a h
    unfold decA at h
    split at h
    · cases h; exact ⟨rfl, rfl, rfl, rfl⟩
    · cases h)
  (by
    intro v H b h
    unfold decB at h
    split at h
    · cases h; exact ⟨rfl, fun _ _ _ h => (by cases h), rfl⟩
    · cases h)
  rfl k (fun k' _ => AllS.mem (l := X) ⟨cavilref07_From.snd k', trivial⟩) (fun a => run_ok k a)
end cavilref08_Num

/-! cavil/cavilref08.canon -/
namespace cavilref08_canon
def b0 (k : Nat) (x0 : Bool) (x1 : List Int) : Option (Bool) :=
  bif (!x0) then
    some true
  else
    bindO (cavilref08_Num.m k x0 x1) fun r1 =>
      some (decide ((r1.2.length : Int) > 0))
def m : Nat → Bool → List Int → Option (Bool)
  | 0, _, _ => none
  | k + 1, x0, x1 => b0 k x0 x1
def anns : Anns := []
noncomputable def code : ACode := codeOf Tryz.f102 anns
def rs : List ResultVar := [.tmp 2]
def decA : List AVal → Heap → Option (Bool × (List Int))
  | [.agg (.pair (.bool x0) (.pair (.arr 8 (.int .u64 x1)) .nil))], [] => some (x0, x1)
  | _, _ => none
def encA (a : Bool × (List Int)) : List AVal × Heap := ([.agg (.pair (.bool a.1) (.pair (.arr 8 (.int .u64 a.2)) .nil))], [])
def decB : AVal → Heap → Option (Bool)
  | .bool y0, [] => some y0
  | _, _ => none
def encB (b : Bool) : Out := (.bool b, [], [])
def encK : EncK (Bool) := fun _ b K => K (encB b)
def X : List Ct := [cavilref08_Num.ct]
def ct : Ct := ⟨102, callRun cfg.tt [(35, false)] decA (fun k a => m k a.1 a.2) false encK⟩
theorem ok : FnOk Tryz.prog cfg 102 13 code rs := .of Tryz.func102 (by kernel_rfl) rfl rfl (by kernel_rfl) (by kernel_rfl) rfl
abbrev kend : KK (Bool) := kEnd cfg.tt rs (kFin cfg.tt 0 false [4] [] [] decB)
noncomputable abbrev rn := run cfg X 13 0 code kend
theorem s0 (k : Nat) (J : Nat → Fr → Heap → Option (Bool)) (x0 : Bool) (x1 : List Int) : stepJ cfg X 13 0 code kend k J 0 (argFr 0 (encA (x0, x1)).1) (encA (x0, x1)).2 = b0 k x0 x1 := by kernel_rfl
theorem run_ok : ∀ (k : Nat) (a : Bool × (List Int)), rn k 0 (argFr 0 (encA a).1) (encA a).2 = m k a.1 a.2
  | 0, _ => rfl
  | k + 1, (x0, x1) => by
    have h := s0 k (rn k) x0 x1
    exact h
theorem snd (k : Nat) : Snd Tryz.prog cfg k ct := fn_snd (X := X) cfgOk mixed ok (np := 0) (vps := []) (vws := []) (decA := decA) (encA := encA) (decB := decB) (encB := encB) (encK := encK) (fun _ b _ => rfl)
  (by
    intro xs H a h
    unfold decA at h
    split at h
    · cases h; exact ⟨rfl, rfl, rfl, rfl⟩
    · cases h)
  (by
    intro v H b h
    unfold decB at h
    split at h
    · cases h; exact ⟨rfl, fun _ _ _ h => (by cases h), rfl⟩
    · cases h)
  rfl k (fun k' _ => AllS.mem (l := X) ⟨cavilref08_Num.snd k', trivial⟩) (fun a => run_ok k a)
end cavilref08_canon

/-! cavil/cavilref08.One -/
namespace cavilref08_One
def b0 (k : Nat) : Option (Bool × (List Int)) :=
  bindO (cavilref07_Small.m k 1) fun r1 =>
    some (r1.1, r1.2)
def m : Nat → Option (Bool × (List Int))
  | 0 => none
  | k + 1 => b0 k
def anns : Anns := []
noncomputable def code : ACode := codeOf Tryz.f81 anns
def rs : List ResultVar := [.cell 0 40]
def decA : List AVal → Heap → Option (Unit)
  | [], [] => some ()
  | _, _ => none
def encA (a : Unit) : List AVal × Heap := ([], [])
def decB : AVal → Heap → Option (Bool × (List Int))
  | .agg (.pair (.bool y0) (.pair (.slice 0 1 .all) .nil)), [.row 0 1 true 3 (.int .i64 y1)] => some (y0, y1)
  | _, _ => none
def encB (b : Bool × (List Int)) : Out := (.agg (.pair (.bool b.1) (.pair (.slice 0 1 .all) .nil)), [], [.row 0 1 true 3 (.int .i64 b.2)])
def encK : EncK (Bool × (List Int)) := fun _ b K => K (encB b)
def X : List Ct := [cavilref07_Small.ct]
def ct : Ct := ⟨81, callRun cfg.tt [] decA (fun k a => m k) false encK⟩
theorem ok : FnOk Tryz.prog cfg 81 2 code rs := .of Tryz.func81 (by kernel_rfl) rfl rfl (by kernel_rfl) (by kernel_rfl) rfl
abbrev kend : KK (Bool × (List Int)) := kEnd cfg.tt rs (kFin cfg.tt 0 false [40] [] [] decB)
noncomputable abbrev rn := run cfg X 2 0 code kend
theorem s0 (k : Nat) (J : Nat → Fr → Heap → Option (Bool × (List Int))) : stepJ cfg X 2 0 code kend k J 0 (argFr 0 (encA ()).1) (encA ()).2 = b0 k := by kernel_rfl
theorem run_ok : ∀ (k : Nat) (a : Unit), rn k 0 (argFr 0 (encA a).1) (encA a).2 = m k
  | 0, _ => rfl
  | k + 1, () => by
    have h := s0 k (rn k)
    exact h
theorem snd (k : Nat) : Snd Tryz.prog cfg k ct := fn_snd (X := X) cfgOk mixed ok (np := 0) (vps := []) (vws := []) (decA := decA) (encA := encA) (decB := decB) (encB := encB) (encK := encK) (fun _ b _ => rfl)
  (by
    intro xs H a h
    unfold decA at h
    split at h
    · cases h; exact ⟨rfl, rfl, rfl, rfl⟩
    · cases h)
  (by
    intro v H b h
    unfold decB at h
    split at h
    · cases h; exact ⟨rfl, fun _ _ _ h => (by cases h), rfl⟩
    · cases h)
  rfl k (fun k' _ => AllS.mem (l := X) ⟨cavilref07_Small.snd k', trivial⟩) (fun a => run_ok k a)
end cavilref08_One

/-! cavil/cavilref08.over -/
namespace cavilref08_over
def b0 (k : Nat) (x0 : Bool) (x1 : List Int) : Option (Bool) :=
  some (decide ((x1.length : Int) > 32))
def m : Nat → Bool → List Int → Option (Bool)
  | 0, _, _ => none
  | k + 1, x0, x1 => b0 k x0 x1
def anns : Anns := []
noncomputable def code : ACode := codeOf Tryz.f104 anns
def rs : List ResultVar := [.tmp 2]
def decA : List AVal → Heap → Option (Bool × (List Int))
  | [.agg (.pair (.bool x0) (.pair (.slice 0 1 .all) .nil))], [.row 0 1 false 3 (.int .i64 x1)] => some (x0, x1)
  | _, _ => none
def encA (a : Bool × (List Int)) : List AVal × Heap := ([.agg (.pair (.bool a.1) (.pair (.slice 0 1 .all) .nil))], [.row 0 1 false 3 (.int .i64 a.2)])
def decB : AVal → Heap → Option (Bool)
  | .bool y0, [_] => some y0
  | _, _ => none
def encB (b : Bool) : Out := (.bool b, [], [])
def encK : EncK (Bool) := fun _ b K => K (encB b)
def X : List Ct := []
def ct : Ct := ⟨104, callRun cfg.tt [(40, false)] decA (fun k a => m k a.1 a.2) false encK⟩
theorem ok : FnOk Tryz.prog cfg 104 7 code rs := .of Tryz.func104 (by kernel_rfl) rfl rfl (by kernel_rfl) (by kernel_rfl) rfl
abbrev kend : KK (Bool) := kEnd cfg.tt rs (kFin cfg.tt 1 false [4] [] [0] decB)
noncomputable abbrev rn := run cfg X 7 1 code kend
theorem s0 (k : Nat) (J : Nat → Fr → Heap → Option (Bool)) (x0 : Bool) (x1 : List Int) : stepJ cfg X 7 1 code kend k J 0 (argFr 0 (encA (x0, x1)).1) (encA (x0, x1)).2 = b0 k x0 x1 := by kernel_rfl
theorem run_ok : ∀ (k : Nat) (a : Bool × (List Int)), rn k 0 (argFr 0 (encA a).1) (encA a).2 = m k a.1 a.2
  | 0, _ => rfl
  | k + 1, (x0, x1) => by
    have h := s0 k (rn k) x0 x1
    exact h
theorem snd (k : Nat) : Snd Tryz.prog cfg k ct := fn_snd (X := X) cfgOk mixed ok (np := 1) (vps := []) (vws := [0]) (decA := decA) (encA := encA) (decB := decB) (encB := encB) (encK := encK) (fun _ b _ => rfl)
  (by
    intro xs H a h
    unfold decA at h
    split at h
    · cases h; exact ⟨rfl, rfl, rfl, rfl⟩
    · cases h)
  (by
    intro v H b h
    unfold decB at h
    split at h
    · cases h; exact ⟨rfl, fun _ _ _ h => (by cases h), rfl⟩
    · cases h)
  rfl k (fun k' _ => AllS.mem (l := X) trivial) (fun a => run_ok k a)
end cavilref08_over

/-! cavil/cavilref08.Check -/
namespace cavilref08_Check
def b0 (k : Nat) (x0 : Bool) (x1 : List Int) (x2 : Bool) (x3 : List Int) : Option (Int) :=
  bindO (cavilref08_Num.m k x0 x1) fun r1 =>
    bindO (cavilref08_Num.m k x2 x3) fun r2 =>
      bindO (cavilref08_canon.m k x0 x1) fun r3 =>
        bif (!r3) then
          some 8
        else
          bindO (cavilref08_canon.m k x2 x3) fun r4 =>
            bif (!r4) then
              some 8
            else
              bif r2.1 then
                some 8
              else
                bif ((r2.2.length : Int) == 0) then
                  some 8
                else
                  bindO (cavilref07_Gcd.m k r1.1 r1.2 r2.1 r2.2) fun r5 => match r5 with
                    | .r1 r5_0 r5_1 r5_2 =>
                      (bindO (cavilref08_One.m k) fun r6 =>
                        bindO (cavilref07_Cmp.m k r5_0 (cut r1.2 r5_1 r5_2) r6.1 r6.2) fun r7 =>
                          bif (r7 != 0) then
                            some 8
                          else
                            some 0)
                    | .r2 r5_0 r5_1 r5_2 =>
                      (bindO (cavilref08_One.m k) fun r8 =>
                        bindO (cavilref07_Cmp.m k r5_0 (cut r2.2 r5_1 r5_2) r8.1 r8.2) fun r9 =>
                          bif (r9 != 0) then
                            some 8
                          else
                            some 0)
                    | .r3 r5_0 r5_1 =>
                      (bindO (cavilref08_One.m k) fun r10 =>
                        bindO (cavilref07_Cmp.m k r5_0 r5_1 r10.1 r10.2) fun r11 =>
                          bif (r11 != 0) then
                            some 8
                          else
                            some 0)
def m : Nat → Bool → List Int → Bool → List Int → Option (Int)
  | 0, _, _, _, _ => none
  | k + 1, x0, x1, x2, x3 => b0 k x0 x1 x2 x3
def anns : Anns := []
noncomputable def code : ACode := codeOf Tryz.f79 anns
def rs : List ResultVar := [.tmp 2]
def decA : List AVal → Heap → Option (Bool × (List Int) × Bool × (List Int))
  | [.agg (.pair (.agg (.pair (.bool x0) (.pair (.arr 8 (.int .u64 x1)) .nil))) (.pair (.agg (.pair (.bool x2) (.pair (.arr 8 (.int .u64 x3)) .nil))) .nil))], [] => some (x0, x1, x2, x3)
  | _, _ => none
def encA (a : Bool × (List Int) × Bool × (List Int)) : List AVal × Heap := ([.agg (.pair (.agg (.pair (.bool a.1) (.pair (.arr 8 (.int .u64 a.2.1)) .nil))) (.pair (.agg (.pair (.bool a.2.2.1) (.pair (.arr 8 (.int .u64 a.2.2.2)) .nil))) .nil))], [])
def decB : AVal → Heap → Option (Int)
  | .int .i64 y0, [] => some y0
  | _, _ => none
def encB (b : Int) : Out := (.int .i64 b, [], [])
def encK : EncK (Int) := fun _ b K => K (encB b)
def X : List Ct := [cavilref08_Num.ct, cavilref08_canon.ct, cavilref07_Gcd.ct, cavilref08_One.ct, cavilref07_Cmp.ct]
def ct : Ct := ⟨79, callRun cfg.tt [(46, false)] decA (fun k a => m k a.1 a.2.1 a.2.2.1 a.2.2.2) false encK⟩
theorem ok : FnOk Tryz.prog cfg 79 39 code rs := .of Tryz.func79 (by kernel_rfl) rfl rfl (by kernel_rfl) (by kernel_rfl) rfl
abbrev kend : KK (Int) := kEnd cfg.tt rs (kFin cfg.tt 0 false [3] [] [] decB)
noncomputable abbrev rn := run cfg X 39 0 code kend
theorem s0 (k : Nat) (J : Nat → Fr → Heap → Option (Int)) (x0 : Bool) (x1 : List Int) (x2 : Bool) (x3 : List Int) : stepJ cfg X 39 0 code kend k J 0 (argFr 0 (encA (x0, x1, x2, x3)).1) (encA (x0, x1, x2, x3)).2 = b0 k x0 x1 x2 x3 := by kernel_rfl
theorem run_ok : ∀ (k : Nat) (a : Bool × (List Int) × Bool × (List Int)), rn k 0 (argFr 0 (encA a).1) (encA a).2 = m k a.1 a.2.1 a.2.2.1 a.2.2.2
  | 0, _ => rfl
  | k + 1, (x0, x1, x2, x3) => by
    have h := s0 k (rn k) x0 x1 x2 x3
    exact h
theorem snd (k : Nat) : Snd Tryz.prog cfg k ct := fn_snd (X := X) cfgOk mixed ok (np := 0) (vps := []) (vws := []) (decA := decA) (encA := encA) (decB := decB) (encB := encB) (encK := encK) (fun _ b _ => rfl)
  (by
    intro xs H a h
    unfold decA at h
    split at h
    · cases h; exact ⟨rfl, rfl, rfl, rfl⟩
    · cases h)
  (by
    intro v H b h
    unfold decB at h
    split at h
    · cases h; exact ⟨rfl, fun _ _ _ h => (by cases h), rfl⟩
    · cases h)
  rfl k (fun k' _ => AllS.mem (l := X) ⟨cavilref08_Num.snd k', cavilref08_canon.snd k', cavilref07_Gcd.snd k', cavilref08_One.snd k', cavilref07_Cmp.snd k', trivial⟩) (fun a => run_ok k a)
end cavilref08_Check

/-! cavil/cavilref08.lowest -/
namespace cavilref08_lowest
inductive St where
  | l1 (x0 : List Int) (x1 : List Int) (x2 : Bool) (x3 : List Int) (x4 : Bool) (x5 : List Int) (x6 : List Int) (x7 : Bool) (x8 : List Int) (x9 : Bool)
def St.lab : St → Nat
  | .l1 _ _ _ _ _ _ _ _ _ _ => 1
def St.fr : St → Fr
  | .l1 x0 x1 x2 x3 x4 x5 x6 x7 x8 x9 => [(4, .ptr 2 1 []), (6, .ptr 4 1 []), (8, .ptr 6 1 [])]
def St.hp : St → Heap
  | .l1 x0 x1 x2 x3 x4 x5 x6 x7 x8 x9 => [.row 0 1 false 3 (.int .i64 x0), .row 0 1 false 3 (.int .i64 x1), .var 0 46 (.agg (.pair (.agg (.pair (.bool x2) (.pair (.arr 8 (.int .u64 x3)) .nil))) (.pair (.agg (.pair (.bool x4) (.pair (.arr 8 (.int .u64 x5)) .nil))) .nil))), .row 0 1 true 3 (.int .i64 x6), .var 0 40 (.agg (.pair (.bool x7) (.pair (.slice 3 1 .all) .nil))), .row 0 1 true 3 (.int .i64 x8), .var 0 40 (.agg (.pair (.bool x9) (.pair (.slice 5 1 .all) .nil)))]
def b0 (k : Nat) (J : St → Option (Bool × (List Int) × Bool × (List Int))) (x0 : Bool) (x1 : List Int) (x2 : Bool) (x3 : List Int) : Option (Bool × (List Int) × Bool × (List Int)) :=
  bindO (cavilref07_Gcd.m k x0 x1 x2 x3) fun r1 => match r1 with
    | .r1 r1_0 r1_1 r1_2 =>
      (bindO (cavilref07_Div.m k x0 x1 r1_0 (cut x1 r1_1 r1_2)) fun r2 =>
        bindO (cavilref07_Div.m k x2 x3 r1_0 (cut x1 r1_1 r1_2)) fun r3 =>
          bif r3.1 then
            bindO (cavilref07_Sub.m k false [] r2.1 r2.2.2.1) fun r4 =>
              bindO (cavilref07_Sub.m k false [] r3.1 r3.2.2.1) fun r5 =>
                J (.l1 x1 x3 false (List.replicate 8 (0 : Int)) false (List.replicate 8 (0 : Int)) r4.2 r4.1 r5.2 r5.1)
          else
            J (.l1 x1 x3 false (List.replicate 8 (0 : Int)) false (List.replicate 8 (0 : Int)) r2.2.2.1 r2.1 r3.2.2.1 r3.1))
    | .r2 r1_0 r1_1 r1_2 =>
      (bindO (cavilref07_Div.m k x0 x1 r1_0 (cut x3 r1_1 r1_2)) fun r6 =>
        bindO (cavilref07_Div.m k x2 x3 r1_0 (cut x3 r1_1 r1_2)) fun r7 =>
          bif r7.1 then
            bindO (cavilref07_Sub.m k false [] r6.1 r6.2.2.1) fun r8 =>
              bindO (cavilref07_Sub.m k false [] r7.1 r7.2.2.1) fun r9 =>
                J (.l1 x1 x3 false (List.replicate 8 (0 : Int)) false (List.replicate 8 (0 : Int)) r8.2 r8.1 r9.2 r9.1)
          else
            J (.l1 x1 x3 false (List.replicate 8 (0 : Int)) false (List.replicate 8 (0 : Int)) r6.2.2.1 r6.1 r7.2.2.1 r7.1))
    | .r3 r1_0 r1_1 =>
      (bindO (cavilref07_Div.m k x0 x1 r1_0 r1_1) fun r10 =>
        bindO (cavilref07_Div.m k x2 x3 r1_0 r1_1) fun r11 =>
          bif r11.1 then
            bindO (cavilref07_Sub.m k false [] r10.1 r10.2.2.1) fun r12 =>
              bindO (cavilref07_Sub.m k false [] r11.1 r11.2.2.1) fun r13 =>
                J (.l1 x1 x3 false (List.replicate 8 (0 : Int)) false (List.replicate 8 (0 : Int)) r12.2 r12.1 r13.2 r13.1)
          else
            J (.l1 x1 x3 false (List.replicate 8 (0 : Int)) false (List.replicate 8 (0 : Int)) r10.2.2.1 r10.1 r11.2.2.1 r11.1))
def b1 (k : Nat) (J : St → Option (Bool × (List Int) × Bool × (List Int))) (x0 : List Int) (x1 : List Int) (x2 : Bool) (x3 : List Int) (x4 : Bool) (x5 : List Int) (x6 : List Int) (x7 : Bool) (x8 : List Int) (x9 : Bool) : Option (Bool × (List Int) × Bool × (List Int)) :=
  bindO (cavilref07_To.m k x7 x6) fun r1 =>
    bindO (cavilref07_To.m k x9 x8) fun r2 =>
      some (r1.1, r1.2.1, r2.1, r2.2.1)
def go : Nat → St → Option (Bool × (List Int) × Bool × (List Int))
  | 0, _ => none
  | k + 1, .l1 x0 x1 x2 x3 x4 x5 x6 x7 x8 x9 => b1 k (go k) x0 x1 x2 x3 x4 x5 x6 x7 x8 x9
def m : Nat → Bool → List Int → Bool → List Int → Option (Bool × (List Int) × Bool × (List Int))
  | 0, _, _, _, _ => none
  | k + 1, x0, x1, x2, x3 => b0 k (go k) x0 x1 x2 x3
def anns : Anns := [(4, 1, [(4, 0, false), (6, 0, false), (8, 0, false)])]
noncomputable def code : ACode := codeOf Tryz.f106 anns
def rs : List ResultVar := [.cell 4 46]
def decA : List AVal → Heap → Option (Bool × (List Int) × Bool × (List Int))
  | [.agg (.pair (.bool x0) (.pair (.slice 0 1 .all) .nil)), .agg (.pair (.bool x2) (.pair (.slice 1 1 .all) .nil))], [.row 0 1 false 3 (.int .i64 x1), .row 0 1 false 3 (.int .i64 x3)] => some (x0, x1, x2, x3)
  | _, _ => none
def encA (a : Bool × (List Int) × Bool × (List Int)) : List AVal × Heap := ([.agg (.pair (.bool a.1) (.pair (.slice 0 1 .all) .nil)), .agg (.pair (.bool a.2.2.1) (.pair (.slice 1 1 .all) .nil))], [.row 0 1 false 3 (.int .i64 a.2.1), .row 0 1 false 3 (.int .i64 a.2.2.2)])
def decB : AVal → Heap → Option (Bool × (List Int) × Bool × (List Int))
  | .agg (.pair (.agg (.pair (.bool y0) (.pair (.arr 8 (.int .u64 y1)) .nil))) (.pair (.agg (.pair (.bool y2) (.pair (.arr 8 (.int .u64 y3)) .nil))) .nil)), [_, _] => some (y0, y1, y2, y3)
  | _, _ => none
def encB (b : Bool × (List Int) × Bool × (List Int)) : Out := (.agg (.pair (.agg (.pair (.bool b.1) (.pair (.arr 8 (.int .u64 b.2.1)) .nil))) (.pair (.agg (.pair (.bool b.2.2.1) (.pair (.arr 8 (.int .u64 b.2.2.2)) .nil))) .nil)), [], [])
def encK : EncK (Bool × (List Int) × Bool × (List Int)) := fun _ b K => K (encB b)
def X : List Ct := [cavilref07_Gcd.ct, cavilref07_Div.ct, cavilref07_Sub.ct, cavilref07_To.ct]
def ct : Ct := ⟨106, callRun cfg.tt [(40, false), (40, false)] decA (fun k a => m k a.1 a.2.1 a.2.2.1 a.2.2.2) false encK⟩
theorem ok : FnOk Tryz.prog cfg 106 50 code rs := .of Tryz.func106 (by kernel_rfl) rfl rfl (by kernel_rfl) (by kernel_rfl) rfl
abbrev kend : KK (Bool × (List Int) × Bool × (List Int)) := kEnd cfg.tt rs (kFin cfg.tt 2 false [46] [] [0, 1] decB)
noncomputable abbrev rn := run cfg X 50 2 code kend
theorem s0 (k : Nat) (J : Nat → Fr → Heap → Option (Bool × (List Int) × Bool × (List Int))) (x0 : Bool) (x1 : List Int) (x2 : Bool) (x3 : List Int) : stepJ cfg X 50 2 code kend k J 0 (argFr 0 (encA (x0, x1, x2, x3)).1) (encA (x0, x1, x2, x3)).2 = b0 k (fun s => J s.lab s.fr s.hp) x0 x1 x2 x3 := by kernel_rfl
theorem s1 (k : Nat) (J : Nat → Fr → Heap → Option (Bool × (List Int) × Bool × (List Int))) (x0 : List Int) (x1 : List Int) (x2 : Bool) (x3 : List Int) (x4 : Bool) (x5 : List Int) (x6 : List Int) (x7 : Bool) (x8 : List Int) (x9 : Bool) : stepJ cfg X 50 2 code kend k J (St.l1 x0 x1 x2 x3 x4 x5 x6 x7 x8 x9).lab (St.l1 x0 x1 x2 x3 x4 x5 x6 x7 x8 x9).fr (St.l1 x0 x1 x2 x3 x4 x5 x6 x7 x8 x9).hp = b1 k (fun s => J s.lab s.fr s.hp) x0 x1 x2 x3 x4 x5 x6 x7 x8 x9 := by kernel_rfl
theorem go_ok : ∀ (k : Nat) (s : St), rn k s.lab s.fr s.hp = go k s
  | 0, _ => rfl
  | k + 1, .l1 x0 x1 x2 x3 x4 x5 x6 x7 x8 x9 => by
    have h := s1 k (rn k) x0 x1 x2 x3 x4 x5 x6 x7 x8 x9
    rw [show (fun s : St => rn k s.lab s.fr s.hp) = go k from funext (go_ok k)] at h
    exact h
theorem run_ok : ∀ (k : Nat) (a : Bool × (List Int) × Bool × (List Int)), rn k 0 (argFr 0 (encA a).1) (encA a).2 = m k a.1 a.2.1 a.2.2.1 a.2.2.2
  | 0, _ => rfl
  | k + 1, (x0, x1, x2, x3) => by
    have h := s0 k (rn k) x0 x1 x2 x3
    rw [show (fun s : St => rn k s.lab s.fr s.hp) = go k from funext (go_ok k)] at h
    exact h
theorem snd (k : Nat) : Snd Tryz.prog cfg k ct := fn_snd (X := X) cfgOk mixed ok (np := 2) (vps := []) (vws := [0, 1]) (decA := decA) (encA := encA) (decB := decB) (encB := encB) (encK := encK) (fun _ b _ => rfl)
  (by
    intro xs H a h
    unfold decA at h
    split at h
    · cases h; exact ⟨rfl, rfl, rfl, rfl⟩
    · cases h)
  (by
    intro v H b h
    unfold decB at h
    split at h
    · cases h; exact ⟨rfl, fun _ _ _ h => (by cases h), rfl⟩
    · cases h)
  rfl k (fun k' _ => AllS.mem (l := X) ⟨cavilref07_Gcd.snd k', cavilref07_Div.snd k', cavilref07_Sub.snd k', cavilref07_To.snd k', trivial⟩) (fun a => run_ok k a)
end cavilref08_lowest

/-! cavil/cavilref08.Do -/
namespace cavilref08_Do
inductive St where
  | l1 (x0 : Bool) (x1 : List Int) (x2 : Bool) (x3 : List Int) (x4 : Bool) (x5 : List Int) (x6 : Bool) (x7 : List Int) (x8 : Bool) (x9 : List Int) (x10 : Bool) (x11 : List Int) (x12 : Int) (x13 : Bool)
  | l2 (x0 : Bool) (x1 : List Int) (x2 : Bool) (x3 : List Int) (x4 : Bool) (x5 : List Int) (x6 : Bool) (x7 : List Int) (x8 : Bool) (x9 : List Int) (x10 : Bool) (x11 : List Int) (x12 : Int) (x13 : Bool)
  | l3 (x0 : Bool) (x1 : List Int) (x2 : Bool) (x3 : List Int) (x4 : List Int) (x5 : Bool) (x6 : List Int) (x7 : Bool) (x8 : Bool)
def St.lab : St → Nat
  | .l1 _ _ _ _ _ _ _ _ _ _ _ _ _ _ => 1
  | .l2 _ _ _ _ _ _ _ _ _ _ _ _ _ _ => 2
  | .l3 _ _ _ _ _ _ _ _ _ => 3
def St.fr : St → Fr
  | .l1 x0 x1 x2 x3 x4 x5 x6 x7 x8 x9 x10 x11 x12 x13 => [(2, .int .i64 x12), (3, .ptr 0 1 []), (4, .ptr 1 1 []), (6, .ptr 2 1 []), (20, .bool x13)]
  | .l2 x0 x1 x2 x3 x4 x5 x6 x7 x8 x9 x10 x11 x12 x13 => [(2, .int .i64 x12), (3, .ptr 0 1 []), (4, .ptr 1 1 []), (6, .ptr 2 1 []), (31, .bool x13)]
  | .l3 x0 x1 x2 x3 x4 x5 x6 x7 x8 => [(6, .ptr 0 1 []), (10, .ptr 2 1 []), (11, .ptr 4 1 []), (12, .bool x8)]
def St.hp : St → Heap
  | .l1 x0 x1 x2 x3 x4 x5 x6 x7 x8 x9 x10 x11 x12 x13 => [.var 0 46 (.agg (.pair (.agg (.pair (.bool x0) (.pair (.arr 8 (.int .u64 x1)) .nil))) (.pair (.agg (.pair (.bool x2) (.pair (.arr 8 (.int .u64 x3)) .nil))) .nil))), .var 0 46 (.agg (.pair (.agg (.pair (.bool x4) (.pair (.arr 8 (.int .u64 x5)) .nil))) (.pair (.agg (.pair (.bool x6) (.pair (.arr 8 (.int .u64 x7)) .nil))) .nil))), .var 0 46 (.agg (.pair (.agg (.pair (.bool x8) (.pair (.arr 8 (.int .u64 x9)) .nil))) (.pair (.agg (.pair (.bool x10) (.pair (.arr 8 (.int .u64 x11)) .nil))) .nil)))]
  | .l2 x0 x1 x2 x3 x4 x5 x6 x7 x8 x9 x10 x11 x12 x13 => [.var 0 46 (.agg (.pair (.agg (.pair (.bool x0) (.pair (.arr 8 (.int .u64 x1)) .nil))) (.pair (.agg (.pair (.bool x2) (.pair (.arr 8 (.int .u64 x3)) .nil))) .nil))), .var 0 46 (.agg (.pair (.agg (.pair (.bool x4) (.pair (.arr 8 (.int .u64 x5)) .nil))) (.pair (.agg (.pair (.bool x6) (.pair (.arr 8 (.int .u64 x7)) .nil))) .nil))), .var 0 46 (.agg (.pair (.agg (.pair (.bool x8) (.pair (.arr 8 (.int .u64 x9)) .nil))) (.pair (.agg (.pair (.bool x10) (.pair (.arr 8 (.int .u64 x11)) .nil))) .nil)))]
  | .l3 x0 x1 x2 x3 x4 x5 x6 x7 x8 => [.var 0 46 (.agg (.pair (.agg (.pair (.bool x0) (.pair (.arr 8 (.int .u64 x1)) .nil))) (.pair (.agg (.pair (.bool x2) (.pair (.arr 8 (.int .u64 x3)) .nil))) .nil))), .row 0 1 true 3 (.int .i64 x4), .var 0 40 (.agg (.pair (.bool x5) (.pair (.slice 1 1 .all) .nil))), .row 0 1 true 3 (.int .i64 x6), .var 0 40 (.agg (.pair (.bool x7) (.pair (.slice 3 1 .all) .nil)))]
def b0 (k : Nat) (J : St → Option (Bool × (List Int) × Bool × (List Int) × Int)) (x0 : Bool) (x1 : List Int) (x2 : Bool) (x3 : List Int) (x4 : Bool) (x5 : List Int) (x6 : Bool) (x7 : List Int) (x8 : Int) : Option (Bool × (List Int) × Bool × (List Int) × Int) :=
  bindO (cavilref08_Check.m k x0 x1 x2 x3) fun r1 =>
    bif (r1 != 0) then
      J (.l1 x0 x1 x2 x3 x4 x5 x6 x7 false (List.replicate 8 (0 : Int)) false (List.replicate 8 (0 : Int)) x8 true)
    else
      bindO (cavilref08_Check.m k x4 x5 x6 x7) fun r2 =>
        J (.l1 x0 x1 x2 x3 x4 x5 x6 x7 false (List.replicate 8 (0 : Int)) false (List.replicate 8 (0 : Int)) x8 (r2 != 0))
def b1 (k : Nat) (J : St → Option (Bool × (List Int) × Bool × (List Int) × Int)) (x0 : Bool) (x1 : List Int) (x2 : Bool) (x3 : List Int) (x4 : Bool) (x5 : List Int) (x6 : Bool) (x7 : List Int) (x8 : Bool) (x9 : List Int) (x10 : Bool) (x11 : List Int) (x12 : Int) (x13 : Bool) : Option (Bool × (List Int) × Bool × (List Int) × Int) :=
  bif x13 then
    some (false, (List.replicate 8 (0 : Int)), false, (List.replicate 8 (0 : Int)), 8)
  else
    bif (x12 == 3) then
      bindO (cavilref08_Num.m k x4 x5) fun r1 =>
        J (.l2 x0 x1 x2 x3 x4 x5 x6 x7 x8 x9 x10 x11 x12 ((r1.2.length : Int) == 0))
    else
      J (.l2 x0 x1 x2 x3 x4 x5 x6 x7 x8 x9 x10 x11 x12 false)
def b2 (k : Nat) (J : St → Option (Bool × (List Int) × Bool × (List Int) × Int)) (x0 : Bool) (x1 : List Int) (x2 : Bool) (x3 : List Int) (x4 : Bool) (x5 : List Int) (x6 : Bool) (x7 : List Int) (x8 : Bool) (x9 : List Int) (x10 : Bool) (x11 : List Int) (x12 : Int) (x13 : Bool) : Option (Bool × (List Int) × Bool × (List Int) × Int) :=
  bif x13 then
    some (false, (List.replicate 8 (0 : Int)), false, (List.replicate 8 (0 : Int)), 10)
  else
    bindO (cavilref08_Num.m k x0 x1) fun r1 =>
      bindO (cavilref08_Num.m k x6 x7) fun r2 =>
        bindO (cavilref07_Mul.m k r1.1 r1.2 r2.1 r2.2) fun r3 =>
          bindO (cavilref08_Num.m k x4 x5) fun r4 =>
            bindO (cavilref08_Num.m k x2 x3) fun r5 =>
              bindO (cavilref07_Mul.m k r4.1 r4.2 r5.1 r5.2) fun r6 =>
                bindO (cavilref08_Num.m k x2 x3) fun r7 =>
                  bindO (cavilref08_Num.m k x6 x7) fun r8 =>
                    bindO (cavilref07_Mul.m k r7.1 r7.2 r8.1 r8.2) fun r9 =>
                      bif (x12 == 0) then
                        bindO (cavilref07_Add.m k r3.1 r3.2 r6.1 r6.2) fun r10 =>
                          bindO (cavilref08_over.m k r3.1 r3.2) fun r11 =>
                            bif r11 then
                              J (.l3 x8 x9 x10 x11 r10.2 r10.1 r9.2 r9.1 true)
                            else
                              bindO (cavilref08_over.m k r6.1 r6.2) fun r12 =>
                                J (.l3 x8 x9 x10 x11 r10.2 r10.1 r9.2 r9.1 r12)
                      else
                        bif (x12 == 1) then
                          bindO (cavilref07_Sub.m k r3.1 r3.2 r6.1 r6.2) fun r13 =>
                            bindO (cavilref08_over.m k r3.1 r3.2) fun r14 =>
                              bif r14 then
                                J (.l3 x8 x9 x10 x11 r13.2 r13.1 r9.2 r9.1 true)
                              else
                                bindO (cavilref08_over.m k r6.1 r6.2) fun r15 =>
                                  J (.l3 x8 x9 x10 x11 r13.2 r13.1 r9.2 r9.1 r15)
                        else
                          bif (x12 == 2) then
                            bindO (cavilref08_Num.m k x0 x1) fun r16 =>
                              bindO (cavilref08_Num.m k x4 x5) fun r17 =>
                                bindO (cavilref07_Mul.m k r16.1 r16.2 r17.1 r17.2) fun r18 =>
                                  J (.l3 x8 x9 x10 x11 r18.2 r18.1 r9.2 r9.1 false)
                          else
                            bif (x12 == 3) then
                              bindO (cavilref08_Num.m k x2 x3) fun r19 =>
                                bindO (cavilref08_Num.m k x4 x5) fun r20 =>
                                  bindO (cavilref07_Mul.m k r19.1 r19.2 r20.1 r20.2) fun r21 =>
                                    J (.l3 x8 x9 x10 x11 r3.2 r3.1 r21.2 r21.1 false)
                            else
                              J (.l3 x8 x9 x10 x11 r3.2 r3.1 r9.2 r9.1 false)
def b3 (k : Nat) (J : St → Option (Bool × (List Int) × Bool × (List Int) × Int)) (x0 : Bool) (x1 : List Int) (x2 : Bool) (x3 : List Int) (x4 : List Int) (x5 : Bool) (x6 : List Int) (x7 : Bool) (x8 : Bool) : Option (Bool × (List Int) × Bool × (List Int) × Int) :=
  bif x8 then
    some (false, (List.replicate 8 (0 : Int)), false, (List.replicate 8 (0 : Int)), 9)
  else
    bindO (cavilref08_over.m k x5 x4) fun r1 =>
      bif r1 then
        some (false, (List.replicate 8 (0 : Int)), false, (List.replicate 8 (0 : Int)), 9)
      else
        bindO (cavilref08_over.m k x7 x6) fun r2 =>
          bif r2 then
            some (false, (List.replicate 8 (0 : Int)), false, (List.replicate 8 (0 : Int)), 9)
          else
            bindO (cavilref08_lowest.m k x5 x4 x7 x6) fun r3 =>
              some (r3.1, r3.2.1, r3.2.2.1, r3.2.2.2, 0)
def go : Nat → St → Option (Bool × (List Int) × Bool × (List Int) × Int)
  | 0, _ => none
  | k + 1, .l1 x0 x1 x2 x3 x4 x5 x6 x7 x8 x9 x10 x11 x12 x13 => b1 k (go k) x0 x1 x2 x3 x4 x5 x6 x7 x8 x9 x10 x11 x12 x13
  | k + 1, .l2 x0 x1 x2 x3 x4 x5 x6 x7 x8 x9 x10 x11 x12 x13 => b2 k (go k) x0 x1 x2 x3 x4 x5 x6 x7 x8 x9 x10 x11 x12 x13
  | k + 1, .l3 x0 x1 x2 x3 x4 x5 x6 x7 x8 => b3 k (go k) x0 x1 x2 x3 x4 x5 x6 x7 x8
def m : Nat → Bool → List Int → Bool → List Int → Bool → List Int → Bool → List Int → Int → Option (Bool × (List Int) × Bool × (List Int) × Int)
  | 0, _, _, _, _, _, _, _, _, _ => none
  | k + 1, x0, x1, x2, x3, x4, x5, x6, x7, x8 => b0 k (go k) x0 x1 x2 x3 x4 x5 x6 x7 x8
def anns : Anns := [(2, 1, [(2, 3, false), (3, 0, false), (4, 0, false), (6, 0, false), (20, 4, false)]), (5, 2, [(2, 3, false), (3, 0, false), (4, 0, false), (6, 0, false), (31, 4, false)]), (11, 3, [(6, 0, false), (10, 0, false), (11, 0, false), (12, 4, false)])]
noncomputable def code : ACode := codeOf Tryz.f80 anns
def rs : List ResultVar := [.cell 6 46, .tmp 7]
def decA : List AVal → Heap → Option (Bool × (List Int) × Bool × (List Int) × Bool × (List Int) × Bool × (List Int) × Int)
  | [.agg (.pair (.agg (.pair (.bool x0) (.pair (.arr 8 (.int .u64 x1)) .nil))) (.pair (.agg (.pair (.bool x2) (.pair (.arr 8 (.int .u64 x3)) .nil))) .nil)), .agg (.pair (.agg (.pair (.bool x4) (.pair (.arr 8 (.int .u64 x5)) .nil))) (.pair (.agg (.pair (.bool x6) (.pair (.arr 8 (.int .u64 x7)) .nil))) .nil)), .int .i64 x8], [] => some (x0, x1, x2, x3, x4, x5, x6, x7, x8)
  | _, _ => none
def encA (a : Bool × (List Int) × Bool × (List Int) × Bool × (List Int) × Bool × (List Int) × Int) : List AVal × Heap := ([.agg (.pair (.agg (.pair (.bool a.1) (.pair (.arr 8 (.int .u64 a.2.1)) .nil))) (.pair (.agg (.pair (.bool a.2.2.1) (.pair (.arr 8 (.int .u64 a.2.2.2.1)) .nil))) .nil)), .agg (.pair (.agg (.pair (.bool a.2.2.2.2.1) (.pair (.arr 8 (.int .u64 a.2.2.2.2.2.1)) .nil))) (.pair (.agg (.pair (.bool a.2.2.2.2.2.2.1) (.pair (.arr 8 (.int .u64 a.2.2.2.2.2.2.2.1)) .nil))) .nil)), .int .i64 a.2.2.2.2.2.2.2.2], [])
def decB : AVal → Heap → Option (Bool × (List Int) × Bool × (List Int) × Int)
  | .tup (.pair (.agg (.pair (.agg (.pair (.bool y0) (.pair (.arr 8 (.int .u64 y1)) .nil))) (.pair (.agg (.pair (.bool y2) (.pair (.arr 8 (.int .u64 y3)) .nil))) .nil))) (.pair (.int .i64 y4) .nil)), [] => some (y0, y1, y2, y3, y4)
  | _, _ => none
def encB (b : Bool × (List Int) × Bool × (List Int) × Int) : Out := (.tup (.pair (.agg (.pair (.agg (.pair (.bool b.1) (.pair (.arr 8 (.int .u64 b.2.1)) .nil))) (.pair (.agg (.pair (.bool b.2.2.1) (.pair (.arr 8 (.int .u64 b.2.2.2.1)) .nil))) .nil))) (.pair (.int .i64 b.2.2.2.2) .nil)), [], [])
def encK : EncK (Bool × (List Int) × Bool × (List Int) × Int) := fun _ b K => K (encB b)
def X : List Ct := [cavilref08_Check.ct, cavilref08_Num.ct, cavilref07_Mul.ct, cavilref07_Add.ct, cavilref08_over.ct, cavilref07_Sub.ct, cavilref08_lowest.ct]
def ct : Ct := ⟨80, callRun cfg.tt [(46, false), (46, false), (3, false)] decA (fun k a => m k a.1 a.2.1 a.2.2.1 a.2.2.2.1 a.2.2.2.2.1 a.2.2.2.2.2.1 a.2.2.2.2.2.2.1 a.2.2.2.2.2.2.2.1 a.2.2.2.2.2.2.2.2) false encK⟩
theorem ok : FnOk Tryz.prog cfg 80 109 code rs := .of Tryz.func80 (by kernel_rfl) rfl rfl (by kernel_rfl) (by kernel_rfl) rfl
abbrev kend : KK (Bool × (List Int) × Bool × (List Int) × Int) := kEnd cfg.tt rs (kFin cfg.tt 0 false [46, 3] [] [] decB)
noncomputable abbrev rn := run cfg X 109 0 code kend
theorem s0 (k : Nat) (J : Nat → Fr → Heap → Option (Bool × (List Int) × Bool × (List Int) × Int)) (x0 : Bool) (x1 : List Int) (x2 : Bool) (x3 : List Int) (x4 : Bool) (x5 : List Int) (x6 : Bool) (x7 : List Int) (x8 : Int) : stepJ cfg X 109 0 code kend k J 0 (argFr 0 (encA (x0, x1, x2, x3, x4, x5, x6, x7, x8)).1) (encA (x0, x1, x2, x3, x4, x5, x6, x7, x8)).2 = b0 k (fun s => J s.lab s.fr s.hp) x0 x1 x2 x3 x4 x5 x6 x7 x8 := by kernel_rfl
theorem s1 (k : Nat) (J : Nat → Fr → Heap → Option (Bool × (List Int) × Bool × (List Int) × Int)) (x0 : Bool) (x1 : List Int) (x2 : Bool) (x3 : List Int) (x4 : Bool) (x5 : List Int) (x6 : Bool) (x7 : List Int) (x8 : Bool) (x9 : List Int) (x10 : Bool) (x11 : List Int) (x12 : Int) (x13 : Bool) : stepJ cfg X 109 0 code kend k J (St.l1 x0 x1 x2 x3 x4 x5 x6 x7 x8 x9 x10 x11 x12 x13).lab (St.l1 x0 x1 x2 x3 x4 x5 x6 x7 x8 x9 x10 x11 x12 x13).fr (St.l1 x0 x1 x2 x3 x4 x5 x6 x7 x8 x9 x10 x11 x12 x13).hp = b1 k (fun s => J s.lab s.fr s.hp) x0 x1 x2 x3 x4 x5 x6 x7 x8 x9 x10 x11 x12 x13 := by kernel_rfl
theorem s2 (k : Nat) (J : Nat → Fr → Heap → Option (Bool × (List Int) × Bool × (List Int) × Int)) (x0 : Bool) (x1 : List Int) (x2 : Bool) (x3 : List Int) (x4 : Bool) (x5 : List Int) (x6 : Bool) (x7 : List Int) (x8 : Bool) (x9 : List Int) (x10 : Bool) (x11 : List Int) (x12 : Int) (x13 : Bool) : stepJ cfg X 109 0 code kend k J (St.l2 x0 x1 x2 x3 x4 x5 x6 x7 x8 x9 x10 x11 x12 x13).lab (St.l2 x0 x1 x2 x3 x4 x5 x6 x7 x8 x9 x10 x11 x12 x13).fr (St.l2 x0 x1 x2 x3 x4 x5 x6 x7 x8 x9 x10 x11 x12 x13).hp = b2 k (fun s => J s.lab s.fr s.hp) x0 x1 x2 x3 x4 x5 x6 x7 x8 x9 x10 x11 x12 x13 := by kernel_rfl
theorem s3 (k : Nat) (J : Nat → Fr → Heap → Option (Bool × (List Int) × Bool × (List Int) × Int)) (x0 : Bool) (x1 : List Int) (x2 : Bool) (x3 : List Int) (x4 : List Int) (x5 : Bool) (x6 : List Int) (x7 : Bool) (x8 : Bool) : stepJ cfg X 109 0 code kend k J (St.l3 x0 x1 x2 x3 x4 x5 x6 x7 x8).lab (St.l3 x0 x1 x2 x3 x4 x5 x6 x7 x8).fr (St.l3 x0 x1 x2 x3 x4 x5 x6 x7 x8).hp = b3 k (fun s => J s.lab s.fr s.hp) x0 x1 x2 x3 x4 x5 x6 x7 x8 := by kernel_rfl
theorem go_ok : ∀ (k : Nat) (s : St), rn k s.lab s.fr s.hp = go k s
  | 0, _ => rfl
  | k + 1, .l1 x0 x1 x2 x3 x4 x5 x6 x7 x8 x9 x10 x11 x12 x13 => by
    have h := s1 k (rn k) x0 x1 x2 x3 x4 x5 x6 x7 x8 x9 x10 x11 x12 x13
    rw [show (fun s : St => rn k s.lab s.fr s.hp) = go k from funext (go_ok k)] at h
    exact h
  | k + 1, .l2 x0 x1 x2 x3 x4 x5 x6 x7 x8 x9 x10 x11 x12 x13 => by
    have h := s2 k (rn k) x0 x1 x2 x3 x4 x5 x6 x7 x8 x9 x10 x11 x12 x13
    rw [show (fun s : St => rn k s.lab s.fr s.hp) = go k from funext (go_ok k)] at h
    exact h
  | k + 1, .l3 x0 x1 x2 x3 x4 x5 x6 x7 x8 => by
    have h := s3 k (rn k) x0 x1 x2 x3 x4 x5 x6 x7 x8
    rw [show (fun s : St => rn k s.lab s.fr s.hp) = go k from funext (go_ok k)] at h
    exact h
theorem run_ok : ∀ (k : Nat) (a : Bool × (List Int) × Bool × (List Int) × Bool × (List Int) × Bool × (List Int) × Int), rn k 0 (argFr 0 (encA a).1) (encA a).2 = m k a.1 a.2.1 a.2.2.1 a.2.2.2.1 a.2.2.2.2.1 a.2.2.2.2.2.1 a.2.2.2.2.2.2.1 a.2.2.2.2.2.2.2.1 a.2.2.2.2.2.2.2.2
  | 0, _ => rfl
  | k + 1, (x0, x1, x2, x3, x4, x5, x6, x7, x8) => by
    have h := s0 k (rn k) x0 x1 x2 x3 x4 x5 x6 x7 x8
    rw [show (fun s : St => rn k s.lab s.fr s.hp) = go k from funext (go_ok k)] at h
    exact h
theorem snd (k : Nat) : Snd Tryz.prog cfg k ct := fn_snd (X := X) cfgOk mixed ok (np := 0) (vps := []) (vws := []) (decA := decA) (encA := encA) (decB := decB) (encB := encB) (encK := encK) (fun _ b _ => rfl)
  (by
    intro xs H a h
    unfold decA at h
    split at h
    · cases h; exact ⟨rfl, rfl, rfl, rfl⟩
    · cases h)
  (by
    intro v H b h
    unfold decB at h
    split at h
    · cases h; exact ⟨rfl, fun _ _ _ h => (by cases h), rfl⟩
    · cases h)
  rfl k (fun k' _ => AllS.mem (l := X) ⟨cavilref08_Check.snd k', cavilref08_Num.snd k', cavilref07_Mul.snd k', cavilref07_Add.snd k', cavilref08_over.snd k', cavilref07_Sub.snd k', cavilref08_lowest.snd k', trivial⟩) (fun a => run_ok k a)
end cavilref08_Do

/-! cavil/cavilref08.Of -/
namespace cavilref08_Of
def b0 (k : Nat) (x0 : Int) : Option (Bool × (List Int) × Bool × (List Int)) :=
  bindO (cavilref07_Small.m k x0) fun r1 =>
    bindO (cavilref07_To.m k r1.1 r1.2) fun r2 =>
      bindO (cavilref08_One.m k) fun r3 =>
        bindO (cavilref07_To.m k r3.1 r3.2) fun r4 =>
          some (r2.1, r2.2.1, r4.1, r4.2.1)
def m : Nat → Int → Option (Bool × (List Int) × Bool × (List Int))
  | 0, _ => none
  | k + 1, x0 => b0 k x0
def anns : Anns := []
noncomputable def code : ACode := codeOf Tryz.f45 anns
def rs : List ResultVar := [.cell 2 46]
def decA : List AVal → Heap → Option (Int)
  | [.int .i64 x0], [] => some x0
  | _, _ => none
def encA (a : Int) : List AVal × Heap := ([.int .i64 a], [])
def decB : AVal → Heap → Option (Bool × (List Int) × Bool × (List Int))
  | .agg (.pair (.agg (.pair (.bool y0) (.pair (.arr 8 (.int .u64 y1)) .nil))) (.pair (.agg (.pair (.bool y2) (.pair (.arr 8 (.int .u64 y3)) .nil))) .nil)), [] => some (y0, y1, y2, y3)
  | _, _ => none
def encB (b : Bool × (List Int) × Bool × (List Int)) : Out := (.agg (.pair (.agg (.pair (.bool b.1) (.pair (.arr 8 (.int .u64 b.2.1)) .nil))) (.pair (.agg (.pair (.bool b.2.2.1) (.pair (.arr 8 (.int .u64 b.2.2.2)) .nil))) .nil)), [], [])
def encK : EncK (Bool × (List Int) × Bool × (List Int)) := fun _ b K => K (encB b)
def X : List Ct := [cavilref07_Small.ct, cavilref07_To.ct, cavilref08_One.ct]
def ct : Ct := ⟨45, callRun cfg.tt [(3, false)] decA (fun k a => m k a) false encK⟩
theorem ok : FnOk Tryz.prog cfg 45 21 code rs := .of Tryz.func45 (by kernel_rfl) rfl rfl (by kernel_rfl) (by kernel_rfl) rfl
abbrev kend : KK (Bool × (List Int) × Bool × (List Int)) := kEnd cfg.tt rs (kFin cfg.tt 0 false [46] [] [] decB)
noncomputable abbrev rn := run cfg X 21 0 code kend
theorem s0 (k : Nat) (J : Nat → Fr → Heap → Option (Bool × (List Int) × Bool × (List Int))) (x0 : Int) : stepJ cfg X 21 0 code kend k J 0 (argFr 0 (encA x0).1) (encA x0).2 = b0 k x0 := by kernel_rfl
theorem run_ok : ∀ (k : Nat) (a : Int), rn k 0 (argFr 0 (encA a).1) (encA a).2 = m k a
  | 0, _ => rfl
  | k + 1, x0 => by
    have h := s0 k (rn k) x0
    exact h
theorem snd (k : Nat) : Snd Tryz.prog cfg k ct := fn_snd (X := X) cfgOk mixed ok (np := 0) (vps := []) (vws := []) (decA := decA) (encA := encA) (decB := decB) (encB := encB) (encK := encK) (fun _ b _ => rfl)
  (by
    intro xs H a h
    unfold decA at h
    split at h
    · cases h; exact ⟨rfl, rfl, rfl, rfl⟩
    · cases h)
  (by
    intro v H b h
    unfold decB at h
    split at h
    · cases h; exact ⟨rfl, fun _ _ _ h => (by cases h), rfl⟩
    · cases h)
  rfl k (fun k' _ => AllS.mem (l := X) ⟨cavilref07_Small.snd k', cavilref07_To.snd k', cavilref08_One.snd k', trivial⟩) (fun a => run_ok k a)
end cavilref08_Of

/-! cavil/cavilref08.Scale -/
namespace cavilref08_Scale
inductive St where
  | l1 (x0 : Bool) (x1 : List Int) (x2 : Bool) (x3 : List Int) (x4 : Bool) (x5 : List Int) (x6 : Bool) (x7 : List Int) (x8 : Int) (x9 : Int) (x10 : Bool)
  | l2 (x0 : Bool) (x1 : List Int) (x2 : Bool) (x3 : List Int) (x4 : Bool) (x5 : List Int) (x6 : Bool) (x7 : List Int) (x8 : Int) (x9 : Int)
def St.lab : St → Nat
  | .l1 _ _ _ _ _ _ _ _ _ _ _ => 1
  | .l2 _ _ _ _ _ _ _ _ _ _ => 2
def St.fr : St → Fr
  | .l1 x0 x1 x2 x3 x4 x5 x6 x7 x8 x9 x10 => [(1, .int .i64 x8), (2, .int .i64 x9), (3, .ptr 0 1 []), (6, .ptr 1 1 []), (18, .bool x10)]
  | .l2 x0 x1 x2 x3 x4 x5 x6 x7 x8 x9 => [(1, .int .i64 x8), (2, .int .i64 x9), (3, .ptr 0 1 []), (6, .ptr 1 1 [])]
def St.hp : St → Heap
  | .l1 x0 x1 x2 x3 x4 x5 x6 x7 x8 x9 x10 => [.var 0 46 (.agg (.pair (.agg (.pair (.bool x0) (.pair (.arr 8 (.int .u64 x1)) .nil))) (.pair (.agg (.pair (.bool x2) (.pair (.arr 8 (.int .u64 x3)) .nil))) .nil))), .var 0 46 (.agg (.pair (.agg (.pair (.bool x4) (.pair (.arr 8 (.int .u64 x5)) .nil))) (.pair (.agg (.pair (.bool x6) (.pair (.arr 8 (.int .u64 x7)) .nil))) .nil)))]
  | .l2 x0 x1 x2 x3 x4 x5 x6 x7 x8 x9 => [.var 0 46 (.agg (.pair (.agg (.pair (.bool x0) (.pair (.arr 8 (.int .u64 x1)) .nil))) (.pair (.agg (.pair (.bool x2) (.pair (.arr 8 (.int .u64 x3)) .nil))) .nil))), .var 0 46 (.agg (.pair (.agg (.pair (.bool x4) (.pair (.arr 8 (.int .u64 x5)) .nil))) (.pair (.agg (.pair (.bool x6) (.pair (.arr 8 (.int .u64 x7)) .nil))) .nil)))]
def b0 (k : Nat) (J : St → Option (Bool × (List Int) × Bool × (List Int) × Int)) (x0 : Bool) (x1 : List Int) (x2 : Bool) (x3 : List Int) (x4 : Int) (x5 : Int) : Option (Bool × (List Int) × Bool × (List Int) × Int) :=
  bindO (cavilref08_Check.m k x0 x1 x2 x3) fun r1 =>
    bif (r1 != 0) then
      some (false, (List.replicate 8 (0 : Int)), false, (List.replicate 8 (0 : Int)), 8)
    else
      bif (x4 != 2) then
        J (.l1 x0 x1 x2 x3 false (List.replicate 8 (0 : Int)) false (List.replicate 8 (0 : Int)) x4 x5 (x4 != 10))
      else
        J (.l1 x0 x1 x2 x3 false (List.replicate 8 (0 : Int)) false (List.replicate 8 (0 : Int)) x4 x5 false)
def b1 (k : Nat) (J : St → Option (Bool × (List Int) × Bool × (List Int) × Int)) (x0 : Bool) (x1 : List Int) (x2 : Bool) (x3 : List Int) (x4 : Bool) (x5 : List Int) (x6 : Bool) (x7 : List Int) (x8 : Int) (x9 : Int) (x10 : Bool) : Option (Bool × (List Int) × Bool × (List Int) × Int) :=
  bif x10 then
    some (false, (List.replicate 8 (0 : Int)), false, (List.replicate 8 (0 : Int)), 1)
  else
    bif (decide (x9 > 1000)) then
      some (false, (List.replicate 8 (0 : Int)), false, (List.replicate 8 (0 : Int)), 9)
    else
      bif (decide (x9 < (-1000))) then
        some (false, (List.replicate 8 (0 : Int)), false, (List.replicate 8 (0 : Int)), 9)
      else
        J (.l2 x0 x1 x2 x3 x4 x5 x6 x7 x8 x9)
def b2 (k : Nat) (J : St → Option (Bool × (List Int) × Bool × (List Int) × Int)) (x0 : Bool) (x1 : List Int) (x2 : Bool) (x3 : List Int) (x4 : Bool) (x5 : List Int) (x6 : Bool) (x7 : List Int) (x8 : Int) (x9 : Int) : Option (Bool × (List Int) × Bool × (List Int) × Int) :=
  bif (x9 != 0) then
    bif (decide (x9 > 0)) then
      bindO (cavilref08_Of.m k x8) fun r1 =>
        bindO (cavilref08_Do.m k x0 x1 x2 x3 r1.1 r1.2.1 r1.2.2.1 r1.2.2.2 2) fun r2 =>
          bif (r2.2.2.2.2 != 0) then
            some (false, (List.replicate 8 (0 : Int)), false, (List.replicate 8 (0 : Int)), r2.2.2.2.2)
          else
            J (.l2 r2.1 r2.2.1 r2.2.2.1 r2.2.2.2.1 x4 x5 x6 x7 x8 (wr .i64 (x9 - 1)))
    else
      bindO (cavilref08_Of.m k x8) fun r3 =>
        bindO (cavilref08_Do.m k x0 x1 x2 x3 r3.1 r3.2.1 r3.2.2.1 r3.2.2.2 3) fun r4 =>
          bif (r4.2.2.2.2 != 0) then
            some (false, (List.replicate 8 (0 : Int)), false, (List.replicate 8 (0 : Int)), r4.2.2.2.2)
          else
            J (.l2 r4.1 r4.2.1 r4.2.2.1 r4.2.2.2.1 x4 x5 x6 x7 x8 (wr .i64 (x9 + 1)))
  else
    some (x0, x1, x2, x3, 0)
def go : Nat → St → Option (Bool × (List Int) × Bool × (List Int) × Int)
  | 0, _ => none
  | k + 1, .l1 x0 x1 x2 x3 x4 x5 x6 x7 x8 x9 x10 => b1 k (go k) x0 x1 x2 x3 x4 x5 x6 x7 x8 x9 x10
  | k + 1, .l2 x0 x1 x2 x3 x4 x5 x6 x7 x8 x9 => b2 k (go k) x0 x1 x2 x3 x4 x5 x6 x7 x8 x9
def m : Nat → Bool → List Int → Bool → List Int → Int → Int → Option (Bool × (List Int) × Bool × (List Int) × Int)
  | 0, _, _, _, _, _, _ => none
  | k + 1, x0, x1, x2, x3, x4, x5 => b0 k (go k) x0 x1 x2 x3 x4 x5
def anns : Anns := [(5, 1, [(1, 3, false), (2, 3, false), (3, 0, false), (6, 0, false), (18, 4, false)]), (11, 2, [(1, 3, false), (2, 3, false), (3, 0, false), (6, 0, false)])]
noncomputable def code : ACode := codeOf Tryz.f44 anns
def rs : List ResultVar := [.cell 6 46, .tmp 7]
def decA : List AVal → Heap → Option (Bool × (List Int) × Bool × (List Int) × Int × Int)
  | [.agg (.pair (.agg (.pair (.bool x0) (.pair (.arr 8 (.int .u64 x1)) .nil))) (.pair (.agg (.pair (.bool x2) (.pair (.arr 8 (.int .u64 x3)) .nil))) .nil)), .int .i64 x4, .int .i64 x5], [] => some (x0, x1, x2, x3, x4, x5)
  | _, _ => none
def encA (a : Bool × (List Int) × Bool × (List Int) × Int × Int) : List AVal × Heap := ([.agg (.pair (.agg (.pair (.bool a.1) (.pair (.arr 8 (.int .u64 a.2.1)) .nil))) (.pair (.agg (.pair (.bool a.2.2.1) (.pair (.arr 8 (.int .u64 a.2.2.2.1)) .nil))) .nil)), .int .i64 a.2.2.2.2.1, .int .i64 a.2.2.2.2.2], [])
def decB : AVal → Heap → Option (Bool × (List Int) × Bool × (List Int) × Int)
  | .tup (.pair (.agg (.pair (.agg (.pair (.bool y0) (.pair (.arr 8 (.int .u64 y1)) .nil))) (.pair (.agg (.pair (.bool y2) (.pair (.arr 8 (.int .u64 y3)) .nil))) .nil))) (.pair (.int .i64 y4) .nil)), [] => some (y0, y1, y2, y3, y4)
  | _, _ => none
def encB (b : Bool × (List Int) × Bool × (List Int) × Int) : Out := (.tup (.pair (.agg (.pair (.agg (.pair (.bool b.1) (.pair (.arr 8 (.int .u64 b.2.1)) .nil))) (.pair (.agg (.pair (.bool b.2.2.1) (.pair (.arr 8 (.int .u64 b.2.2.2.1)) .nil))) .nil))) (.pair (.int .i64 b.2.2.2.2) .nil)), [], [])
def encK : EncK (Bool × (List Int) × Bool × (List Int) × Int) := fun _ b K => K (encB b)
def X : List Ct := [cavilref08_Check.ct, cavilref08_Of.ct, cavilref08_Do.ct]
def ct : Ct := ⟨44, callRun cfg.tt [(46, false), (3, false), (3, false)] decA (fun k a => m k a.1 a.2.1 a.2.2.1 a.2.2.2.1 a.2.2.2.2.1 a.2.2.2.2.2) false encK⟩
theorem ok : FnOk Tryz.prog cfg 44 54 code rs := .of Tryz.func44 (by kernel_rfl) rfl rfl (by kernel_rfl) (by kernel_rfl) rfl
abbrev kend : KK (Bool × (List Int) × Bool × (List Int) × Int) := kEnd cfg.tt rs (kFin cfg.tt 0 false [46, 3] [] [] decB)
noncomputable abbrev rn := run cfg X 54 0 code kend
theorem s0 (k : Nat) (J : Nat → Fr → Heap → Option (Bool × (List Int) × Bool × (List Int) × Int)) (x0 : Bool) (x1 : List Int) (x2 : Bool) (x3 : List Int) (x4 : Int) (x5 : Int) : stepJ cfg X 54 0 code kend k J 0 (argFr 0 (encA (x0, x1, x2, x3, x4, x5)).1) (encA (x0, x1, x2, x3, x4, x5)).2 = b0 k (fun s => J s.lab s.fr s.hp) x0 x1 x2 x3 x4 x5 := by kernel_rfl
theorem s1 (k : Nat) (J : Nat → Fr → Heap → Option (Bool × (List Int) × Bool × (List Int) × Int)) (x0 : Bool) (x1 : List Int) (x2 : Bool) (x3 : List Int) (x4 : Bool) (x5 : List Int) (x6 : Bool) (x7 : List Int) (x8 : Int) (x9 : Int) (x10 : Bool) : stepJ cfg X 54 0 code kend k J (St.l1 x0 x1 x2 x3 x4 x5 x6 x7 x8 x9 x10).lab (St.l1 x0 x1 x2 x3 x4 x5 x6 x7 x8 x9 x10).fr (St.l1 x0 x1 x2 x3 x4 x5 x6 x7 x8 x9 x10).hp = b1 k (fun s => J s.lab s.fr s.hp) x0 x1 x2 x3 x4 x5 x6 x7 x8 x9 x10 := by kernel_rfl
theorem s2 (k : Nat) (J : Nat → Fr → Heap → Option (Bool × (List Int) × Bool × (List Int) × Int)) (x0 : Bool) (x1 : List Int) (x2 : Bool) (x3 : List Int) (x4 : Bool) (x5 : List Int) (x6 : Bool) (x7 : List Int) (x8 : Int) (x9 : Int) : stepJ cfg X 54 0 code kend k J (St.l2 x0 x1 x2 x3 x4 x5 x6 x7 x8 x9).lab (St.l2 x0 x1 x2 x3 x4 x5 x6 x7 x8 x9).fr (St.l2 x0 x1 x2 x3 x4 x5 x6 x7 x8 x9).hp = b2 k (fun s => J s.lab s.fr s.hp) x0 x1 x2 x3 x4 x5 x6 x7 x8 x9 := by kernel_rfl
theorem go_ok : ∀ (k : Nat) (s : St), rn k s.lab s.fr s.hp = go k s
  | 0, _ => rfl
  | k + 1, .l1 x0 x1 x2 x3 x4 x5 x6 x7 x8 x9 x10 => by
    have h := s1 k (rn k) x0 x1 x2 x3 x4 x5 x6 x7 x8 x9 x10
    rw [show (fun s : St => rn k s.lab s.fr s.hp) = go k from funext (go_ok k)] at h
    exact h
  | k + 1, .l2 x0 x1 x2 x3 x4 x5 x6 x7 x8 x9 => by
    have h := s2 k (rn k) x0 x1 x2 x3 x4 x5 x6 x7 x8 x9
    rw [show (fun s : St => rn k s.lab s.fr s.hp) = go k from funext (go_ok k)] at h
    exact h
theorem run_ok : ∀ (k : Nat) (a : Bool × (List Int) × Bool × (List Int) × Int × Int), rn k 0 (argFr 0 (encA a).1) (encA a).2 = m k a.1 a.2.1 a.2.2.1 a.2.2.2.1 a.2.2.2.2.1 a.2.2.2.2.2
  | 0, _ => rfl
  | k + 1, (x0, x1, x2, x3, x4, x5) => by
    have h := s0 k (rn k) x0 x1 x2 x3 x4 x5
    rw [show (fun s : St => rn k s.lab s.fr s.hp) = go k from funext (go_ok k)] at h
    exact h
theorem snd (k : Nat) : Snd Tryz.prog cfg k ct := fn_snd (X := X) cfgOk mixed ok (np := 0) (vps := []) (vws := []) (decA := decA) (encA := encA) (decB := decB) (encB := encB) (encK := encK) (fun _ b _ => rfl)
  (by
    intro xs H a h
    unfold decA at h
    split at h
    · cases h; exact ⟨rfl, rfl, rfl, rfl⟩
    · cases h)
  (by
    intro v H b h
    unfold decB at h
    split at h
    · cases h; exact ⟨rfl, fun _ _ _ h => (by cases h), rfl⟩
    · cases h)
  rfl k (fun k' _ => AllS.mem (l := X) ⟨cavilref08_Check.snd k', cavilref08_Of.snd k', cavilref08_Do.snd k', trivial⟩) (fun a => run_ok k a)
end cavilref08_Scale

/-! cavil/cavilref09.hex -/
namespace cavilref09_hex
def b0 (k : Nat) (x0 : Int) : Option (Bool) :=
  bindO (cavilref07_Digit.m k x0) fun r1 =>
    some (decide (r1 < 16))
def m : Nat → Int → Option (Bool)
  | 0, _ => none
  | k + 1, x0 => b0 k x0
def anns : Anns := []
noncomputable def code : ACode := codeOf Tryz.f63 anns
def rs : List ResultVar := [.tmp 2]
def decA : List AVal → Heap → Option (Int)
  | [.int .u8 x0], [] => some x0
  | _, _ => none
def encA (a : Int) : List AVal × Heap := ([.int .u8 a], [])
def decB : AVal → Heap → Option (Bool)
  | .bool y0, [] => some y0
  | _, _ => none
def encB (b : Bool) : Out := (.bool b, [], [])
def encK : EncK (Bool) := fun _ b K => K (encB b)
def X : List Ct := [cavilref07_Digit.ct]
def ct : Ct := ⟨63, callRun cfg.tt [(5, false)] decA (fun k a => m k a) false encK⟩
theorem ok : FnOk Tryz.prog cfg 63 6 code rs := .of Tryz.func63 (by kernel_rfl) rfl rfl (by kernel_rfl) (by kernel_rfl) rfl
abbrev kend : KK (Bool) := kEnd cfg.tt rs (kFin cfg.tt 0 false [4] [] [] decB)
noncomputable abbrev rn := run cfg X 6 0 code kend
theorem s0 (k : Nat) (J : Nat → Fr → Heap → Option (Bool)) (x0 : Int) : stepJ cfg X 6 0 code kend k J 0 (argFr 0 (encA x0).1) (encA x0).2 = b0 k x0 := by kernel_rfl
theorem run_ok : ∀ (k : Nat) (a : Int), rn k 0 (argFr 0 (encA a).1) (encA a).2 = m k a
  | 0, _ => rfl
  | k + 1, x0 => by
    have h := s0 k (rn k) x0
    exact h
theorem snd (k : Nat) : Snd Tryz.prog cfg k ct := fn_snd (X := X) cfgOk mixed ok (np := 0) (vps := []) (vws := []) (decA := decA) (encA := encA) (decB := decB) (encB := encB) (encK := encK) (fun _ b _ => rfl)
  (by
    intro xs H a h
    unfold decA at h
    split at h
    · cases h; exact ⟨rfl, rfl, rfl, rfl⟩
    · cases h)
  (by
    intro v H b h
    unfold decB at h
    split at h
    · cases h; exact ⟨rfl, fun _ _ _ h => (by cases h), rfl⟩
    · cases h)
  rfl k (fun k' _ => AllS.mem (l := X) ⟨cavilref07_Digit.snd k', trivial⟩) (fun a => run_ok k a)
end cavilref09_hex

/-! cavil/cavilref09.spaced -/
namespace cavilref09_spaced
inductive St where
  | l1 (x0 : List UInt8) (x1 : Bool) (x2 : Int)
  | l2 (x0 : List UInt8) (x1 : Bool) (x2 : Int) (x3 : Bool)
  | l3 (x0 : List UInt8) (x1 : Bool) (x2 : Int) (x3 : Bool) (x4 : Bool)
def St.lab : St → Nat
  | .l1 _ _ _ => 1
  | .l2 _ _ _ _ => 2
  | .l3 _ _ _ _ _ => 3
def St.fr : St → Fr
  | .l1 x0 x1 x2 => [(0, .str x0), (1, .bool x1), (5, .int .i64 x2)]
  | .l2 x0 x1 x2 x3 => [(0, .str x0), (1, .bool x1), (5, .int .i64 x2), (26, .bool x3)]
  | .l3 x0 x1 x2 x3 x4 => [(0, .str x0), (1, .bool x1), (5, .int .i64 x2), (6, .bool x3), (7, .bool x4)]
def St.hp : St → Heap
  | .l1 x0 x1 x2 => []
  | .l2 x0 x1 x2 x3 => []
  | .l3 x0 x1 x2 x3 x4 => []
def b0 (k : Nat) (J : St → Option (Bool)) (x0 : List UInt8) (x1 : Bool) : Option (Bool) :=
  J (.l1 x0 x1 0)
def b1 (k : Nat) (J : St → Option (Bool)) (x0 : List UInt8) (x1 : Bool) (x2 : Int) : Option (Bool) :=
  bif (decide (x2 < (x0.length : Int))) then
    gk (inB x2 x0.length)
      (bif ((byt x0 x2) != 95) then
        J (.l1 x0 x1 (wr .i64 (x2 + 1)))
      else
        bif (decide ((wr .i64 (x2 + 1)) ≥ (x0.length : Int))) then
          J (.l2 x0 x1 x2 true)
        else
          J (.l2 x0 x1 x2 (x2 == 0)))
  else
    some true
def b2 (k : Nat) (J : St → Option (Bool)) (x0 : List UInt8) (x1 : Bool) (x2 : Int) (x3 : Bool) : Option (Bool) :=
  bif x3 then
    some false
  else
    gk (inB (wr .i64 (x2 - 1)) x0.length)
      (bindO (cavilref09_digit.m k (byt x0 (wr .i64 (x2 - 1)))) fun r1 =>
        gk (inB (wr .i64 (x2 + 1)) x0.length)
          (bindO (cavilref09_digit.m k (byt x0 (wr .i64 (x2 + 1)))) fun r2 =>
            bif x1 then
              gk (inB (wr .i64 (x2 - 1)) x0.length)
                (bindO (cavilref09_hex.m k (byt x0 (wr .i64 (x2 - 1)))) fun r3 =>
                  gk (inB (wr .i64 (x2 + 1)) x0.length)
                    (bindO (cavilref09_hex.m k (byt x0 (wr .i64 (x2 + 1)))) fun r4 =>
                      bif (x2 == 2) then
                        J (.l3 x0 x1 x2 true r4)
                      else
                        J (.l3 x0 x1 x2 r3 r4)))
            else
              J (.l3 x0 x1 x2 r1 r2)))
def b3 (k : Nat) (J : St → Option (Bool)) (x0 : List UInt8) (x1 : Bool) (x2 : Int) (x3 : Bool) (x4 : Bool) : Option (Bool) :=
  bif (!x3) then
    some false
  else
    bif (!x4) then
      some false
    else
      J (.l1 x0 x1 (wr .i64 (x2 + 1)))
def go : Nat → St → Option (Bool)
  | 0, _ => none
  | k + 1, .l1 x0 x1 x2 => b1 k (go k) x0 x1 x2
  | k + 1, .l2 x0 x1 x2 x3 => b2 k (go k) x0 x1 x2 x3
  | k + 1, .l3 x0 x1 x2 x3 x4 => b3 k (go k) x0 x1 x2 x3 x4
def m : Nat → List UInt8 → Bool → Option (Bool)
  | 0, _, _ => none
  | k + 1, x0, x1 => b0 k (go k) x0 x1
def anns : Anns := [(3, 1, [(0, 9, false), (1, 4, false), (5, 3, false)]), (10, 2, [(0, 9, false), (1, 4, false), (5, 3, false), (26, 4, false)]), (13, 3, [(0, 9, false), (1, 4, false), (5, 3, false), (6, 4, false), (7, 4, false)])]
noncomputable def code : ACode := codeOf Tryz.f34 anns
def rs : List ResultVar := [.tmp 4]
def decA : List AVal → Heap → Option ((List UInt8) × Bool)
  | [.str x0, .bool x1], [] => some (x0, x1)
  | _, _ => none
def encA (a : (List UInt8) × Bool) : List AVal × Heap := ([.str a.1, .bool a.2], [])
def decB : AVal → Heap → Option (Bool)
  | .bool y0, [] => some y0
  | _, _ => none
def encB (b : Bool) : Out := (.bool b, [], [])
def encK : EncK (Bool) := fun _ b K => K (encB b)
def X : List Ct := [cavilref09_digit.ct, cavilref09_hex.ct]
def ct : Ct := ⟨34, callRun cfg.tt [(9, false), (4, false)] decA (fun k a => m k a.1 a.2) false encK⟩
theorem ok : FnOk Tryz.prog cfg 34 56 code rs := .of Tryz.func34 (by kernel_rfl) rfl rfl (by kernel_rfl) (by kernel_rfl) rfl
abbrev kend : KK (Bool) := kEnd cfg.tt rs (kFin cfg.tt 0 false [4] [] [] decB)
noncomputable abbrev rn := run cfg X 56 0 code kend
theorem s0 (k : Nat) (J : Nat → Fr → Heap → Option (Bool)) (x0 : List UInt8) (x1 : Bool) : stepJ cfg X 56 0 code kend k J 0 (argFr 0 (encA (x0, x1)).1) (encA (x0, x1)).2 = b0 k (fun s => J s.lab s.fr s.hp) x0 x1 := by kernel_rfl
theorem s1 (k : Nat) (J : Nat → Fr → Heap → Option (Bool)) (x0 : List UInt8) (x1 : Bool) (x2 : Int) : stepJ cfg X 56 0 code kend k J (St.l1 x0 x1 x2).lab (St.l1 x0 x1 x2).fr (St.l1 x0 x1 x2).hp = b1 k (fun s => J s.lab s.fr s.hp) x0 x1 x2 := by kernel_rfl
theorem s2 (k : Nat) (J : Nat → Fr → Heap → Option (Bool)) (x0 : List UInt8) (x1 : Bool) (x2 : Int) (x3 : Bool) : stepJ cfg X 56 0 code kend k J (St.l2 x0 x1 x2 x3).lab (St.l2 x0 x1 x2 x3).fr (St.l2 x0 x1 x2 x3).hp = b2 k (fun s => J s.lab s.fr s.hp) x0 x1 x2 x3 := by kernel_rfl
theorem s3 (k : Nat) (J : Nat → Fr → Heap → Option (Bool)) (x0 : List UInt8) (x1 : Bool) (x2 : Int) (x3 : Bool) (x4 : Bool) : stepJ cfg X 56 0 code kend k J (St.l3 x0 x1 x2 x3 x4).lab (St.l3 x0 x1 x2 x3 x4).fr (St.l3 x0 x1 x2 x3 x4).hp = b3 k (fun s => J s.lab s.fr s.hp) x0 x1 x2 x3 x4 := by kernel_rfl
theorem go_ok : ∀ (k : Nat) (s : St), rn k s.lab s.fr s.hp = go k s
  | 0, _ => rfl
  | k + 1, .l1 x0 x1 x2 => by
    have h := s1 k (rn k) x0 x1 x2
    rw [show (fun s : St => rn k s.lab s.fr s.hp) = go k from funext (go_ok k)] at h
    exact h
  | k + 1, .l2 x0 x1 x2 x3 => by
    have h := s2 k (rn k) x0 x1 x2 x3
    rw [show (fun s : St => rn k s.lab s.fr s.hp) = go k from funext (go_ok k)] at h
    exact h
  | k + 1, .l3 x0 x1 x2 x3 x4 => by
    have h := s3 k (rn k) x0 x1 x2 x3 x4
    rw [show (fun s : St => rn k s.lab s.fr s.hp) = go k from funext (go_ok k)] at h
    exact h
theorem run_ok : ∀ (k : Nat) (a : (List UInt8) × Bool), rn k 0 (argFr 0 (encA a).1) (encA a).2 = m k a.1 a.2
  | 0, _ => rfl
  | k + 1, (x0, x1) => by
    have h := s0 k (rn k) x0 x1
    rw [show (fun s : St => rn k s.lab s.fr s.hp) = go k from funext (go_ok k)] at h
    exact h
theorem snd (k : Nat) : Snd Tryz.prog cfg k ct := fn_snd (X := X) cfgOk mixed ok (np := 0) (vps := []) (vws := []) (decA := decA) (encA := encA) (decB := decB) (encB := encB) (encK := encK) (fun _ b _ => rfl)
  (by
    intro xs H a h
    unfold decA at h
    split at h
    · cases h; exact ⟨rfl, rfl, rfl, rfl⟩
    · cases h)
  (by
    intro v H b h
    unfold decB at h
    split at h
    · cases h; exact ⟨rfl, fun _ _ _ h => (by cases h), rfl⟩
    · cases h)
  rfl k (fun k' _ => AllS.mem (l := X) ⟨cavilref09_digit.snd k', cavilref09_hex.snd k', trivial⟩) (fun a => run_ok k a)
end cavilref09_spaced

/-! cavil/cavilref09.without -/
namespace cavilref09_without
inductive St where
  | l1 (x0 : List UInt8) (x1 : List UInt8) (x2 : Int)
def St.lab : St → Nat
  | .l1 _ _ _ => 1
def St.fr : St → Fr
  | .l1 x0 x1 x2 => [(0, .str x0), (3, .str x1), (4, .int .i64 x2)]
def St.hp : St → Heap
  | .l1 x0 x1 x2 => []
def b0 (k : Nat) (J : St → Option ((List UInt8))) (x0 : List UInt8) : Option ((List UInt8)) :=
  J (.l1 x0 ([] : List UInt8) 0)
def b1 (k : Nat) (J : St → Option ((List UInt8))) (x0 : List UInt8) (x1 : List UInt8) (x2 : Int) : Option ((List UInt8)) :=
  bif (decide (x2 < (x0.length : Int))) then
    gk (inB x2 x0.length)
      (bif ((byt x0 x2) != 95) then
        gk (cutB x2 (wr .i64 (x2 + 1)) x0.length)
          (gk (roomS x1 (cut x0 x2 (wr .i64 (x2 + 1))))
            (J (.l1 x0 (x1 ++ (cut x0 x2 (wr .i64 (x2 + 1)))) (wr .i64 (x2 + 1)))))
      else
        J (.l1 x0 x1 (wr .i64 (x2 + 1))))
  else
    some x1
def go : Nat → St → Option ((List UInt8))
  | 0, _ => none
  | k + 1, .l1 x0 x1 x2 => b1 k (go k) x0 x1 x2
def m : Nat → List UInt8 → Option ((List UInt8))
  | 0, _ => none
  | k + 1, x0 => b0 k (go k) x0
def anns : Anns := [(4, 1, [(0, 9, false), (3, 9, false), (4, 3, false)])]
noncomputable def code : ACode := codeOf Tryz.f36 anns
def rs : List ResultVar := [.tmp 2]
def decA : List AVal → Heap → Option ((List UInt8))
  | [.str x0], [] => some x0
  | _, _ => none
def encA (a : (List UInt8)) : List AVal × Heap := ([.str a], [])
def decB : AVal → Heap → Option ((List UInt8))
  | .str y0, [] => some y0
  | _, _ => none
def encB (b : (List UInt8)) : Out := (.str b, [], [])
def encK : EncK ((List UInt8)) := fun _ b K => K (encB b)
def X : List Ct := []
def ct : Ct := ⟨36, callRun cfg.tt [(9, false)] decA (fun k a => m k a) false encK⟩
theorem ok : FnOk Tryz.prog cfg 36 23 code rs := .of Tryz.func36 (by kernel_rfl) rfl rfl (by kernel_rfl) (by kernel_rfl) rfl
abbrev kend : KK ((List UInt8)) := kEnd cfg.tt rs (kFin cfg.tt 0 false [9] [] [] decB)
noncomputable abbrev rn := run cfg X 23 0 code kend
theorem s0 (k : Nat) (J : Nat → Fr → Heap → Option ((List UInt8))) (x0 : List UInt8) : stepJ cfg X 23 0 code kend k J 0 (argFr 0 (encA x0).1) (encA x0).2 = b0 k (fun s => J s.lab s.fr s.hp) x0 := by kernel_rfl
theorem s1 (k : Nat) (J : Nat → Fr → Heap → Option ((List UInt8))) (x0 : List UInt8) (x1 : List UInt8) (x2 : Int) : stepJ cfg X 23 0 code kend k J (St.l1 x0 x1 x2).lab (St.l1 x0 x1 x2).fr (St.l1 x0 x1 x2).hp = b1 k (fun s => J s.lab s.fr s.hp) x0 x1 x2 := by kernel_rfl
theorem go_ok : ∀ (k : Nat) (s : St), rn k s.lab s.fr s.hp = go k s
  | 0, _ => rfl
  | k + 1, .l1 x0 x1 x2 => by
    have h := s1 k (rn k) x0 x1 x2
    rw [show (fun s : St => rn k s.lab s.fr s.hp) = go k from funext (go_ok k)] at h
    exact h
theorem run_ok : ∀ (k : Nat) (a : (List UInt8)), rn k 0 (argFr 0 (encA a).1) (encA a).2 = m k a
  | 0, _ => rfl
  | k + 1, x0 => by
    have h := s0 k (rn k) x0
    rw [show (fun s : St => rn k s.lab s.fr s.hp) = go k from funext (go_ok k)] at h
    exact h
theorem snd (k : Nat) : Snd Tryz.prog cfg k ct := fn_snd (X := X) cfgOk mixed ok (np := 0) (vps := []) (vws := []) (decA := decA) (encA := encA) (decB := decB) (encB := encB) (encK := encK) (fun _ b _ => rfl)
  (by
    intro xs H a h
    unfold decA at h
    split at h
    · cases h; exact ⟨rfl, rfl, rfl, rfl⟩
    · cases h)
  (by
    intro v H b h
    unfold decB at h
    split at h
    · cases h; exact ⟨rfl, fun _ _ _ h => (by cases h), rfl⟩
    · cases h)
  rfl k (fun k' _ => AllS.mem (l := X) trivial) (fun a => run_ok k a)
end cavilref09_without

/-! cavil/cavilref09.IntOf -/
namespace cavilref09_IntOf
inductive St where
  | l1 (x0 : List Int) (x1 : Bool) (x2 : List UInt8) (x3 : Int) (x4 : Bool)
  | l2 (x0 : List Int) (x1 : Bool) (x2 : List UInt8) (x3 : Bool)
def St.lab : St → Nat
  | .l1 _ _ _ _ _ => 1
  | .l2 _ _ _ _ => 2
def St.fr : St → Fr
  | .l1 x0 x1 x2 x3 x4 => [(0, .str x2), (2, .ptr 1 1 []), (4, .int .i64 x3), (15, .bool x4)]
  | .l2 x0 x1 x2 x3 => [(0, .str x2), (2, .ptr 1 1 []), (33, .bool x3)]
def St.hp : St → Heap
  | .l1 x0 x1 x2 x3 x4 => [.row 0 1 true 3 (.int .i64 x0), .var 0 40 (.agg (.pair (.bool x1) (.pair (.slice 0 1 .all) .nil)))]
  | .l2 x0 x1 x2 x3 => [.row 0 1 true 3 (.int .i64 x0), .var 0 40 (.agg (.pair (.bool x1) (.pair (.slice 0 1 .all) .nil)))]
def b0 (k : Nat) (J : St → Option (Bool × Int × (List Int))) (x0 : List UInt8) : Option (Bool × Int × (List Int)) :=
  bindO (cavilref09_Base.m k x0) fun r1 =>
    bif (x0 == ([] : List UInt8)) then
      J (.l1 [] false x0 r1 true)
    else
      bindO (cavilref09_spaced.m k x0 (decide (r1 > 0))) fun r2 =>
        J (.l1 [] false x0 r1 (!r2))
def b1 (k : Nat) (J : St → Option (Bool × Int × (List Int))) (x0 : List Int) (x1 : Bool) (x2 : List UInt8) (x3 : Int) (x4 : Bool) : Option (Bool × Int × (List Int)) :=
  bif x4 then
    some (false, 8, [])
  else
    bif (decide (x3 > 0)) then
      gk (cutB 2 (x2.length : Int) x2.length)
        (bindO (cavilref09_without.m k (cut x2 2 (x2.length : Int))) fun r1 =>
          bindO (cavilref07_Parse.m k r1 x3) fun r2 =>
            some (r2.1, r2.2.1, r2.2.2))
    else
      gk (inB 0 x2.length)
        (bif ((byt x2 0) == 48) then
          J (.l2 x0 x1 x2 (decide ((x2.length : Int) > 1)))
        else
          J (.l2 x0 x1 x2 false))
def b2 (k : Nat) (J : St → Option (Bool × Int × (List Int))) (x0 : List Int) (x1 : Bool) (x2 : List UInt8) (x3 : Bool) : Option (Bool × Int × (List Int)) :=
  bif x3 then
    gk (cutB 1 (x2.length : Int) x2.length)
      (bindO (cavilref09_without.m k (cut x2 1 (x2.length : Int))) fun r1 =>
        bindO (cavilref07_Parse.m k r1 8) fun r2 =>
          some (r2.1, r2.2.1, r2.2.2))
  else
    bindO (cavilref09_without.m k x2) fun r3 =>
      bindO (cavilref07_Parse.m k r3 10) fun r4 =>
        some (r4.1, r4.2.1, r4.2.2)
def go : Nat → St → Option (Bool × Int × (List Int))
  | 0, _ => none
  | k + 1, .l1 x0 x1 x2 x3 x4 => b1 k (go k) x0 x1 x2 x3 x4
  | k + 1, .l2 x0 x1 x2 x3 => b2 k (go k) x0 x1 x2 x3
def m : Nat → List UInt8 → Option (Bool × Int × (List Int))
  | 0, _ => none
  | k + 1, x0 => b0 k (go k) x0
def anns : Anns := [(3, 1, [(0, 9, false), (2, 0, false), (4, 3, false), (15, 4, false)]), (9, 2, [(0, 9, false), (2, 0, false), (33, 4, false)])]
noncomputable def code : ACode := codeOf Tryz.f13 anns
def rs : List ResultVar := [.cell 2 40, .tmp 3]
def decA : List AVal → Heap → Option ((List UInt8))
  | [.str x0], [] => some x0
  | _, _ => none
def encA (a : (List UInt8)) : List AVal × Heap := ([.str a], [])
def decB : AVal → Heap → Option (Bool × Int × (List Int))
  | .tup (.pair (.agg (.pair (.bool y0) (.pair (.slice 0 1 .all) .nil))) (.pair (.int .i64 y1) .nil)), [.row 0 1 true 3 (.int .i64 y2)] => some (y0, y1, y2)
  | _, _ => none
def encB (b : Bool × Int × (List Int)) : Out := (.tup (.pair (.agg (.pair (.bool b.1) (.pair (.slice 0 1 .all) .nil))) (.pair (.int .i64 b.2.1) .nil)), [], [.row 0 1 true 3 (.int .i64 b.2.2)])
def encK : EncK (Bool × Int × (List Int)) := fun _ b K => K (encB b)
def X : List Ct := [cavilref09_Base.ct, cavilref09_spaced.ct, cavilref09_without.ct, cavilref07_Parse.ct]
def ct : Ct := ⟨13, callRun cfg.tt [(9, false)] decA (fun k a => m k a) false encK⟩
theorem ok : FnOk Tryz.prog cfg 13 45 code rs := .of Tryz.func13 (by kernel_rfl) rfl rfl (by kernel_rfl) (by kernel_rfl) rfl
abbrev kend : KK (Bool × Int × (List Int)) := kEnd cfg.tt rs (kFin cfg.tt 0 false [40, 3] [] [] decB)
noncomputable abbrev rn := run cfg X 45 0 code kend
theorem s0 (k : Nat) (J : Nat → Fr → Heap → Option (Bool × Int × (List Int))) (x0 : List UInt8) : stepJ cfg X 45 0 code kend k J 0 (argFr 0 (encA x0).1) (encA x0).2 = b0 k (fun s => J s.lab s.fr s.hp) x0 := by kernel_rfl
theorem s1 (k : Nat) (J : Nat → Fr → Heap → Option (Bool × Int × (List Int))) (x0 : List Int) (x1 : Bool) (x2 : List UInt8) (x3 : Int) (x4 : Bool) : stepJ cfg X 45 0 code kend k J (St.l1 x0 x1 x2 x3 x4).lab (St.l1 x0 x1 x2 x3 x4).fr (St.l1 x0 x1 x2 x3 x4).hp = b1 k (fun s => J s.lab s.fr s.hp) x0 x1 x2 x3 x4 := by kernel_rfl
theorem s2 (k : Nat) (J : Nat → Fr → Heap → Option (Bool × Int × (List Int))) (x0 : List Int) (x1 : Bool) (x2 : List UInt8) (x3 : Bool) : stepJ cfg X 45 0 code kend k J (St.l2 x0 x1 x2 x3).lab (St.l2 x0 x1 x2 x3).fr (St.l2 x0 x1 x2 x3).hp = b2 k (fun s => J s.lab s.fr s.hp) x0 x1 x2 x3 := by kernel_rfl
theorem go_ok : ∀ (k : Nat) (s : St), rn k s.lab s.fr s.hp = go k s
  | 0, _ => rfl
  | k + 1, .l1 x0 x1 x2 x3 x4 => by
    have h := s1 k (rn k) x0 x1 x2 x3 x4
    rw [show (fun s : St => rn k s.lab s.fr s.hp) = go k from funext (go_ok k)] at h
    exact h
  | k + 1, .l2 x0 x1 x2 x3 => by
    have h := s2 k (rn k) x0 x1 x2 x3
    rw [show (fun s : St => rn k s.lab s.fr s.hp) = go k from funext (go_ok k)] at h
    exact h
theorem run_ok : ∀ (k : Nat) (a : (List UInt8)), rn k 0 (argFr 0 (encA a).1) (encA a).2 = m k a
  | 0, _ => rfl
  | k + 1, x0 => by
    have h := s0 k (rn k) x0
    rw [show (fun s : St => rn k s.lab s.fr s.hp) = go k from funext (go_ok k)] at h
    exact h
theorem snd (k : Nat) : Snd Tryz.prog cfg k ct := fn_snd (X := X) cfgOk mixed ok (np := 0) (vps := []) (vws := []) (decA := decA) (encA := encA) (decB := decB) (encB := encB) (encK := encK) (fun _ b _ => rfl)
  (by
    intro xs H a h
    unfold decA at h
    split at h
    · cases h; exact ⟨rfl, rfl, rfl, rfl⟩
    · cases h)
  (by
    intro v H b h
    unfold decB at h
    split at h
    · cases h; exact ⟨rfl, fun _ _ _ h => (by cases h), rfl⟩
    · cases h)
  rfl k (fun k' _ => AllS.mem (l := X) ⟨cavilref09_Base.snd k', cavilref09_spaced.snd k', cavilref09_without.snd k', cavilref07_Parse.snd k', trivial⟩) (fun a => run_ok k a)
end cavilref09_IntOf

/-! cavil/cavilref09.FloatOf -/
namespace cavilref09_FloatOf
inductive St where
  | l1 (x0 : Bool) (x1 : List Int) (x2 : Bool) (x3 : List Int) (x4 : List UInt8) (x5 : Int) (x6 : List UInt8) (x7 : Int) (x8 : Bool) (x9 : List UInt8)
  | l2 (x0 : Bool) (x1 : List Int) (x2 : Bool) (x3 : List Int) (x4 : List UInt8) (x5 : Int) (x6 : List UInt8) (x7 : Int) (x8 : Bool) (x9 : List UInt8) (x10 : Bool)
  | l3 (x0 : Bool) (x1 : List Int) (x2 : Bool) (x3 : List Int) (x4 : List UInt8) (x5 : Int) (x6 : List UInt8) (x7 : Int) (x8 : Bool) (x9 : List UInt8) (x10 : Bool) (x11 : Bool) (x12 : Bool)
  | l4 (x0 : Bool) (x1 : List Int) (x2 : Bool) (x3 : List Int) (x4 : List UInt8) (x5 : Int) (x6 : List UInt8) (x7 : Int) (x8 : Bool) (x9 : List UInt8) (x10 : Bool) (x11 : Bool) (x12 : Bool)
  | l5 (x0 : Bool) (x1 : List Int) (x2 : Bool) (x3 : List Int) (x4 : List UInt8) (x5 : Int) (x6 : List UInt8) (x7 : Int) (x8 : Bool) (x9 : List UInt8) (x10 : Bool) (x11 : Bool)
  | l6 (x0 : Bool) (x1 : List Int) (x2 : Bool) (x3 : List Int) (x4 : List UInt8) (x5 : Int) (x6 : List UInt8) (x7 : Int) (x8 : Bool) (x9 : List UInt8) (x10 : Bool) (x11 : Bool)
  | l7 (x0 : Bool) (x1 : List Int) (x2 : Bool) (x3 : List Int) (x4 : List UInt8) (x5 : Int) (x6 : List UInt8) (x7 : Bool) (x8 : Bool)
  | l8 (x0 : Bool) (x1 : List Int) (x2 : Bool) (x3 : List Int) (x4 : List UInt8) (x5 : Int) (x6 : List UInt8) (x7 : Int) (x8 : Bool) (x9 : List UInt8) (x10 : Bool) (x11 : Bool)
  | l9 (x0 : Bool) (x1 : List Int) (x2 : Bool) (x3 : List Int) (x4 : List Int) (x5 : Bool) (x6 : Int) (x7 : List UInt8) (x8 : Bool) (x9 : Int) (x10 : Int)
  | l10 (x0 : Bool) (x1 : List Int) (x2 : Bool) (x3 : List Int) (x4 : List UInt8) (x5 : Int) (x6 : List UInt8) (x7 : Int) (x8 : Bool) (x9 : List UInt8) (x10 : Bool) (x11 : Bool) (x12 : Bool)
  | l11 (x0 : Bool) (x1 : List Int) (x2 : Bool) (x3 : List Int) (x4 : List Int) (x5 : Bool) (x6 : Int) (x7 : Int)
def St.lab : St → Nat
  | .l1 _ _ _ _ _ _ _ _ _ _ => 1
  | .l2 _ _ _ _ _ _ _ _ _ _ _ => 2
  | .l3 _ _ _ _ _ _ _ _ _ _ _ _ _ => 3
  | .l4 _ _ _ _ _ _ _ _ _ _ _ _ _ => 4
  | .l5 _ _ _ _ _ _ _ _ _ _ _ _ => 8
  | .l6 _ _ _ _ _ _ _ _ _ _ _ _ => 5
  | .l7 _ _ _ _ _ _ _ _ _ => 9
  | .l8 _ _ _ _ _ _ _ _ _ _ _ _ => 6
  | .l9 _ _ _ _ _ _ _ _ _ _ _ => 10
  | .l10 _ _ _ _ _ _ _ _ _ _ _ _ _ => 7
  | .l11 _ _ _ _ _ _ _ _ => 11
def St.fr : St → Fr
  | .l1 x0 x1 x2 x3 x4 x5 x6 x7 x8 x9 => [(2, .ptr 0 1 []), (4, .str x4), (5, .int .i64 x5), (6, .str x6), (7, .int .i64 x7), (8, .bool x8), (9, .str x9)]
  | .l2 x0 x1 x2 x3 x4 x5 x6 x7 x8 x9 x10 => [(2, .ptr 0 1 []), (4, .str x4), (5, .int .i64 x5), (6, .str x6), (7, .int .i64 x7), (8, .bool x8), (9, .str x9), (43, .bool x10)]
  | .l3 x0 x1 x2 x3 x4 x5 x6 x7 x8 x9 x10 x11 x12 => [(2, .ptr 0 1 []), (4, .str x4), (5, .int .i64 x5), (6, .str x6), (7, .int .i64 x7), (8, .bool x8), (9, .str x9), (10, .bool x10), (11, .bool x11), (75, .bool x12)]
  | .l4 x0 x1 x2 x3 x4 x5 x6 x7 x8 x9 x10 x11 x12 => [(2, .ptr 0 1 []), (4, .str x4), (5, .int .i64 x5), (6, .str x6), (7, .int .i64 x7), (8, .bool x8), (9, .str x9), (10, .bool x10), (11, .bool x11), (93, .bool x12)]
  | .l5 x0 x1 x2 x3 x4 x5 x6 x7 x8 x9 x10 x11 => [(2, .ptr 0 1 []), (4, .str x4), (5, .int .i64 x5), (6, .str x6), (7, .int .i64 x7), (8, .bool x8), (9, .str x9), (10, .bool x10), (11, .bool x11)]
  | .l6 x0 x1 x2 x3 x4 x5 x6 x7 x8 x9 x10 x11 => [(2, .ptr 0 1 []), (4, .str x4), (5, .int .i64 x5), (6, .str x6), (7, .int .i64 x7), (8, .bool x8), (9, .str x9), (10, .bool x10), (11, .bool x11)]
  | .l7 x0 x1 x2 x3 x4 x5 x6 x7 x8 => [(2, .ptr 0 1 []), (6, .str x4), (7, .int .i64 x5), (9, .str x6), (10, .bool x7), (137, .bool x8)]
  | .l8 x0 x1 x2 x3 x4 x5 x6 x7 x8 x9 x10 x11 => [(2, .ptr 0 1 []), (4, .str x4), (5, .int .i64 x5), (6, .str x6), (7, .int .i64 x7), (8, .bool x8), (9, .str x9), (10, .bool x10), (11, .bool x11)]
  | .l9 x0 x1 x2 x3 x4 x5 x6 x7 x8 x9 x10 => [(2, .ptr 0 1 []), (7, .int .i64 x6), (9, .str x7), (10, .bool x8), (12, .ptr 2 1 []), (14, .int .i64 x9), (15, .int .i64 x10)]
  | .l10 x0 x1 x2 x3 x4 x5 x6 x7 x8 x9 x10 x11 x12 => [(2, .ptr 0 1 []), (4, .str x4), (5, .int .i64 x5), (6, .str x6), (7, .int .i64 x7), (8, .bool x8), (9, .str x9), (10, .bool x10), (11, .bool x11), (109, .bool x12)]
  | .l11 x0 x1 x2 x3 x4 x5 x6 x7 => [(2, .ptr 0 1 []), (7, .int .i64 x6), (12, .ptr 2 1 []), (14, .int .i64 x7)]
def St.hp : St → Heap
  | .l1 x0 x1 x2 x3 x4 x5 x6 x7 x8 x9 => [.var 0 46 (.agg (.pair (.agg (.pair (.bool x0) (.pair (.arr 8 (.int .u64 x1)) .nil))) (.pair (.agg (.pair (.bool x2) (.pair (.arr 8 (.int .u64 x3)) .nil))) .nil)))]
  | .l2 x0 x1 x2 x3 x4 x5 x6 x7 x8 x9 x10 => [.var 0 46 (.agg (.pair (.agg (.pair (.bool x0) (.pair (.arr 8 (.int .u64 x1)) .nil))) (.pair (.agg (.pair (.bool x2) (.pair (.arr 8 (.int .u64 x3)) .nil))) .nil)))]
  | .l3 x0 x1 x2 x3 x4 x5 x6 x7 x8 x9 x10 x11 x12 => [.var 0 46 (.agg (.pair (.agg (.pair (.bool x0) (.pair (.arr 8 (.int .u64 x1)) .nil))) (.pair (.agg (.pair (.bool x2) (.pair (.arr 8 (.int .u64 x3)) .nil))) .nil)))]
  | .l4 x0 x1 x2 x3 x4 x5 x6 x7 x8 x9 x10 x11 x12 => [.var 0 46 (.agg (.pair (.agg (.pair (.bool x0) (.pair (.arr 8 (.int .u64 x1)) .nil))) (.pair (.agg (.pair (.bool x2) (.pair (.arr 8 (.int .u64 x3)) .nil))) .nil)))]
  | .l5 x0 x1 x2 x3 x4 x5 x6 x7 x8 x9 x10 x11 => [.var 0 46 (.agg (.pair (.agg (.pair (.bool x0) (.pair (.arr 8 (.int .u64 x1)) .nil))) (.pair (.agg (.pair (.bool x2) (.pair (.arr 8 (.int .u64 x3)) .nil))) .nil)))]
  | .l6 x0 x1 x2 x3 x4 x5 x6 x7 x8 x9 x10 x11 => [.var 0 46 (.agg (.pair (.agg (.pair (.bool x0) (.pair (.arr 8 (.int .u64 x1)) .nil))) (.pair (.agg (.pair (.bool x2) (.pair (.arr 8 (.int .u64 x3)) .nil))) .nil)))]
  | .l7 x0 x1 x2 x3 x4 x5 x6 x7 x8 => [.var 0 46 (.agg (.pair (.agg (.pair (.bool x0) (.pair (.arr 8 (.int .u64 x1)) .nil))) (.pair (.agg (.pair (.bool x2) (.pair (.arr 8 (.int .u64 x3)) .nil))) .nil)))]
  | .l8 x0 x1 x2 x3 x4 x5 x6 x7 x8 x9 x10 x11 => [.var 0 46 (.agg (.pair (.agg (.pair (.bool x0) (.pair (.arr 8 (.int .u64 x1)) .nil))) (.pair (.agg (.pair (.bool x2) (.pair (.arr 8 (.int .u64 x3)) .nil))) .nil)))]
  | .l9 x0 x1 x2 x3 x4 x5 x6 x7 x8 x9 x10 => [.var 0 46 (.agg (.pair (.agg (.pair (.bool x0) (.pair (.arr 8 (.int .u64 x1)) .nil))) (.pair (.agg (.pair (.bool x2) (.pair (.arr 8 (.int .u64 x3)) .nil))) .nil))), .row 0 1 true 3 (.int .i64 x4), .var 0 40 (.agg (.pair (.bool x5) (.pair (.slice 1 1 .all) .nil)))]
  | .l10 x0 x1 x2 x3 x4 x5 x6 x7 x8 x9 x10 x11 x12 => [.var 0 46 (.agg (.pair (.agg (.pair (.bool x0) (.pair (.arr 8 (.int .u64 x1)) .nil))) (.pair (.agg (.pair (.bool x2) (.pair (.arr 8 (.int .u64 x3)) .nil))) .nil)))]
  | .l11 x0 x1 x2 x3 x4 x5 x6 x7 => [.var 0 46 (.agg (.pair (.agg (.pair (.bool x0) (.pair (.arr 8 (.int .u64 x1)) .nil))) (.pair (.agg (.pair (.bool x2) (.pair (.arr 8 (.int .u64 x3)) .nil))) .nil))), .row 0 1 true 3 (.int .i64 x4), .var 0 40 (.agg (.pair (.bool x5) (.pair (.slice 1 1 .all) .nil)))]
def b0 (k : Nat) (J : St → Option (Bool × (List Int) × Bool × (List Int) × Int)) (x0 : List UInt8) : Option (Bool × (List Int) × Bool × (List Int) × Int) :=
  bindO (cavilref09_spaced.m k x0 false) fun r1 =>
    bif (!r1) then
      some (false, (List.replicate 8 (0 : Int)), false, (List.replicate 8 (0 : Int)), 8)
    else
      bindO (cavilref09_without.m k x0) fun r2 =>
        J (.l1 false (List.replicate 8 (0 : Int)) false (List.replicate 8 (0 : Int)) r2 0 ([] : List UInt8) 0 false ([] : List UInt8))
def b1 (k : Nat) (J : St → Option (Bool × (List Int) × Bool × (List Int) × Int)) (x0 : Bool) (x1 : List Int) (x2 : Bool) (x3 : List Int) (x4 : List UInt8) (x5 : Int) (x6 : List UInt8) (x7 : Int) (x8 : Bool) (x9 : List UInt8) : Option (Bool × (List Int) × Bool × (List Int) × Int) :=
  bif (decide (x5 < (x4.length : Int))) then
    gk (inB x5 x4.length)
      (bindO (cavilref09_digit.m k (byt x4 x5)) fun r1 =>
        bif r1 then
          J (.l2 x0 x1 x2 x3 x4 x5 x6 x7 x8 x9 true)
        else
          gk (inB x5 x4.length)
            (bif ((byt x4 x5) == 46) then
              J (.l2 x0 x1 x2 x3 x4 x5 x6 x7 x8 x9 (!x8))
            else
              J (.l2 x0 x1 x2 x3 x4 x5 x6 x7 x8 x9 false)))
  else
    J (.l2 x0 x1 x2 x3 x4 x5 x6 x7 x8 x9 false)
def b2 (k : Nat) (J : St → Option (Bool × (List Int) × Bool × (List Int) × Int)) (x0 : Bool) (x1 : List Int) (x2 : Bool) (x3 : List Int) (x4 : List UInt8) (x5 : Int) (x6 : List UInt8) (x7 : Int) (x8 : Bool) (x9 : List UInt8) (x10 : Bool) : Option (Bool × (List Int) × Bool × (List Int) × Int) :=
  bif x10 then
    gk (inB x5 x4.length)
      (bif ((byt x4 x5) == 46) then
        J (.l1 x0 x1 x2 x3 x4 (wr .i64 (x5 + 1)) x6 x7 true x9)
      else
        gk (cutB x5 (wr .i64 (x5 + 1)) x4.length)
          (gk (roomS x6 (cut x4 x5 (wr .i64 (x5 + 1))))
            (bif x8 then
              J (.l1 x0 x1 x2 x3 x4 (wr .i64 (x5 + 1)) (x6 ++ (cut x4 x5 (wr .i64 (x5 + 1)))) (wr .i64 (x7 + 1)) x8 x9)
            else
              J (.l1 x0 x1 x2 x3 x4 (wr .i64 (x5 + 1)) (x6 ++ (cut x4 x5 (wr .i64 (x5 + 1)))) x7 x8 x9))))
  else
    bif (decide (x5 < (x4.length : Int))) then
      gk (inB x5 x4.length)
        (bif ((byt x4 x5) == 101) then
          J (.l3 x0 x1 x2 x3 x4 x5 x6 x7 x8 x9 false false true)
        else
          gk (inB x5 x4.length)
            (J (.l3 x0 x1 x2 x3 x4 x5 x6 x7 x8 x9 false false ((byt x4 x5) == 69))))
    else
      J (.l3 x0 x1 x2 x3 x4 x5 x6 x7 x8 x9 false false false)
def b3 (k : Nat) (J : St → Option (Bool × (List Int) × Bool × (List Int) × Int)) (x0 : Bool) (x1 : List Int) (x2 : Bool) (x3 : List Int) (x4 : List UInt8) (x5 : Int) (x6 : List UInt8) (x7 : Int) (x8 : Bool) (x9 : List UInt8) (x10 : Bool) (x11 : Bool) (x12 : Bool) : Option (Bool × (List Int) × Bool × (List Int) × Int) :=
  bif x12 then
    bif (decide ((wr .i64 (x5 + 1)) < (x4.length : Int))) then
      gk (inB (wr .i64 (x5 + 1)) x4.length)
        (bif ((byt x4 (wr .i64 (x5 + 1))) == 43) then
          J (.l4 x0 x1 x2 x3 x4 (wr .i64 (x5 + 1)) x6 x7 x8 x9 x10 true true)
        else
          gk (inB (wr .i64 (x5 + 1)) x4.length)
            (J (.l4 x0 x1 x2 x3 x4 (wr .i64 (x5 + 1)) x6 x7 x8 x9 x10 true ((byt x4 (wr .i64 (x5 + 1))) == 45))))
    else
      J (.l4 x0 x1 x2 x3 x4 (wr .i64 (x5 + 1)) x6 x7 x8 x9 x10 true false)
  else
    J (.l5 x0 x1 x2 x3 x4 x5 x6 x7 x8 x9 x10 x11)
def b4 (k : Nat) (J : St → Option (Bool × (List Int) × Bool × (List Int) × Int)) (x0 : Bool) (x1 : List Int) (x2 : Bool) (x3 : List Int) (x4 : List UInt8) (x5 : Int) (x6 : List UInt8) (x7 : Int) (x8 : Bool) (x9 : List UInt8) (x10 : Bool) (x11 : Bool) (x12 : Bool) : Option (Bool × (List Int) × Bool × (List Int) × Int) :=
  bif x12 then
    gk (inB x5 x4.length)
      (J (.l6 x0 x1 x2 x3 x4 (wr .i64 (x5 + 1)) x6 x7 x8 x9 ((byt x4 x5) == 45) x11))
  else
    J (.l6 x0 x1 x2 x3 x4 x5 x6 x7 x8 x9 x10 x11)
def b5 (k : Nat) (J : St → Option (Bool × (List Int) × Bool × (List Int) × Int)) (x0 : Bool) (x1 : List Int) (x2 : Bool) (x3 : List Int) (x4 : List UInt8) (x5 : Int) (x6 : List UInt8) (x7 : Int) (x8 : Bool) (x9 : List UInt8) (x10 : Bool) (x11 : Bool) : Option (Bool × (List Int) × Bool × (List Int) × Int) :=
  bif (decide (x5 < (x4.length : Int))) then
    J (.l7 x0 x1 x2 x3 x6 x7 x9 x10 true)
  else
    bif (x6 == ([] : List UInt8)) then
      J (.l7 x0 x1 x2 x3 x6 x7 x9 x10 true)
    else
      bif (!x8) then
        J (.l7 x0 x1 x2 x3 x6 x7 x9 x10 (!x11))
      else
        J (.l7 x0 x1 x2 x3 x6 x7 x9 x10 false)
def b6 (k : Nat) (J : St → Option (Bool × (List Int) × Bool × (List Int) × Int)) (x0 : Bool) (x1 : List Int) (x2 : Bool) (x3 : List Int) (x4 : List UInt8) (x5 : Int) (x6 : List UInt8) (x7 : Int) (x8 : Bool) (x9 : List UInt8) (x10 : Bool) (x11 : Bool) : Option (Bool × (List Int) × Bool × (List Int) × Int) :=
  J (.l8 x0 x1 x2 x3 x4 x5 x6 x7 x8 x9 x10 x11)
def b7 (k : Nat) (J : St → Option (Bool × (List Int) × Bool × (List Int) × Int)) (x0 : Bool) (x1 : List Int) (x2 : Bool) (x3 : List Int) (x4 : List UInt8) (x5 : Int) (x6 : List UInt8) (x7 : Bool) (x8 : Bool) : Option (Bool × (List Int) × Bool × (List Int) × Int) :=
  bif x8 then
    some (false, (List.replicate 8 (0 : Int)), false, (List.replicate 8 (0 : Int)), 8)
  else
    bindO (cavilref07_Parse.m k x4 10) fun r1 =>
      bif (r1.2.1 != 0) then
        some (false, (List.replicate 8 (0 : Int)), false, (List.replicate 8 (0 : Int)), r1.2.1)
      else
        bif (decide ((x6.length : Int) > 5)) then
          some (false, (List.replicate 8 (0 : Int)), false, (List.replicate 8 (0 : Int)), 9)
        else
          J (.l9 x0 x1 x2 x3 r1.2.2 r1.1 x5 x6 x7 0 0)
def b8 (k : Nat) (J : St → Option (Bool × (List Int) × Bool × (List Int) × Int)) (x0 : Bool) (x1 : List Int) (x2 : Bool) (x3 : List Int) (x4 : List UInt8) (x5 : Int) (x6 : List UInt8) (x7 : Int) (x8 : Bool) (x9 : List UInt8) (x10 : Bool) (x11 : Bool) : Option (Bool × (List Int) × Bool × (List Int) × Int) :=
  bif (decide (x5 < (x4.length : Int))) then
    gk (inB x5 x4.length)
      (bindO (cavilref09_digit.m k (byt x4 x5)) fun r1 =>
        J (.l10 x0 x1 x2 x3 x4 x5 x6 x7 x8 x9 x10 x11 r1))
  else
    J (.l10 x0 x1 x2 x3 x4 x5 x6 x7 x8 x9 x10 x11 false)
def b9 (k : Nat) (J : St → Option (Bool × (List Int) × Bool × (List Int) × Int)) (x0 : Bool) (x1 : List Int) (x2 : Bool) (x3 : List Int) (x4 : List Int) (x5 : Bool) (x6 : Int) (x7 : List UInt8) (x8 : Bool) (x9 : Int) (x10 : Int) : Option (Bool × (List Int) × Bool × (List Int) × Int) :=
  bif (decide (x10 < (x7.length : Int))) then
    gk (inB x10 x7.length)
      (J (.l9 x0 x1 x2 x3 x4 x5 x6 x7 x8 (wr .i64 ((wr .i64 (10 * x9)) + (wr .i64 (wr .u8 ((byt x7 x10) - 48))))) (wr .i64 (x10 + 1))))
  else
    bif x8 then
      J (.l11 x0 x1 x2 x3 x4 x5 x6 (wr .i64 (0 - x9)))
    else
      J (.l11 x0 x1 x2 x3 x4 x5 x6 x9)
def b10 (k : Nat) (J : St → Option (Bool × (List Int) × Bool × (List Int) × Int)) (x0 : Bool) (x1 : List Int) (x2 : Bool) (x3 : List Int) (x4 : List UInt8) (x5 : Int) (x6 : List UInt8) (x7 : Int) (x8 : Bool) (x9 : List UInt8) (x10 : Bool) (x11 : Bool) (x12 : Bool) : Option (Bool × (List Int) × Bool × (List Int) × Int) :=
  bif x12 then
    gk (cutB x5 (wr .i64 (x5 + 1)) x4.length)
      (gk (roomS x9 (cut x4 x5 (wr .i64 (x5 + 1))))
        (J (.l8 x0 x1 x2 x3 x4 (wr .i64 (x5 + 1)) x6 x7 x8 (x9 ++ (cut x4 x5 (wr .i64 (x5 + 1)))) x10 x11)))
  else
    bif (x9 == ([] : List UInt8)) then
      some (false, (List.replicate 8 (0 : Int)), false, (List.replicate 8 (0 : Int)), 8)
    else
      J (.l5 x0 x1 x2 x3 x4 x5 x6 x7 x8 x9 x10 x11)
def b11 (k : Nat) (J : St → Option (Bool × (List Int) × Bool × (List Int) × Int)) (x0 : Bool) (x1 : List Int) (x2 : Bool) (x3 : List Int) (x4 : List Int) (x5 : Bool) (x6 : Int) (x7 : Int) : Option (Bool × (List Int) × Bool × (List Int) × Int) :=
  bindO (cavilref07_To.m k x5 x4) fun r1 =>
    bindO (cavilref08_Of.m k 1) fun r2 =>
      bindO (cavilref08_Scale.m k r1.1 r1.2.1 r2.1 r2.2.1 10 (wr .i64 (x7 - x6))) fun r3 =>
        some (r3.1, r3.2.1, r3.2.2.1, r3.2.2.2.1, r3.2.2.2.2)
def go : Nat → St → Option (Bool × (List Int) × Bool × (List Int) × Int)
  | 0, _ => none
  | k + 1, .l1 x0 x1 x2 x3 x4 x5 x6 x7 x8 x9 => b1 k (go k) x0 x1 x2 x3 x4 x5 x6 x7 x8 x9
  | k + 1, .l2 x0 x1 x2 x3 x4 x5 x6 x7 x8 x9 x10 => b2 k (go k) x0 x1 x2 x3 x4 x5 x6 x7 x8 x9 x10
  | k + 1, .l3 x0 x1 x2 x3 x4 x5 x6 x7 x8 x9 x10 x11 x12 => b3 k (go k) x0 x1 x2 x3 x4 x5 x6 x7 x8 x9 x10 x11 x12
  | k + 1, .l4 x0 x1 x2 x3 x4 x5 x6 x7 x8 x9 x10 x11 x12 => b4 k (go k) x0 x1 x2 x3 x4 x5 x6 x7 x8 x9 x10 x11 x12
  | k + 1, .l5 x0 x1 x2 x3 x4 x5 x6 x7 x8 x9 x10 x11 => b5 k (go k) x0 x1 x2 x3 x4 x5 x6 x7 x8 x9 x10 x11
  | k + 1, .l6 x0 x1 x2 x3 x4 x5 x6 x7 x8 x9 x10 x11 => b6 k (go k) x0 x1 x2 x3 x4 x5 x6 x7 x8 x9 x10 x11
  | k + 1, .l7 x0 x1 x2 x3 x4 x5 x6 x7 x8 => b7 k (go k) x0 x1 x2 x3 x4 x5 x6 x7 x8
  | k + 1, .l8 x0 x1 x2 x3 x4 x5 x6 x7 x8 x9 x10 x11 => b8 k (go k) x0 x1 x2 x3 x4 x5 x6 x7 x8 x9 x10 x11
  | k + 1, .l9 x0 x1 x2 x3 x4 x5 x6 x7 x8 x9 x10 => b9 k (go k) x0 x1 x2 x3 x4 x5 x6 x7 x8 x9 x10
  | k + 1, .l10 x0 x1 x2 x3 x4 x5 x6 x7 x8 x9 x10 x11 x12 => b10 k (go k) x0 x1 x2 x3 x4 x5 x6 x7 x8 x9 x10 x11 x12
  | k + 1, .l11 x0 x1 x2 x3 x4 x5 x6 x7 => b11 k (go k) x0 x1 x2 x3 x4 x5 x6 x7
def m : Nat → List UInt8 → Option (Bool × (List Int) × Bool × (List Int) × Int)
  | 0, _ => none
  | k + 1, x0 => b0 k (go k) x0
def anns : Anns := [(7, 1, [(2, 0, false), (4, 9, false), (5, 3, false), (6, 9, false), (7, 3, false), (8, 4, false), (9, 9, false)]), (9, 2, [(2, 0, false), (4, 9, false), (5, 3, false), (6, 9, false), (7, 3, false), (8, 4, false), (9, 9, false), (43, 4, false)]), (15, 8, [(2, 0, false), (4, 9, false), (5, 3, false), (6, 9, false), (7, 3, false), (8, 4, false), (9, 9, false), (10, 4, false), (11, 4, false)]), (16, 3, [(2, 0, false), (4, 9, false), (5, 3, false), (6, 9, false), (7, 3, false), (8, 4, false), (9, 9, false), (10, 4, false), (11, 4, false), (75, 4, false)]), (19, 5, [(2, 0, false), (4, 9, false), (5, 3, false), (6, 9, false), (7, 3, false), (8, 4, false), (9, 9, false), (10, 4, false), (11, 4, false)]), (20, 4, [(2, 0, false), (4, 9, false), (5, 3, false), (6, 9, false), (7, 3, false), (8, 4, false), (9, 9, false), (10, 4, false), (11, 4, false), (93, 4, false)]), (23, 6, [(2, 0, false), (4, 9, false), (5, 3, false), (6, 9, false), (7, 3, false), (8, 4, false), (9, 9, false), (10, 4, false), (11, 4, false)]), (25, 7, [(2, 0, false), (4, 9, false), (5, 3, false), (6, 9, false), (7, 3, false), (8, 4, false), (9, 9, false), (10, 4, false), (11, 4, false), (109, 4, false)]), (30, 9, [(2, 0, false), (6, 9, false), (7, 3, false), (9, 9, false), (10, 4, false), (137, 4, false)]), (42, 10, [(2, 0, false), (7, 3, false), (9, 9, false), (10, 4, false), (12, 0, false), (14, 3, false), (15, 3, false)]), (46, 11, [(2, 0, false), (7, 3, false), (12, 0, false), (14, 3, false)])]
noncomputable def code : ACode := codeOf Tryz.f16 anns
def rs : List ResultVar := [.cell 2 46, .tmp 3]
def decA : List AVal → Heap → Option ((List UInt8))
  | [.str x0], [] => some x0
  | _, _ => none
def encA (a : (List UInt8)) : List AVal × Heap := ([.str a], [])
def decB : AVal → Heap → Option (Bool × (List Int) × Bool × (List Int) × Int)
  | .tup (.pair (.agg (.pair (.agg (.pair (.bool y0) (.pair (.arr 8 (.int .u64 y1)) .nil))) (.pair (.agg (.pair (.bool y2) (.pair (.arr 8 (.int .u64 y3)) .nil))) .nil))) (.pair (.int .i64 y4) .nil)), [] => some (y0, y1, y2, y3, y4)
  | _, _ => none
def encB (b : Bool × (List Int) × Bool × (List Int) × Int) : Out := (.tup (.pair (.agg (.pair (.agg (.pair (.bool b.1) (.pair (.arr 8 (.int .u64 b.2.1)) .nil))) (.pair (.agg (.pair (.bool b.2.2.1) (.pair (.arr 8 (.int .u64 b.2.2.2.1)) .nil))) .nil))) (.pair (.int .i64 b.2.2.2.2) .nil)), [], [])
def encK : EncK (Bool × (List Int) × Bool × (List Int) × Int) := fun _ b K => K (encB b)
def X : List Ct := [cavilref09_spaced.ct, cavilref09_without.ct, cavilref09_digit.ct, cavilref07_Parse.ct, cavilref07_To.ct, cavilref08_Of.ct, cavilref08_Scale.ct]
def ct : Ct := ⟨16, callRun cfg.tt [(9, false)] decA (fun k a => m k a) false encK⟩
theorem ok : FnOk Tryz.prog cfg 16 184 code rs := .of Tryz.func16 (by kernel_rfl) rfl rfl (by kernel_rfl) (by kernel_rfl) rfl
abbrev kend : KK (Bool × (List Int) × Bool × (List Int) × Int) := kEnd cfg.tt rs (kFin cfg.tt 0 false [46, 3] [] [] decB)
noncomputable abbrev rn := run cfg X 184 0 code kend
theorem s0 (k : Nat) (J : Nat → Fr → Heap → Option (Bool × (List Int) × Bool × (List Int) × Int)) (x0 : List UInt8) : stepJ cfg X 184 0 code kend k J 0 (argFr 0 (encA x0).1) (encA x0).2 = b0 k (fun s => J s.lab s.fr s.hp) x0 := by kernel_rfl
theorem s1 (k : Nat) (J : Nat → Fr → Heap → Option (Bool × (List Int) × Bool × (List Int) × Int)) (x0 : Bool) (x1 : List Int) (x2 : Bool) (x3 : List Int) (x4 : List UInt8) (x5 : Int) (x6 : List UInt8) (x7 : Int) (x8 : Bool) (x9 : List UInt8) : stepJ cfg X 184 0 code kend k J (St.l1 x0 x1 x2 x3 x4 x5 x6 x7 x8 x9).lab (St.l1 x0 x1 x2 x3 x4 x5 x6 x7 x8 x9).fr (St.l1 x0 x1 x2 x3 x4 x5 x6 x7 x8 x9).hp = b1 k (fun s => J s.lab s.fr s.hp) x0 x1 x2 x3 x4 x5 x6 x7 x8 x9 := by kernel_rfl
theorem s2 (k : Nat) (J : Nat → Fr → Heap → Option (Bool × (List Int) × Bool × (List Int) × Int)) (x0 : Bool) (x1 : List Int) (x2 : Bool) (x3 : List Int) (x4 : List UInt8) (x5 : Int) (x6 : List UInt8) (x7 : Int) (x8 : Bool) (x9 : List UInt8) (x10 : Bool) : stepJ cfg X 184 0 code kend k J (St.l2 x0 x1 x2 x3 x4 x5 x6 x7 x8 x9 x10).lab (St.l2 x0 x1 x2 x3 x4 x5 x6 x7 x8 x9 x10).fr (St.l2 x0 x1 x2 x3 x4 x5 x6 x7 x8 x9 x10).hp = b2 k (fun s => J s.lab s.fr s.hp) x0 x1 x2 x3 x4 x5 x6 x7 x8 x9 x10 := by kernel_rfl
theorem s3 (k : Nat) (J : Nat → Fr → Heap → Option (Bool × (List Int) × Bool × (List Int) × Int)) (x0 : Bool) (x1 : List Int) (x2 : Bool) (x3 : List Int) (x4 : List UInt8) (x5 : Int) (x6 : List UInt8) (x7 : Int) (x8 : Bool) (x9 : List UInt8) (x10 : Bool) (x11 : Bool) (x12 : Bool) : stepJ cfg X 184 0 code kend k J (St.l3 x0 x1 x2 x3 x4 x5 x6 x7 x8 x9 x10 x11 x12).lab (St.l3 x0 x1 x2 x3 x4 x5 x6 x7 x8 x9 x10 x11 x12).fr (St.l3 x0 x1 x2 x3 x4 x5 x6 x7 x8 x9 x10 x11 x12).hp = b3 k (fun s => J s.lab s.fr s.hp) x0 x1 x2 x3 x4 x5 x6 x7 x8 x9 x10 x11 x12 := by kernel_rfl
theorem s4 (k : Nat) (J : Nat → Fr → Heap → Option (Bool × (List Int) × Bool × (List Int) × Int)) (x0 : Bool) (x1 : List Int) (x2 : Bool) (x3 : List Int) (x4 : List UInt8) (x5 : Int) (x6 : List UInt8) (x7 : Int) (x8 : Bool) (x9 : List UInt8) (x10 : Bool) (x11 : Bool) (x12 : Bool) : stepJ cfg X 184 0 code kend k J (St.l4 x0 x1 x2 x3 x4 x5 x6 x7 x8 x9 x10 x11 x12).lab (St.l4 x0 x1 x2 x3 x4 x5 x6 x7 x8 x9 x10 x11 x12).fr (St.l4 x0 x1 x2 x3 x4 x5 x6 x7 x8 x9 x10 x11 x12).hp = b4 k (fun s => J s.lab s.fr s.hp) x0 x1 x2 x3 x4 x5 x6 x7 x8 x9 x10 x11 x12 := by kernel_rfl
theorem s5 (k : Nat) (J : Nat → Fr → Heap → Option (Bool × (List Int) × Bool × (List Int) × Int)) (x0 : Bool) (x1 : List Int) (x2 : Bool) (x3 : List Int) (x4 : List UInt8) (x5 : Int) (x6 : List UInt8) (x7 : Int) (x8 : Bool) (x9 : List UInt8) (x10 : Bool) (x11 : Bool) : stepJ cfg X 184 0 code kend k J (St.l5 x0 x1 x2 x3 x4 x5 x6 x7 x8 x9 x10 x11).lab (St.l5 x0 x1 x2 x3 x4 x5 x6 x7 x8 x9 x10 x11).fr (St.l5 x0 x1 x2 x3 x4 x5 x6 x7 x8 x9 x10 x11).hp = b5 k (fun s => J s.lab s.fr s.hp) x0 x1 x2 x3 x4 x5 x6 x7 x8 x9 x10 x11 := by kernel_rfl
theorem s6 (k : Nat) (J : Nat → Fr → Heap → Option (Bool × (List Int) × Bool × (List Int) × Int)) (x0 : Bool) (x1 : List Int) (x2 : Bool) (x3 : List Int) (x4 : List UInt8) (x5 : Int) (x6 : List UInt8) (x7 : Int) (x8 : Bool) (x9 : List UInt8) (x10 : Bool) (x11 : Bool) : stepJ cfg X 184 0 code kend k J (St.l6 x0 x1 x2 x3 x4 x5 x6 x7 x8 x9 x10 x11).lab (St.l6 x0 x1 x2 x3 x4 x5 x6 x7 x8 x9 x10 x11).fr (St.l6 x0 x1 x2 x3 x4 x5 x6 x7 x8 x9 x10 x11).hp = b6 k (fun s => J s.lab s.fr s.hp) x0 x1 x2 x3 x4 x5 x6 x7 x8 x9 x10 x11 := by kernel_rfl
theorem s7 (k : Nat) (J : Nat → Fr → Heap → Option (Bool × (List Int) × Bool × (List Int) × Int)) (x0 : Bool) (x1 : List Int) (x2 : Bool) (x3 : List Int) (x4 : List UInt8) (x5 : Int) (x6 : List UInt8) (x7 : Bool) (x8 : Bool) : stepJ cfg X 184 0 code kend k J (St.l7 x0 x1 x2 x3 x4 x5 x6 x7 x8).lab (St.l7 x0 x1 x2 x3 x4 x5 x6 x7 x8).fr (St.l7 x0 x1 x2 x3 x4 x5 x6 x7 x8).hp = b7 k (fun s => J s.lab s.fr s.hp) x0 x1 x2 x3 x4 x5 x6 x7 x8 := by kernel_rfl
theorem s8 (k : Nat) (J : Nat → Fr → Heap → Option (Bool × (List Int) × Bool × (List Int) × Int)) (x0 : Bool) (x1 : List Int) (x2 : Bool) (x3 : List Int) (x4 : List UInt8) (x5 : Int) (x6 : List UInt8) (x7 : Int) (x8 : Bool) (x9 : List UInt8) (x10 : Bool) (x11 : Bool) : stepJ cfg X 184 0 code kend k J (St.l8 x0 x1 x2 x3 x4 x5 x6 x7 x8 x9 x10 x11).lab (St.l8 x0 x1 x2 x3 x4 x5 x6 x7 x8 x9 x10 x11).fr (St.l8 x0 x1 x2 x3 x4 x5 x6 x7 x8 x9 x10 x11).hp = b8 k (fun s => J s.lab s.fr s.hp) x0 x1 x2 x3 x4 x5 x6 x7 x8 x9 x10 x11 := by kernel_rfl
theorem s9 (k : Nat) (J : Nat → Fr → Heap → Option (Bool × (List Int) × Bool × (List Int) × Int)) (x0 : Bool) (x1 : List Int) (x2 : Bool) (x3 : List Int) (x4 : List Int) (x5 : Bool) (x6 : Int) (x7 : List UInt8) (x8 : Bool) (x9 : Int) (x10 : Int) : stepJ cfg X 184 0 code kend k J (St.l9 x0 x1 x2 x3 x4 x5 x6 x7 x8 x9 x10).lab (St.l9 x0 x1 x2 x3 x4 x5 x6 x7 x8 x9 x10).fr (St.l9 x0 x1 x2 x3 x4 x5 x6 x7 x8 x9 x10).hp = b9 k (fun s => J s.lab s.fr s.hp) x0 x1 x2 x3 x4 x5 x6 x7 x8 x9 x10 := by kernel_rfl
theorem s10 (k : Nat) (J : Nat → Fr → Heap → Option (Bool × (List Int) × Bool × (List Int) × Int)) (x0 : Bool) (x1 : List Int) (x2 : Bool) (x3 : List Int) (x4 : List UInt8) (x5 : Int) (x6 : List UInt8) (x7 : Int) (x8 : Bool) (x9 : List UInt8) (x10 : Bool) (x11 : Bool) (x12 : Bool) : stepJ cfg X 184 0 code kend k J (St.l10 x0 x1 x2 x3 x4 x5 x6 x7 x8 x9 x10 x11 x12).lab (St.l10 x0 x1 x2 x3 x4 x5 x6 x7 x8 x9 x10 x11 x12).fr (St.l10 x0 x1 x2 x3 x4 x5 x6 x7 x8 x9 x10 x11 x12).hp = b10 k (fun s => J s.lab s.fr s.hp) x0 x1 x2 x3 x4 x5 x6 x7 x8 x9 x10 x11 x12 := by kernel_rfl
theorem s11 (k : Nat) (J : Nat → Fr → Heap → Option (Bool × (List Int) × Bool × (List Int) × Int)) (x0 : Bool) (x1 : List Int) (x2 : Bool) (x3 : List Int) (x4 : List Int) (x5 : Bool) (x6 : Int) (x7 : Int) : stepJ cfg X 184 0 code kend k J (St.l11 x0 x1 x2 x3 x4 x5 x6 x7).lab (St.l11 x0 x1 x2 x3 x4 x5 x6 x7).fr (St.l11 x0 x1 x2 x3 x4 x5 x6 x7).hp = b11 k (fun s => J s.lab s.fr s.hp) x0 x1 x2 x3 x4 x5 x6 x7 := by kernel_rfl
theorem go_ok : ∀ (k : Nat) (s : St), rn k s.lab s.fr s.hp = go k s
  | 0, _ => rfl
  | k + 1, .l1 x0 x1 x2 x3 x4 x5 x6 x7 x8 x9 => by
    have h := s1 k (rn k) x0 x1 x2 x3 x4 x5 x6 x7 x8 x9
    rw [show (fun s : St => rn k s.lab s.fr s.hp) = go k from funext (go_ok k)] at h
    exact h
  | k + 1, .l2 x0 x1 x2 x3 x4 x5 x6 x7 x8 x9 x10 => by
    have h := s2 k (rn k) x0 x1 x2 x3 x4 x5 x6 x7 x8 x9 x10
    rw [show (fun s : St => rn k s.lab s.fr s.hp) = go k from funext (go_ok k)] at h
    exact h
  | k + 1, .l3 x0 x1 x2 x3 x4 x5 x6 x7 x8 x9 x10 x11 x12 => by
    have h := s3 k (rn k) x0 x1 x2 x3 x4 x5 x6 x7 x8 x9 x10 x11 x12
    rw [show (fun s : St => rn k s.lab s.fr s.hp) = go k from funext (go_ok k)] at h
    exact h
  | k + 1, .l4 x0 x1 x2 x3 x4 x5 x6 x7 x8 x9 x10 x11 x12 => by
    have h := s4 k (rn k) x0 x1 x2 x3 x4 x5 x6 x7 x8 x9 x10 x11 x12
    rw [show (fun s : St => rn k s.lab s.fr s.hp) = go k from funext (go_ok k)] at h
    exact h
  | k + 1, .l5 x0 x1 x2 x3 x4 x5 x6 x7 x8 x9 x10 x11 => by
    have h := s5 k (rn k) x0 x1 x2 x3 x4 x5 x6 x7 x8 x9 x10 x11
    rw [show (fun s : St => rn k s.lab s.fr s.hp) = go k from funext (go_ok k)] at h
    exact h
  | k + 1, .l6 x0 x1 x2 x3 x4 x5 x6 x7 x8 x9 x10 x11 => by
    have h := s6 k (rn k) x0 x1 x2 x3 x4 x5 x6 x7 x8 x9 x10 x11
    rw [show (fun s : St => rn k s.lab s.fr s.hp) = go k from funext (go_ok k)] at h
    exact h
  | k + 1, .l7 x0 x1 x2 x3 x4 x5 x6 x7 x8 => by
    have h := s7 k (rn k) x0 x1 x2 x3 x4 x5 x6 x7 x8
    rw [show (fun s : St => rn k s.lab s.fr s.hp) = go k from funext (go_ok k)] at h
    exact h
  | k + 1, .l8 x0 x1 x2 x3 x4 x5 x6 x7 x8 x9 x10 x11 => by
    have h := s8 k (rn k) x0 x1 x2 x3 x4 x5 x6 x7 x8 x9 x10 x11
    rw [show (fun s : St => rn k s.lab s.fr s.hp) = go k from funext (go_ok k)] at h
    exact h
  | k + 1, .l9 x0 x1 x2 x3 x4 x5 x6 x7 x8 x9 x10 => by
    have h := s9 k (rn k) x0 x1 x2 x3 x4 x5 x6 x7 x8 x9 x10
    rw [show (fun s : St => rn k s.lab s.fr s.hp) = go k from funext (go_ok k)] at h
    exact h
  | k + 1, .l10 x0 x1 x2 x3 x4 x5 x6 x7 x8 x9 x10 x11 x12 => by
    have h := s10 k (rn k) x0 x1 x2 x3 x4 x5 x6 x7 x8 x9 x10 x11 x12
    rw [show (fun s : St => rn k s.lab s.fr s.hp) = go k from funext (go_ok k)] at h
    exact h
  | k + 1, .l11 x0 x1 x2 x3 x4 x5 x6 x7 => by
    have h := s11 k (rn k) x0 x1 x2 x3 x4 x5 x6 x7
    rw [show (fun s : St => rn k s.lab s.fr s.hp) = go k from funext (go_ok k)] at h
    exact h
theorem run_ok : ∀ (k : Nat) (a : (List UInt8)), rn k 0 (argFr 0 (encA a).1) (encA a).2 = m k a
  | 0, _ => rfl
  | k + 1, x0 => by
    have h := s0 k (rn k) x0
    rw [show (fun s : St => rn k s.lab s.fr s.hp) = go k from funext (go_ok k)] at h
    exact h
theorem snd (k : Nat) : Snd Tryz.prog cfg k ct := fn_snd (X := X) cfgOk mixed ok (np := 0) (vps := []) (vws := []) (decA := decA) (encA := encA) (decB := decB) (encB := encB) (encK := encK) (fun _ b _ => rfl)
  (by
    intro xs H a h
    unfold decA at h
    split at h
    · cases h; exact ⟨rfl, rfl, rfl, rfl⟩
    · cases h)
  (by
    intro v H b h
    unfold decB at h
    split at h
    · cases h; exact ⟨rfl, fun _ _ _ h => (by cases h), rfl⟩
    · cases h)
  rfl k (fun k' _ => AllS.mem (l := X) ⟨cavilref09_spaced.snd k', cavilref09_without.snd k', cavilref09_digit.snd k', cavilref07_Parse.snd k', cavilref07_To.snd k', cavilref08_Of.snd k', cavilref08_Scale.snd k', trivial⟩) (fun a => run_ok k a)
end cavilref09_FloatOf

/-! cavil/cavilref09.Value -/
namespace cavilref09_Value
def b0 (k : Nat) (x0 : Int) (x1 : List UInt8) : Option (Bool × (List Int) × Bool × (List Int) × Int) :=
  bif (x0 == 2) then
    bindO (cavilref09_IntOf.m k x1) fun r1 =>
      bif (r1.2.1 != 0) then
        some (false, (List.replicate 8 (0 : Int)), false, (List.replicate 8 (0 : Int)), r1.2.1)
      else
        bindO (cavilref07_To.m k r1.1 r1.2.2) fun r2 =>
          bindO (cavilref08_Of.m k 1) fun r3 =>
            some (r2.1, r2.2.1, r3.1, r3.2.1, 0)
  else
    bif (x0 == 3) then
      bindO (cavilref09_FloatOf.m k x1) fun r4 =>
        some (r4.1, r4.2.1, r4.2.2.1, r4.2.2.2.1, r4.2.2.2.2)
    else
      some (false, (List.replicate 8 (0 : Int)), false, (List.replicate 8 (0 : Int)), 11)
def m : Nat → Int → List UInt8 → Option (Bool × (List Int) × Bool × (List Int) × Int)
  | 0, _, _ => none
  | k + 1, x0, x1 => b0 k x0 x1
def anns : Anns := []
noncomputable def code : ACode := codeOf Tryz.f18 anns
def rs : List ResultVar := [.cell 4 46, .tmp 5]
def decA : List AVal → Heap → Option (Int × (List UInt8))
  | [.int .i64 x0, .str x1], [] => some (x0, x1)
  | _, _ => none
def encA (a : Int × (List UInt8)) : List AVal × Heap := ([.int .i64 a.1, .str a.2], [])
def decB : AVal → Heap → Option (Bool × (List Int) × Bool × (List Int) × Int)
  | .tup (.pair (.agg (.pair (.agg (.pair (.bool y0) (.pair (.arr 8 (.int .u64 y1)) .nil))) (.pair (.agg (.pair (.bool y2) (.pair (.arr 8 (.int .u64 y3)) .nil))) .nil))) (.pair (.int .i64 y4) .nil)), [] => some (y0, y1, y2, y3, y4)
  | _, _ => none
def encB (b : Bool × (List Int) × Bool × (List Int) × Int) : Out := (.tup (.pair (.agg (.pair (.agg (.pair (.bool b.1) (.pair (.arr 8 (.int .u64 b.2.1)) .nil))) (.pair (.agg (.pair (.bool b.2.2.1) (.pair (.arr 8 (.int .u64 b.2.2.2.1)) .nil))) .nil))) (.pair (.int .i64 b.2.2.2.2) .nil)), [], [])
def encK : EncK (Bool × (List Int) × Bool × (List Int) × Int) := fun _ b K => K (encB b)
def X : List Ct := [cavilref09_IntOf.ct, cavilref07_To.ct, cavilref08_Of.ct, cavilref09_FloatOf.ct]
def ct : Ct := ⟨18, callRun cfg.tt [(3, false), (9, false)] decA (fun k a => m k a.1 a.2) false encK⟩
theorem ok : FnOk Tryz.prog cfg 18 37 code rs := .of Tryz.func18 (by kernel_rfl) rfl rfl (by kernel_rfl) (by kernel_rfl) rfl
abbrev kend : KK (Bool × (List Int) × Bool × (List Int) × Int) := kEnd cfg.tt rs (kFin cfg.tt 0 false [46, 3] [] [] decB)
noncomputable abbrev rn := run cfg X 37 0 code kend
theorem s0 (k : Nat) (J : Nat → Fr → Heap → Option (Bool × (List Int) × Bool × (List Int) × Int)) (x0 : Int) (x1 : List UInt8) : stepJ cfg X 37 0 code kend k J 0 (argFr 0 (encA (x0, x1)).1) (encA (x0, x1)).2 = b0 k x0 x1 := by kernel_rfl
theorem run_ok : ∀ (k : Nat) (a : Int × (List UInt8)), rn k 0 (argFr 0 (encA a).1) (encA a).2 = m k a.1 a.2
  | 0, _ => rfl
  | k + 1, (x0, x1) => by
    have h := s0 k (rn k) x0 x1
    exact h
theorem snd (k : Nat) : Snd Tryz.prog cfg k ct := fn_snd (X := X) cfgOk mixed ok (np := 0) (vps := []) (vws := []) (decA := decA) (encA := encA) (decB := decB) (encB := encB) (encK := encK) (fun _ b _ => rfl)
  (by
    intro xs H a h
    unfold decA at h
    split at h
    · cases h; exact ⟨rfl, rfl, rfl, rfl⟩
    · cases h)
  (by
    intro v H b h
    unfold decB at h
    split at h
    · cases h; exact ⟨rfl, fun _ _ _ h => (by cases h), rfl⟩
    · cases h)
  rfl k (fun k' _ => AllS.mem (l := X) ⟨cavilref09_IntOf.snd k', cavilref07_To.snd k', cavilref08_Of.snd k', cavilref09_FloatOf.snd k', trivial⟩) (fun a => run_ok k a)
end cavilref09_Value

/-! cavil/cavilref09.Scan -/
namespace cavilref09_Scan
inductive St where
  | l1 (x0 : List UInt8) (x1 : List UInt8) (x2 : Int) (x3 : Int)
  | l2 (x0 : List UInt8) (x1 : List UInt8) (x2 : Int)
def St.lab : St → Nat
  | .l1 _ _ _ _ => 1
  | .l2 _ _ _ => 2
def St.fr : St → Fr
  | .l1 x0 x1 x2 x3 => [(7, .str x1), (8, .int .i64 x2), (9, .int .i64 x3)]
  | .l2 x0 x1 x2 => [(7, .str x1), (8, .int .i64 x2)]
def St.hp : St → Heap
  | .l1 x0 x1 x2 x3 => [.row 0 1 false 5 (.u8 x0)]
  | .l2 x0 x1 x2 => [.row 0 1 false 5 (.u8 x0)]
def b0 (k : Nat) (J : St → Option (Int × Int × Int)) (x0 : List UInt8) (x1 : Int) : Option (Int × Int × Int) :=
  bindO (cavilref09_Body.m k x0 x1) fun r1 =>
    bif (r1 == ([] : List UInt8)) then
      some (0, 0, 7)
    else
      bindO (cavilref09_Base.m k r1) fun r2 =>
        bif (r2 == 0) then
          J (.l1 x0 r1 2 0)
        else
          J (.l2 x0 r1 2)
def b1 (k : Nat) (J : St → Option (Int × Int × Int)) (x0 : List UInt8) (x1 : List UInt8) (x2 : Int) (x3 : Int) : Option (Int × Int × Int) :=
  bif (decide (x3 < (x1.length : Int))) then
    gk (inB x3 x1.length)
      (bif ((byt x1 x3) == 46) then
        J (.l1 x0 x1 3 (wr .i64 (x3 + 1)))
      else
        gk (inB x3 x1.length)
          (bif ((byt x1 x3) == 101) then
            J (.l1 x0 x1 3 (wr .i64 (x3 + 1)))
          else
            gk (inB x3 x1.length)
              (bif ((byt x1 x3) == 69) then
                J (.l1 x0 x1 3 (wr .i64 (x3 + 1)))
              else
                J (.l1 x0 x1 x2 (wr .i64 (x3 + 1))))))
  else
    J (.l2 x0 x1 x2)
def b2 (k : Nat) (J : St → Option (Int × Int × Int)) (x0 : List UInt8) (x1 : List UInt8) (x2 : Int) : Option (Int × Int × Int) :=
  bindO (cavilref09_Value.m k x2 x1) fun r1 =>
    some (x2, (x1.length : Int), r1.2.2.2.2)
def go : Nat → St → Option (Int × Int × Int)
  | 0, _ => none
  | k + 1, .l1 x0 x1 x2 x3 => b1 k (go k) x0 x1 x2 x3
  | k + 1, .l2 x0 x1 x2 => b2 k (go k) x0 x1 x2
def m : Nat → List UInt8 → Int → Option (Int × Int × Int)
  | 0, _, _ => none
  | k + 1, x0, x1 => b0 k (go k) x0 x1
def anns : Anns := [(6, 2, [(7, 9, false), (8, 3, false)]), (9, 1, [(7, 9, false), (8, 3, false), (9, 3, false)])]
noncomputable def code : ACode := codeOf Tryz.f9 anns
def rs : List ResultVar := [.tmp 4, .tmp 5, .tmp 6]
def decA : List AVal → Heap → Option ((List UInt8) × Int)
  | [.slice 0 1 .all, .int .i64 x1], [.row 0 1 false 5 (.u8 x0)] => some (x0, x1)
  | _, _ => none
def encA (a : (List UInt8) × Int) : List AVal × Heap := ([.slice 0 1 .all, .int .i64 a.2], [.row 0 1 false 5 (.u8 a.1)])
def decB : AVal → Heap → Option (Int × Int × Int)
  | .tup (.pair (.int .i64 y0) (.pair (.int .i64 y1) (.pair (.int .i64 y2) .nil))), [_] => some (y0, y1, y2)
  | _, _ => none
def encB (b : Int × Int × Int) : Out := (.tup (.pair (.int .i64 b.1) (.pair (.int .i64 b.2.1) (.pair (.int .i64 b.2.2) .nil))), [], [])
def encK : EncK (Int × Int × Int) := fun _ b K => K (encB b)
def X : List Ct := [cavilref09_Body.ct, cavilref09_Base.ct, cavilref09_Value.ct]
def ct : Ct := ⟨9, callRun cfg.tt [(22, false), (3, false)] decA (fun k a => m k a.1 a.2) false encK⟩
theorem ok : FnOk Tryz.prog cfg 9 52 code rs := .of Tryz.func9 (by kernel_rfl) rfl rfl (by kernel_rfl) (by kernel_rfl) rfl
abbrev kend : KK (Int × Int × Int) := kEnd cfg.tt rs (kFin cfg.tt 1 false [3, 3, 3] [] [0] decB)
noncomputable abbrev rn := run cfg X 52 1 code kend
theorem s0 (k : Nat) (J : Nat → Fr → Heap → Option (Int × Int × Int)) (x0 : List UInt8) (x1 : Int) : stepJ cfg X 52 1 code kend k J 0 (argFr 0 (encA (x0, x1)).1) (encA (x0, x1)).2 = b0 k (fun s => J s.lab s.fr s.hp) x0 x1 := by kernel_rfl
theorem s1 (k : Nat) (J : Nat → Fr → Heap → Option (Int × Int × Int)) (x0 : List UInt8) (x1 : List UInt8) (x2 : Int) (x3 : Int) : stepJ cfg X 52 1 code kend k J (St.l1 x0 x1 x2 x3).lab (St.l1 x0 x1 x2 x3).fr (St.l1 x0 x1 x2 x3).hp = b1 k (fun s => J s.lab s.fr s.hp) x0 x1 x2 x3 := by kernel_rfl
theorem s2 (k : Nat) (J : Nat → Fr → Heap → Option (Int × Int × Int)) (x0 : List UInt8) (x1 : List UInt8) (x2 : Int) : stepJ cfg X 52 1 code kend k J (St.l2 x0 x1 x2).lab (St.l2 x0 x1 x2).fr (St.l2 x0 x1 x2).hp = b2 k (fun s => J s.lab s.fr s.hp) x0 x1 x2 := by kernel_rfl
theorem go_ok : ∀ (k : Nat) (s : St), rn k s.lab s.fr s.hp = go k s
  | 0, _ => rfl
  | k + 1, .l1 x0 x1 x2 x3 => by
    have h := s1 k (rn k) x0 x1 x2 x3
    rw [show (fun s : St => rn k s.lab s.fr s.hp) = go k from funext (go_ok k)] at h
    exact h
  | k + 1, .l2 x0 x1 x2 => by
    have h := s2 k (rn k) x0 x1 x2
    rw [show (fun s : St => rn k s.lab s.fr s.hp) = go k from funext (go_ok k)] at h
    exact h
theorem run_ok : ∀ (k : Nat) (a : (List UInt8) × Int), rn k 0 (argFr 0 (encA a).1) (encA a).2 = m k a.1 a.2
  | 0, _ => rfl
  | k + 1, (x0, x1) => by
    have h := s0 k (rn k) x0 x1
    rw [show (fun s : St => rn k s.lab s.fr s.hp) = go k from funext (go_ok k)] at h
    exact h
theorem snd (k : Nat) : Snd Tryz.prog cfg k ct := fn_snd (X := X) cfgOk mixed ok (np := 1) (vps := []) (vws := [0]) (decA := decA) (encA := encA) (decB := decB) (encB := encB) (encK := encK) (fun _ b _ => rfl)
  (by
    intro xs H a h
    unfold decA at h
    split at h
    · cases h; exact ⟨rfl, rfl, rfl, rfl⟩
    · cases h)
  (by
    intro v H b h
    unfold decB at h
    split at h
    · cases h; exact ⟨rfl, fun _ _ _ h => (by cases h), rfl⟩
    · cases h)
  rfl k (fun k' _ => AllS.mem (l := X) ⟨cavilref09_Body.snd k', cavilref09_Base.snd k', cavilref09_Value.snd k', trivial⟩) (fun a => run_ok k a)
end cavilref09_Scan

/-! cavil/cavillaw01.Code -/
namespace cavillaw01_Code
inductive St where
  | l1 (x0 : Er) (x1 : Int)
def St.lab : St → Nat
  | .l1 _ _ => 1
def St.fr : St → Fr
  | .l1 x0 x1 => [(0, .err x0), (3, .int .i64 x1)]
def St.hp : St → Heap
  | .l1 x0 x1 => []
def b0 (k : Nat) (J : St → Option (Int)) (x0 : Er) : Option (Int) :=
  bif x0.isNil then
    some 0
  else
    J (.l1 x0 1)
def b1 (k : Nat) (J : St → Option (Int)) (x0 : Er) (x1 : Int) : Option (Int) :=
  bif (decide (x1 ≤ 25)) then
    gk (isSm x0)
      (bif (isEq x0 x1) then
        some x1
      else
        J (.l1 x0 (wr .i64 (x1 + 1))))
  else
    some (-1)
def go : Nat → St → Option (Int)
  | 0, _ => none
  | k + 1, .l1 x0 x1 => b1 k (go k) x0 x1
def m : Nat → Er → Option (Int)
  | 0, _ => none
  | k + 1, x0 => b0 k (go k) x0
def anns : Anns := [(6, 1, [(0, 24, false), (3, 3, false)])]
noncomputable def code : ACode := codeOf Tryz.f10 anns
def rs : List ResultVar := [.tmp 2]
def decA : List AVal → Heap → Option (Er)
  | [.err x0], [] => some x0
  | _, _ => none
def encA (a : Er) : List AVal × Heap := ([.err a], [])
def decB : AVal → Heap → Option (Int)
  | .int .i64 y0, [] => some y0
  | _, _ => none
def encB (b : Int) : Out := (.int .i64 b, [], [])
def encK : EncK (Int) := fun _ b K => K (encB b)
def X : List Ct := [lib_is.ct]
def ct : Ct := ⟨10, callRun cfg.tt [(24, false)] decA (fun k a => m k a) false encK⟩
theorem ok : FnOk Tryz.prog cfg 10 15 code rs := .of Tryz.func10 (by kernel_rfl) rfl rfl (by kernel_rfl) (by kernel_rfl) rfl
abbrev kend : KK (Int) := kEnd cfg.tt rs (kFin cfg.tt 0 false [3] [] [] decB)
noncomputable abbrev rn := run cfg X 15 0 code kend
theorem s0 (k : Nat) (J : Nat → Fr → Heap → Option (Int)) (x0 : Er) : stepJ cfg X 15 0 code kend k J 0 (argFr 0 (encA x0).1) (encA x0).2 = b0 k (fun s => J s.lab s.fr s.hp) x0 := by kernel_rfl
theorem s1 (k : Nat) (J : Nat → Fr → Heap → Option (Int)) (x0 : Er) (x1 : Int) : stepJ cfg X 15 0 code kend k J (St.l1 x0 x1).lab (St.l1 x0 x1).fr (St.l1 x0 x1).hp = b1 k (fun s => J s.lab s.fr s.hp) x0 x1 := by kernel_rfl
theorem go_ok : ∀ (k : Nat) (s : St), rn k s.lab s.fr s.hp = go k s
  | 0, _ => rfl
  | k + 1, .l1 x0 x1 => by
    have h := s1 k (rn k) x0 x1
    rw [show (fun s : St => rn k s.lab s.fr s.hp) = go k from funext (go_ok k)] at h
    exact h
theorem run_ok : ∀ (k : Nat) (a : Er), rn k 0 (argFr 0 (encA a).1) (encA a).2 = m k a
  | 0, _ => rfl
  | k + 1, x0 => by
    have h := s0 k (rn k) x0
    rw [show (fun s : St => rn k s.lab s.fr s.hp) = go k from funext (go_ok k)] at h
    exact h
theorem snd (k : Nat) : Snd Tryz.prog cfg k ct := fn_snd (X := X) cfgOk mixed ok (np := 0) (vps := []) (vws := []) (decA := decA) (encA := encA) (decB := decB) (encB := encB) (encK := encK) (fun _ b _ => rfl)
  (by
    intro xs H a h
    unfold decA at h
    split at h
    · cases h; exact ⟨rfl, rfl, rfl, rfl⟩
    · cases h)
  (by
    intro v H b h
    unfold decB at h
    split at h
    · cases h; exact ⟨rfl, fun _ _ _ h => (by cases h), rfl⟩
    · cases h)
  rfl k (fun k' _ => AllS.mem (l := X) ⟨lib_is.snd k', trivial⟩) (fun a => run_ok k a)
end cavillaw01_Code

/-! cavil/cavillaw09.works -/
namespace cavillaw09_works
def b0 (k : Nat) : Option (Bool) :=
  bindO (number_Int.m k ([48, 120, 95, 102, 70] : List UInt8)) fun r1 =>
    bindO (number_Float.m k ([49, 95, 48, 46, 50, 53, 101, 49] : List UInt8)) fun r2 =>
      gk (Nat.blt 0 ([48, 56] : List UInt8).length)
        (bindO (number_Scan.m k ([48, 56] : List UInt8) 0) fun r3 =>
          bif r1.2.2.isNil then
            bindO (limb_Text.m k r1.1 r1.2.1) fun r4 =>
              bif (r4 == ([50, 53, 53] : List UInt8)) then
                bif r2.2.2.2.2.isNil then
                  bindO (ratio_Text.m k r2.1 r2.2.1 r2.2.2.1 r2.2.2.2.1) fun r5 =>
                    bif (r5 == ([50, 48, 53, 47, 50] : List UInt8)) then
                      bif (r3.1 == 2) then
                        bif (r3.2.1 == 2) then
                          bindO (cavillaw01_Code.m k r3.2.2) fun r6 =>
                            some (r6 == 13)
                        else
                          some false
                      else
                        some false
                    else
                      some false
                else
                  some false
              else
                some false
          else
            some false)
def m : Nat → Option (Bool)
  | 0 => none
  | k + 1 => b0 k
def anns : Anns := []
noncomputable def code : ACode := codeOf Tryz.f11 anns
def rs : List ResultVar := [.tmp 0]
def decA : List AVal → Heap → Option (Unit)
  | [], [] => some ()
  | _, _ => none
def encA (a : Unit) : List AVal × Heap := ([], [])
def decB : AVal → Heap → Option (Bool)
  | .bool y0, [] => some y0
  | _, _ => none
def encB (b : Bool) : Out := (.bool b, [], [])
def encK : EncK (Bool) := fun _ b K => K (encB b)
def X : List Ct := [number_Int.ct, number_Float.ct, number_Scan.ct, limb_Text.ct, ratio_Text.ct, cavillaw01_Code.ct]
def ct : Ct := ⟨11, callRun cfg.tt [] decA (fun k a => m k) false encK⟩
theorem ok : FnOk Tryz.prog cfg 11 52 code rs := .of Tryz.func11 (by kernel_rfl) rfl rfl (by kernel_rfl) (by kernel_rfl) rfl
abbrev kend : KK (Bool) := kEnd cfg.tt rs (kFin cfg.tt 0 false [4] [] [] decB)
noncomputable abbrev rn := run cfg X 52 0 code kend
theorem s0 (k : Nat) (J : Nat → Fr → Heap → Option (Bool)) : stepJ cfg X 52 0 code kend k J 0 (argFr 0 (encA ()).1) (encA ()).2 = b0 k := by kernel_rfl
theorem run_ok : ∀ (k : Nat) (a : Unit), rn k 0 (argFr 0 (encA a).1) (encA a).2 = m k
  | 0, _ => rfl
  | k + 1, () => by
    have h := s0 k (rn k)
    exact h
theorem snd (k : Nat) : Snd Tryz.prog cfg k ct := fn_snd (X := X) cfgOk mixed ok (np := 0) (vps := []) (vws := []) (decA := decA) (encA := encA) (decB := decB) (encB := encB) (encK := encK) (fun _ b _ => rfl)
  (by
    intro xs H a h
    unfold decA at h
    split at h
    · cases h; exact ⟨rfl, rfl, rfl, rfl⟩
    · cases h)
  (by
    intro v H b h
    unfold decB at h
    split at h
    · cases h; exact ⟨rfl, fun _ _ _ h => (by cases h), rfl⟩
    · cases h)
  rfl k (fun k' _ => AllS.mem (l := X) ⟨number_Int.snd k', number_Float.snd k', number_Scan.snd k', limb_Text.snd k', ratio_Text.snd k', cavillaw01_Code.snd k', trivial⟩) (fun a => run_ok k a)
end cavillaw09_works

/-! cavil/cavillaw09.NumberScans -/
namespace cavillaw09_NumberScans
def b0 (k : Nat) (x0 : List UInt8) (x1 : Int) : Option (Bool) :=
  gk (cutB 0 (if 60 < (x0.length : Int) then 60 else (x0.length : Int)) x0.length)
    (bindO (number_Scan.m k (cut x0 0 (if 60 < (x0.length : Int) then 60 else (x0.length : Int))) x1) fun r1 =>
      bindO (cavilref09_Scan.m k (cut x0 0 (if 60 < (x0.length : Int) then 60 else (x0.length : Int))) x1) fun r2 =>
        bif (r1.1 == r2.1) then
          bif (r1.2.1 == r2.2.1) then
            bindO (cavillaw01_Code.m k r1.2.2) fun r3 =>
              bif (r3 == r2.2.2) then
                bindO (cavillaw09_works.m k) fun r4 =>
                  some r4
              else
                some false
          else
            some false
        else
          some false)
def m : Nat → List UInt8 → Int → Option (Bool)
  | 0, _, _ => none
  | k + 1, x0, x1 => b0 k x0 x1
def anns : Anns := []
noncomputable def code : ACode := codeOf Tryz.f3 anns
def rs : List ResultVar := [.tmp 4]
def decA : List AVal → Heap → Option ((List UInt8) × Int)
  | [.slice 0 1 .all, .int .i64 x1], [.row 0 1 false 5 (.u8 x0)] => some (x0, x1)
  | _, _ => none
def encA (a : (List UInt8) × Int) : List AVal × Heap := ([.slice 0 1 .all, .int .i64 a.2], [.row 0 1 false 5 (.u8 a.1)])
def decB : AVal → Heap → Option (Bool)
  | .bool y0, [_] => some y0
  | _, _ => none
def encB (b : Bool) : Out := (.bool b, [], [])
def encK : EncK (Bool) := fun _ b K => K (encB b)
def X : List Ct := [number_Scan.ct, cavilref09_Scan.ct, cavillaw01_Code.ct, cavillaw09_works.ct]
def ct : Ct := ⟨3, callRun cfg.tt [(22, false), (3, false)] decA (fun k a => m k a.1 a.2) false encK⟩
theorem ok : FnOk Tryz.prog cfg 3 47 code rs := .of Tryz.func3 (by kernel_rfl) rfl rfl (by kernel_rfl) (by kernel_rfl) rfl
abbrev kend : KK (Bool) := kEnd cfg.tt rs (kFin cfg.tt 1 false [4] [] [0] decB)
noncomputable abbrev rn := run cfg X 47 1 code kend
theorem s0 (k : Nat) (J : Nat → Fr → Heap → Option (Bool)) (x0 : List UInt8) (x1 : Int) : stepJ cfg X 47 1 code kend k J 0 (argFr 0 (encA (x0, x1)).1) (encA (x0, x1)).2 = b0 k x0 x1 := by kernel_rfl
theorem run_ok : ∀ (k : Nat) (a : (List UInt8) × Int), rn k 0 (argFr 0 (encA a).1) (encA a).2 = m k a.1 a.2
  | 0, _ => rfl
  | k + 1, (x0, x1) => by
    have h := s0 k (rn k) x0 x1
    exact h
theorem snd (k : Nat) : Snd Tryz.prog cfg k ct := fn_snd (X := X) cfgOk mixed ok (np := 1) (vps := []) (vws := [0]) (decA := decA) (encA := encA) (decB := decB) (encB := encB) (encK := encK) (fun _ b _ => rfl)
  (by
    intro xs H a h
    unfold decA at h
    split at h
    · cases h; exact ⟨rfl, rfl, rfl, rfl⟩
    · cases h)
  (by
    intro v H b h
    unfold decB at h
    split at h
    · cases h; exact ⟨rfl, fun _ _ _ h => (by cases h), rfl⟩
    · cases h)
  rfl k (fun k' _ => AllS.mem (l := X) ⟨number_Scan.snd k', cavilref09_Scan.snd k', cavillaw01_Code.snd k', cavillaw09_works.snd k', trivial⟩) (fun a => run_ok k a)
end cavillaw09_NumberScans

/-! cavil/cavillaw09.NumberFloats -/
namespace cavillaw09_NumberFloats
def b0 (k : Nat) (x0 : List UInt8) (x1 : Int) : Option (Bool) :=
  gk (cutB 0 (if 60 < (x0.length : Int) then 60 else (x0.length : Int)) x0.length)
    (bindO (number_Float.m k (cut x0 0 (if 60 < (x0.length : Int) then 60 else (x0.length : Int)))) fun r1 =>
      bindO (cavilref09_FloatOf.m k (cut x0 0 (if 60 < (x0.length : Int) then 60 else (x0.length : Int)))) fun r2 =>
        bindO (number_Value.m k x1 (cut x0 0 (if 60 < (x0.length : Int) then 60 else (x0.length : Int)))) fun r3 =>
          bindO (cavilref09_Value.m k x1 (cut x0 0 (if 60 < (x0.length : Int) then 60 else (x0.length : Int)))) fun r4 =>
            bif (((r1.1 == r2.1) && (r1.2.1 == r2.2.1)) && ((r1.2.2.1 == r2.2.2.1) && (r1.2.2.2.1 == r2.2.2.2.1))) then
              bindO (cavillaw01_Code.m k r1.2.2.2.2) fun r5 =>
                bif (r5 == r2.2.2.2.2) then
                  bif (((r3.1 == r4.1) && (r3.2.1 == r4.2.1)) && ((r3.2.2.1 == r4.2.2.1) && (r3.2.2.2.1 == r4.2.2.2.1))) then
                    bindO (cavillaw01_Code.m k r3.2.2.2.2) fun r6 =>
                      bif (r6 == r4.2.2.2.2) then
                        bindO (cavillaw09_works.m k) fun r7 =>
                          some r7
                      else
                        some false
                  else
                    some false
                else
                  some false
            else
              some false)
def m : Nat → List UInt8 → Int → Option (Bool)
  | 0, _, _ => none
  | k + 1, x0, x1 => b0 k x0 x1
def anns : Anns := []
noncomputable def code : ACode := codeOf Tryz.f5 anns
def rs : List ResultVar := [.tmp 4]
def decA : List AVal → Heap → Option ((List UInt8) × Int)
  | [.str x0, .int .i64 x1], [] => some (x0, x1)
  | _, _ => none
def encA (a : (List UInt8) × Int) : List AVal × Heap := ([.str a.1, .int .i64 a.2], [])
def decB : AVal → Heap → Option (Bool)
  | .bool y0, [] => some y0
  | _, _ => none
def encB (b : Bool) : Out := (.bool b, [], [])
def encK : EncK (Bool) := fun _ b K => K (encB b)
def X : List Ct := [number_Float.ct, cavilref09_FloatOf.ct, number_Value.ct, cavilref09_Value.ct, cavillaw01_Code.ct, cavillaw09_works.ct]
def ct : Ct := ⟨5, callRun cfg.tt [(9, false), (3, false)] decA (fun k a => m k a.1 a.2) false encK⟩
theorem ok : FnOk Tryz.prog cfg 5 63 code rs := .of Tryz.func5 (by kernel_rfl) rfl rfl (by kernel_rfl) (by kernel_rfl) rfl
abbrev kend : KK (Bool) := kEnd cfg.tt rs (kFin cfg.tt 0 false [4] [] [] decB)
noncomputable abbrev rn := run cfg X 63 0 code kend
theorem s0 (k : Nat) (J : Nat → Fr → Heap → Option (Bool)) (x0 : List UInt8) (x1 : Int) : stepJ cfg X 63 0 code kend k J 0 (argFr 0 (encA (x0, x1)).1) (encA (x0, x1)).2 = b0 k x0 x1 := by kernel_rfl
theorem run_ok : ∀ (k : Nat) (a : (List UInt8) × Int), rn k 0 (argFr 0 (encA a).1) (encA a).2 = m k a.1 a.2
  | 0, _ => rfl
  | k + 1, (x0, x1) => by
    have h := s0 k (rn k) x0 x1
    exact h
theorem snd (k : Nat) : Snd Tryz.prog cfg k ct := fn_snd (X := X) cfgOk mixed ok (np := 0) (vps := []) (vws := []) (decA := decA) (encA := encA) (decB := decB) (encB := encB) (encK := encK) (fun _ b _ => rfl)
  (by
    intro xs H a h
    unfold decA at h
    split at h
    · cases h; exact ⟨rfl, rfl, rfl, rfl⟩
    · cases h)
  (by
    intro v H b h
    unfold decB at h
    split at h
    · cases h; exact ⟨rfl, fun _ _ _ h => (by cases h), rfl⟩
    · cases h)
  rfl k (fun k' _ => AllS.mem (l := X) ⟨number_Float.snd k', cavilref09_FloatOf.snd k', number_Value.snd k', cavilref09_Value.snd k', cavillaw01_Code.snd k', cavillaw09_works.snd k', trivial⟩) (fun a => run_ok k a)
end cavillaw09_NumberFloats
end Go.Proofs.YtaakccdfgejgpaaGreatDoor
