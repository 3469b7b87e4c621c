/-
  Functions of the program as Lean functions with fuel; their contracts. Written by a program of this session.
-/
import Derived.Test.YtaakccdfgejgpaaGreatDoorG1
namespace Go.Proofs.YtaakccdfgejgpaaGreatDoor
open Go Abs
set_option linter.unusedVariables false
set_option maxRecDepth 100000
/-! cavil/ratio.Check -/
namespace ratio_Check
inductive St where
  | l1 (x0 : Bool) (x1 : List Int) (x2 : Bool) (x3 : List Int) (x4 : Bool)
def St.lab : St → Nat
  | .l1 _ _ _ _ _ => 1
def St.fr : St → Fr
  | .l1 x0 x1 x2 x3 x4 => [(1, .ptr 0 1 []), (5, .bool x4)]
def St.hp : St → Heap
  | .l1 x0 x1 x2 x3 x4 => [.var 0 46 (.agg (.pair (.agg (.pair (.bool x0) (.pair (.arr 8 (.int .u64 x1)) .nil))) (.pair (.agg (.pair (.bool x2) (.pair (.arr 8 (.int .u64 x3)) .nil))) .nil)))]
def b0 (k : Nat) (J : St → Option (Er)) (x0 : Bool) (x1 : List Int) (x2 : Bool) (x3 : List Int) : Option (Er) :=
  bindO (limb_Of.m k 0) fun r1 =>
    bindO (limb_Canon.m k x0 x1) fun r2 =>
      bif (!((r2.1 == x0) && (r2.2 == x1))) then
        J (.l1 x0 x1 x2 x3 true)
      else
        bindO (limb_Canon.m k x2 x3) fun r3 =>
          bif (!((r3.1 == x2) && (r3.2 == x3))) then
            J (.l1 x0 x1 x2 x3 true)
          else
            bindO (limb_Cmp.m k x2 x3 r1.1 r1.2) fun r4 =>
              J (.l1 x0 x1 x2 x3 (decide (r4 ≤ 0)))
def b1 (k : Nat) (J : St → Option (Er)) (x0 : Bool) (x1 : List Int) (x2 : Bool) (x3 : List Int) (x4 : Bool) : Option (Er) :=
  bif x4 then
    some (.no 8)
  else
    bindO (limb_Gcd.m k x0 x1 x2 x3) fun r1 =>
      bindO (limb_Of.m k 1) fun r2 =>
        bindO (limb_Cmp.m k r1.1 r1.2 r2.1 r2.2) fun r3 =>
          bif (r3 != 0) then
            some (.no 8)
          else
            some .nil
def go : Nat → St → Option (Er)
  | 0, _ => none
  | k + 1, .l1 x0 x1 x2 x3 x4 => b1 k (go k) x0 x1 x2 x3 x4
def m : Nat → Bool → List Int → Bool → List Int → Option (Er)
  | 0, _, _, _, _ => none
  | k + 1, x0, x1, x2, x3 => b0 k (go k) x0 x1 x2 x3
def anns : Anns := [(3, 1, [(1, 0, false), (5, 4, false)])]
noncomputable def code : ACode := codeOf Tryz.f75 anns
def rs : List ResultVar := [.tmp 2]
def decA : List AVal → Heap → Option (Bool × (List Int) × Bool × (List Int))
  | [.agg (.pair (.agg (.pair (.bool x0) (.pair (.arr 8 (.int .u64 x1)) .nil))) (.pair (.agg (.pair (.bool x2) (.pair (.arr 8 (.int .u64 x3)) .nil))) .nil))], [] => some (x0, x1, x2, x3)
  | _, _ => none
def encA (a : Bool × (List Int) × Bool × (List Int)) : List AVal × Heap := ([.agg (.pair (.agg (.pair (.bool a.1) (.pair (.arr 8 (.int .u64 a.2.1)) .nil))) (.pair (.agg (.pair (.bool a.2.2.1) (.pair (.arr 8 (.int .u64 a.2.2.2)) .nil))) .nil))], [])
def decB : AVal → Heap → Option (Er)
  | .err y0, [] => some y0
  | _, _ => none
def encB (b : Er) : Out := (.err b, [], [])
def encK : EncK (Er) := fun _ b K => K (encB b)
def X : List Ct := [limb_Of.ct, limb_Canon.ct, limb_Cmp.ct, limb_Gcd.ct]
def ct : Ct := ⟨75, callRun cfg.tt [(46, false)] decA (fun k a => m k a.1 a.2.1 a.2.2.1 a.2.2.2) false encK⟩
theorem ok : FnOk Tryz.prog cfg 75 38 code rs := .of Tryz.func75 (by kernel_rfl) rfl rfl (by kernel_rfl) (by kernel_rfl) rfl
abbrev kend : KK (Er) := kEnd cfg.tt rs (kFin cfg.tt 0 false [24] [] [] decB)
noncomputable abbrev rn := run cfg X 38 0 code kend
theorem s0 (k : Nat) (J : Nat → Fr → Heap → Option (Er)) (x0 : Bool) (x1 : List Int) (x2 : Bool) (x3 : List Int) : stepJ cfg X 38 0 code kend k J 0 (argFr 0 (encA (x0, x1, x2, x3)).1) (encA (x0, x1, x2, x3)).2 = b0 k (fun s => J s.lab s.fr s.hp) x0 x1 x2 x3 := by kernel_rfl
theorem s1 (k : Nat) (J : Nat → Fr → Heap → Option (Er)) (x0 : Bool) (x1 : List Int) (x2 : Bool) (x3 : List Int) (x4 : Bool) : stepJ cfg X 38 0 code kend k J (St.l1 x0 x1 x2 x3 x4).lab (St.l1 x0 x1 x2 x3 x4).fr (St.l1 x0 x1 x2 x3 x4).hp = b1 k (fun s => J s.lab s.fr s.hp) x0 x1 x2 x3 x4 := by kernel_rfl
theorem go_ok : ∀ (k : Nat) (s : St), rn k s.lab s.fr s.hp = go k s
  | 0, _ => rfl
  | k + 1, .l1 x0 x1 x2 x3 x4 => by
    have h := s1 k (rn k) x0 x1 x2 x3 x4
    rw [show (fun s : St => rn k s.lab s.fr s.hp) = go k from funext (go_ok k)] at h
    exact h
theorem run_ok : ∀ (k : Nat) (a : Bool × (List Int) × Bool × (List Int)), rn k 0 (argFr 0 (encA a).1) (encA a).2 = m k a.1 a.2.1 a.2.2.1 a.2.2.2
  | 0, _ => rfl
  | k + 1, (x0, x1, x2, x3) => by
    have h := s0 k (rn k) x0 x1 x2 x3
    rw [show (fun s : St => rn k s.lab s.fr s.hp) = go k from funext (go_ok k)] at h
    exact h
theorem snd (k : Nat) : Snd Tryz.prog cfg k ct := fn_snd (X := X) cfgOk mixed ok (np := 0) (vps := []) (vws := []) (decA := decA) (encA := encA) (decB := decB) (encB := encB) (encK := encK) (fun _ b _ => rfl)
  (by
    intro xs H a h
    unfold decA at h
    split at h
    · cases h; exact ⟨rfl, rfl, rfl, rfl⟩
    · cases h)
  (by
    intro v H b h
    unfold decB at h
    split at h
    · cases h; exact ⟨rfl, fun _ _ _ h => (by cases h), rfl⟩
    · cases h)
  rfl k (fun k' _ => AllS.mem (l := X) ⟨limb_Of.snd k', limb_Canon.snd k', limb_Cmp.snd k', limb_Gcd.snd k', trivial⟩) (fun a => run_ok k a)
end ratio_Check

/-! cavil/ratio.begin -/
namespace ratio_begin
inductive Rs where
  | r1 (y0 : Er)
  | r2 (y0 : Er) (y1 : Er)
def b0 (k : Nat) (x0 : Bool) (x1 : List Int) (x2 : Bool) (x3 : List Int) (x4 : Bool) (x5 : List Int) (x6 : Bool) (x7 : List Int) : Option (Rs) :=
  bindO (ratio_Check.m k x0 x1 x2 x3) fun r1 =>
    bif (!r1.isNil) then
      some (.r1 r1)
    else
      bindO (ratio_Check.m k x4 x5 x6 x7) fun r2 =>
        some (.r2 r2 .nil)
def m : Nat → Bool → List Int → Bool → List Int → Bool → List Int → Bool → List Int → Option (Rs)
  | 0, _, _, _, _, _, _, _, _ => none
  | k + 1, x0, x1, x2, x3, x4, x5, x6, x7 => b0 k x0 x1 x2 x3 x4 x5 x6 x7
def anns : Anns := []
noncomputable def code : ACode := codeOf Tryz.f98 anns
def rs : List ResultVar := [.tmp 4, .tmp 5]
def decA : List AVal → Heap → Option (Bool × (List Int) × Bool × (List Int) × Bool × (List Int) × Bool × (List Int))
  | [.agg (.pair (.agg (.pair (.bool x0) (.pair (.arr 8 (.int .u64 x1)) .nil))) (.pair (.agg (.pair (.bool x2) (.pair (.arr 8 (.int .u64 x3)) .nil))) .nil)), .agg (.pair (.agg (.pair (.bool x4) (.pair (.arr 8 (.int .u64 x5)) .nil))) (.pair (.agg (.pair (.bool x6) (.pair (.arr 8 (.int .u64 x7)) .nil))) .nil))], [] => some (x0, x1, x2, x3, x4, x5, x6, x7)
  | _, _ => none
def encA (a : Bool × (List Int) × Bool × (List Int) × Bool × (List Int) × Bool × (List Int)) : List AVal × Heap := ([.agg (.pair (.agg (.pair (.bool a.1) (.pair (.arr 8 (.int .u64 a.2.1)) .nil))) (.pair (.agg (.pair (.bool a.2.2.1) (.pair (.arr 8 (.int .u64 a.2.2.2.1)) .nil))) .nil)), .agg (.pair (.agg (.pair (.bool a.2.2.2.2.1) (.pair (.arr 8 (.int .u64 a.2.2.2.2.2.1)) .nil))) (.pair (.agg (.pair (.bool a.2.2.2.2.2.2.1) (.pair (.arr 8 (.int .u64 a.2.2.2.2.2.2.2)) .nil))) .nil))], [])
def decB : AVal → Heap → Option (Rs)
  | .tup (.pair .nilp (.pair (.err y0) .nil)), [] => some (.r1 y0)
  | .tup (.pair (.ptr 0 1 []) (.pair (.err y0) .nil)), [.var 0 157 (.agg (.pair (.agg (.pair (.err y1) .nil)) .nil))] => some (.r2 y0 y1)
  | _, _ => none
def encB : Rs → Out
  | .r1 y0 => (.tup (.pair .nilp (.pair (.err y0) .nil)), [], [])
  | .r2 y0 y1 => (.tup (.pair (.ptr 0 1 []) (.pair (.err y0) .nil)), [], [.var 0 157 (.agg (.pair (.agg (.pair (.err y1) .nil)) .nil))])
def encK : EncK Rs := fun _ b K => match b with
  | .r1 y0 => K (.tup (.pair .nilp (.pair (.err y0) .nil)), [], [])
  | .r2 y0 y1 => K (.tup (.pair (.ptr 0 1 []) (.pair (.err y0) .nil)), [], [.var 0 157 (.agg (.pair (.agg (.pair (.err y1) .nil)) .nil))])
def X : List Ct := [ratio_Check.ct]
def ct : Ct := ⟨98, callRun cfg.tt [(46, false), (46, false)] decA (fun k a => m k a.1 a.2.1 a.2.2.1 a.2.2.2.1 a.2.2.2.2.1 a.2.2.2.2.2.1 a.2.2.2.2.2.2.1 a.2.2.2.2.2.2.2) false encK⟩
theorem ok : FnOk Tryz.prog cfg 98 16 code rs := .of Tryz.func98 (by kernel_rfl) rfl rfl (by kernel_rfl) (by kernel_rfl) rfl
abbrev kend : KK (Rs) := kEnd cfg.tt rs (kFin cfg.tt 0 false [135, 24] [] [] decB)
noncomputable abbrev rn := run cfg X 16 0 code kend
theorem s0 (k : Nat) (J : Nat → Fr → Heap → Option (Rs)) (x0 : Bool) (x1 : List Int) (x2 : Bool) (x3 : List Int) (x4 : Bool) (x5 : List Int) (x6 : Bool) (x7 : List Int) : stepJ cfg X 16 0 code kend k J 0 (argFr 0 (encA (x0, x1, x2, x3, x4, x5, x6, x7)).1) (encA (x0, x1, x2, x3, x4, x5, x6, x7)).2 = b0 k x0 x1 x2 x3 x4 x5 x6 x7 := by kernel_rfl
theorem run_ok : ∀ (k : Nat) (a : Bool × (List Int) × Bool × (List Int) × Bool × (List Int) × Bool × (List Int)), rn k 0 (argFr 0 (encA a).1) (encA a).2 = m k a.1 a.2.1 a.2.2.1 a.2.2.2.1 a.2.2.2.2.1 a.2.2.2.2.2.1 a.2.2.2.2.2.2.1 a.2.2.2.2.2.2.2
  | 0, _ => rfl
  | k + 1, (x0, x1, x2, x3, x4, x5, x6, x7) => by
    have h := s0 k (rn k) x0 x1 x2 x3 x4 x5 x6 x7
    exact h
theorem snd (k : Nat) : Snd Tryz.prog cfg k ct := fn_snd (X := X) cfgOk mixed ok (np := 0) (vps := []) (vws := []) (decA := decA) (encA := encA) (decB := decB) (encB := encB) (encK := encK) (fun _ b _ => by cases b <;> rfl)
  (by
    intro xs H a h
    unfold decA at h
    split at h
    · cases h; exact ⟨rfl, rfl, rfl, rfl⟩
    · cases h)
  (by
    intro v H b h
    unfold decB at h
    split at h
    · cases h; exact ⟨rfl, fun _ _ _ h => (by cases h), rfl⟩
    · cases h; exact ⟨rfl, fun _ _ _ h => (by cases h), rfl⟩
    · cases h)
  rfl k (fun k' _ => AllS.mem (l := X) ⟨ratio_Check.snd k', trivial⟩) (fun a => run_ok k a)
end ratio_begin

/-! cavil/ratio.Make -/
namespace ratio_Make
def b0 (k : Nat) (x0 : Bool) (x1 : List Int) (x2 : Bool) (x3 : List Int) : Option (Bool × (List Int) × Bool × (List Int) × Er) :=
  bindO (limb_Gcd.m k x0 x1 x2 x3) fun r1 =>
    bif (x3 == (List.replicate 8 (0 : Int))) then
      some (false, (List.replicate 8 (0 : Int)), false, (List.replicate 8 (0 : Int)), (.no 10))
    else
      bindO (limb_Div.m k x0 x1 r1.1 r1.2) fun r2 =>
        bindO (limb_Div.m k x2 x3 r1.1 r1.2) fun r3 =>
          bif r3.1 then
            bindO (limb_Neg.m k r2.1 r2.2.1) fun r4 =>
              bindO (limb_Neg.m k r3.1 r3.2.1) fun r5 =>
                some (r4.1, r4.2, r5.1, r5.2, .nil)
          else
            some (r2.1, r2.2.1, r3.1, r3.2.1, .nil)
def m : Nat → Bool → List Int → Bool → List Int → Option (Bool × (List Int) × Bool × (List Int) × Er)
  | 0, _, _, _, _ => none
  | k + 1, x0, x1, x2, x3 => b0 k x0 x1 x2 x3
def anns : Anns := []
noncomputable def code : ACode := codeOf Tryz.f40 anns
def rs : List ResultVar := [.cell 4 46, .tmp 5]
def decA : List AVal → Heap → Option (Bool × (List Int) × Bool × (List Int))
  | [.agg (.pair (.bool x0) (.pair (.arr 8 (.int .u64 x1)) .nil)), .agg (.pair (.bool x2) (.pair (.arr 8 (.int .u64 x3)) .nil))], [] => some (x0, x1, x2, x3)
  | _, _ => none
def encA (a : Bool × (List Int) × Bool × (List Int)) : List AVal × Heap := ([.agg (.pair (.bool a.1) (.pair (.arr 8 (.int .u64 a.2.1)) .nil)), .agg (.pair (.bool a.2.2.1) (.pair (.arr 8 (.int .u64 a.2.2.2)) .nil))], [])
def decB : AVal → Heap → Option (Bool × (List Int) × Bool × (List Int) × Er)
  | .tup (.pair (.agg (.pair (.agg (.pair (.bool y0) (.pair (.arr 8 (.int .u64 y1)) .nil))) (.pair (.agg (.pair (.bool y2) (.pair (.arr 8 (.int .u64 y3)) .nil))) .nil))) (.pair (.err y4) .nil)), [] => some (y0, y1, y2, y3, y4)
  | _, _ => none
def encB (b : Bool × (List Int) × Bool × (List Int) × Er) : Out := (.tup (.pair (.agg (.pair (.agg (.pair (.bool b.1) (.pair (.arr 8 (.int .u64 b.2.1)) .nil))) (.pair (.agg (.pair (.bool b.2.2.1) (.pair (.arr 8 (.int .u64 b.2.2.2.1)) .nil))) .nil))) (.pair (.err b.2.2.2.2) .nil)), [], [])
def encK : EncK (Bool × (List Int) × Bool × (List Int) × Er) := fun _ b K => K (encB b)
def X : List Ct := [limb_Gcd.ct, limb_Div.ct, limb_Neg.ct]
def ct : Ct := ⟨40, callRun cfg.tt [(35, false), (35, false)] decA (fun k a => m k a.1 a.2.1 a.2.2.1 a.2.2.2) false encK⟩
theorem ok : FnOk Tryz.prog cfg 40 46 code rs := .of Tryz.func40 (by kernel_rfl) rfl rfl (by kernel_rfl) (by kernel_rfl) rfl
abbrev kend : KK (Bool × (List Int) × Bool × (List Int) × Er) := kEnd cfg.tt rs (kFin cfg.tt 0 false [46, 24] [] [] decB)
noncomputable abbrev rn := run cfg X 46 0 code kend
theorem s0 (k : Nat) (J : Nat → Fr → Heap → Option (Bool × (List Int) × Bool × (List Int) × Er)) (x0 : Bool) (x1 : List Int) (x2 : Bool) (x3 : List Int) : stepJ cfg X 46 0 code kend k J 0 (argFr 0 (encA (x0, x1, x2, x3)).1) (encA (x0, x1, x2, x3)).2 = b0 k x0 x1 x2 x3 := by kernel_rfl
theorem run_ok : ∀ (k : Nat) (a : Bool × (List Int) × Bool × (List Int)), rn k 0 (argFr 0 (encA a).1) (encA a).2 = m k a.1 a.2.1 a.2.2.1 a.2.2.2
  | 0, _ => rfl
  | k + 1, (x0, x1, x2, x3) => by
    have h := s0 k (rn k) x0 x1 x2 x3
    exact h
theorem snd (k : Nat) : Snd Tryz.prog cfg k ct := fn_snd (X := X) cfgOk mixed ok (np := 0) (vps := []) (vws := []) (decA := decA) (encA := encA) (decB := decB) (encB := encB) (encK := encK) (fun _ b _ => rfl)
  (by
    intro xs H a h
    unfold decA at h
    split at h
    · cases h; exact ⟨rfl, rfl, rfl, rfl⟩
    · cases h)
  (by
    intro v H b h
    unfold decB at h
    split at h
    · cases h; exact ⟨rfl, fun _ _ _ h => (by cases h), rfl⟩
    · cases h)
  rfl k (fun k' _ => AllS.mem (l := X) ⟨limb_Gcd.snd k', limb_Div.snd k', limb_Neg.snd k', trivial⟩) (fun a => run_ok k a)
end ratio_Make

/-! (*cavil/ratio.sums).done -/
namespace ratio_sums_done
def b0 (k : Nat) (x0 : Er) (x1 : Bool) (x2 : List Int) (x3 : Bool) (x4 : List Int) : Option (Bool × (List Int) × Bool × (List Int) × Er × Er) :=
  gk (isSm x0)
    (bif (isEq x0 9) then
      some (false, (List.replicate 8 (0 : Int)), false, (List.replicate 8 (0 : Int)), x0, x0)
    else
      bindO (ratio_Make.m k x1 x2 x3 x4) fun r1 =>
        some (r1.1, r1.2.1, r1.2.2.1, r1.2.2.2.1, r1.2.2.2.2, x0))
def m : Nat → Er → Bool → List Int → Bool → List Int → Option (Bool × (List Int) × Bool × (List Int) × Er × Er)
  | 0, _, _, _, _, _ => none
  | k + 1, x0, x1, x2, x3, x4 => b0 k x0 x1 x2 x3 x4
def anns : Anns := []
noncomputable def code : ACode := codeOf Tryz.f100 anns
def rs : List ResultVar := [.cell 6 46, .tmp 7]
def decA : List AVal → Heap → Option (Er × Bool × (List Int) × Bool × (List Int))
  | [.ptr 0 1 [], .agg (.pair (.bool x1) (.pair (.arr 8 (.int .u64 x2)) .nil)), .agg (.pair (.bool x3) (.pair (.arr 8 (.int .u64 x4)) .nil))], [.var 0 157 (.agg (.pair (.agg (.pair (.err x0) .nil)) .nil))] => some (x0, x1, x2, x3, x4)
  | _, _ => none
def encA (a : Er × Bool × (List Int) × Bool × (List Int)) : List AVal × Heap := ([.ptr 0 1 [], .agg (.pair (.bool a.2.1) (.pair (.arr 8 (.int .u64 a.2.2.1)) .nil)), .agg (.pair (.bool a.2.2.2.1) (.pair (.arr 8 (.int .u64 a.2.2.2.2)) .nil))], [.var 0 157 (.agg (.pair (.agg (.pair (.err a.1) .nil)) .nil))])
def decB : AVal → Heap → Option (Bool × (List Int) × Bool × (List Int) × Er × Er)
  | .tup (.pair (.agg (.pair (.agg (.pair (.bool y0) (.pair (.arr 8 (.int .u64 y1)) .nil))) (.pair (.agg (.pair (.bool y2) (.pair (.arr 8 (.int .u64 y3)) .nil))) .nil))) (.pair (.err y4) .nil)), [.var 0 157 (.agg (.pair (.agg (.pair (.err y5) .nil)) .nil))] => some (y0, y1, y2, y3, y4, y5)
  | _, _ => none
def encB (b : Bool × (List Int) × Bool × (List Int) × Er × Er) : Out := (.tup (.pair (.agg (.pair (.agg (.pair (.bool b.1) (.pair (.arr 8 (.int .u64 b.2.1)) .nil))) (.pair (.agg (.pair (.bool b.2.2.1) (.pair (.arr 8 (.int .u64 b.2.2.2.1)) .nil))) .nil))) (.pair (.err b.2.2.2.2.1) .nil)), [(0, 157, .agg (.pair (.agg (.pair (.err b.2.2.2.2.2) .nil)) .nil))], [])
def encK : EncK (Bool × (List Int) × Bool × (List Int) × Er × Er) := fun _ b K => K (encB b)
def X : List Ct := [lib_is.ct, ratio_Make.ct]
def ct : Ct := ⟨100, callRun cfg.tt [(135, false), (35, false), (35, false)] decA (fun k a => m k a.1 a.2.1 a.2.2.1 a.2.2.2.1 a.2.2.2.2) false encK⟩
theorem ok : FnOk Tryz.prog cfg 100 26 code rs := .of Tryz.func100 (by kernel_rfl) rfl rfl (by kernel_rfl) (by kernel_rfl) rfl
abbrev kend : KK (Bool × (List Int) × Bool × (List Int) × Er × Er) := kEnd cfg.tt rs (kFin cfg.tt 1 false [46, 24] [0] [] decB)
noncomputable abbrev rn := run cfg X 26 1 code kend
theorem s0 (k : Nat) (J : Nat → Fr → Heap → Option (Bool × (List Int) × Bool × (List Int) × Er × Er)) (x0 : Er) (x1 : Bool) (x2 : List Int) (x3 : Bool) (x4 : List Int) : stepJ cfg X 26 1 code kend k J 0 (argFr 0 (encA (x0, x1, x2, x3, x4)).1) (encA (x0, x1, x2, x3, x4)).2 = b0 k x0 x1 x2 x3 x4 := by kernel_rfl
theorem run_ok : ∀ (k : Nat) (a : Er × Bool × (List Int) × Bool × (List Int)), rn k 0 (argFr 0 (encA a).1) (encA a).2 = m k a.1 a.2.1 a.2.2.1 a.2.2.2.1 a.2.2.2.2
  | 0, _ => rfl
  | k + 1, (x0, x1, x2, x3, x4) => by
    have h := s0 k (rn k) x0 x1 x2 x3 x4
    exact h
theorem snd (k : Nat) : Snd Tryz.prog cfg k ct := fn_snd (X := X) cfgOk mixed ok (np := 1) (vps := [0]) (vws := []) (decA := decA) (encA := encA) (decB := decB) (encB := encB) (encK := encK) (fun _ b _ => rfl)
  (by
    intro xs H a h
    unfold decA at h
    split at h
    · cases h; exact ⟨rfl, rfl, rfl, rfl⟩
    · cases h)
  (by
    intro v H b h
    unfold decB at h
    split at h
    · cases h; exact ⟨rfl, (by intro j T u h; simp only [encB, List.mem_cons, List.not_mem_nil, or_false, Prod.mk.injEq] at h; rcases h with h <;> (obtain ⟨rfl, rfl, rfl⟩ := h; rfl)), rfl⟩
    · cases h)
  rfl k (fun k' _ => AllS.mem (l := X) ⟨lib_is.snd k', ratio_Make.snd k', trivial⟩) (fun a => run_ok k a)
end ratio_sums_done

/-! cavil/ratio.Mul -/
namespace ratio_Mul
def b0 (k : Nat) (x0 : Bool) (x1 : List Int) (x2 : Bool) (x3 : List Int) (x4 : Bool) (x5 : List Int) (x6 : Bool) (x7 : List Int) : Option (Bool × (List Int) × Bool × (List Int) × Er) :=
  bindO (ratio_begin.m k x0 x1 x2 x3 x4 x5 x6 x7) fun r1 => match r1 with
    | .r1 r1_0 =>
      (bif (!r1_0.isNil) then
        some (false, (List.replicate 8 (0 : Int)), false, (List.replicate 8 (0 : Int)), r1_0)
      else
        none)
    | .r2 r1_0 r1_1 =>
      (bif (!r1_0.isNil) then
        some (false, (List.replicate 8 (0 : Int)), false, (List.replicate 8 (0 : Int)), r1_0)
      else
        bindO (ratio_sums_mul.m k r1_1 x0 x1 x4 x5) fun r2 =>
          bindO (ratio_sums_mul.m k r2.2.2 x2 x3 x6 x7) fun r3 =>
            bindO (ratio_sums_done.m k r3.2.2 r2.1 r2.2.1 r3.1 r3.2.1) fun r4 =>
              some (r4.1, r4.2.1, r4.2.2.1, r4.2.2.2.1, r4.2.2.2.2.1))
def m : Nat → Bool → List Int → Bool → List Int → Bool → List Int → Bool → List Int → Option (Bool × (List Int) × Bool × (List Int) × Er)
  | 0, _, _, _, _, _, _, _, _ => none
  | k + 1, x0, x1, x2, x3, x4, x5, x6, x7 => b0 k x0 x1 x2 x3 x4 x5 x6 x7
def anns : Anns := []
noncomputable def code : ACode := codeOf Tryz.f76 anns
def rs : List ResultVar := [.cell 4 46, .tmp 5]
def decA : List AVal → Heap → Option (Bool × (List Int) × Bool × (List Int) × Bool × (List Int) × Bool × (List Int))
  | [.agg (.pair (.agg (.pair (.bool x0) (.pair (.arr 8 (.int .u64 x1)) .nil))) (.pair (.agg (.pair (.bool x2) (.pair (.arr 8 (.int .u64 x3)) .nil))) .nil)), .agg (.pair (.agg (.pair (.bool x4) (.pair (.arr 8 (.int .u64 x5)) .nil))) (.pair (.agg (.pair (.bool x6) (.pair (.arr 8 (.int .u64 x7)) .nil))) .nil))], [] => some (x0, x1, x2, x3, x4, x5, x6, x7)
  | _, _ => none
def encA (a : Bool × (List Int) × Bool × (List Int) × Bool × (List Int) × Bool × (List Int)) : List AVal × Heap := ([.agg (.pair (.agg (.pair (.bool a.1) (.pair (.arr 8 (.int .u64 a.2.1)) .nil))) (.pair (.agg (.pair (.bool a.2.2.1) (.pair (.arr 8 (.int .u64 a.2.2.2.1)) .nil))) .nil)), .agg (.pair (.agg (.pair (.bool a.2.2.2.2.1) (.pair (.arr 8 (.int .u64 a.2.2.2.2.2.1)) .nil))) (.pair (.agg (.pair (.bool a.2.2.2.2.2.2.1) (.pair (.arr 8 (.int .u64 a.2.2.2.2.2.2.2)) .nil))) .nil))], [])
def decB : AVal → Heap → Option (Bool × (List Int) × Bool × (List Int) × Er)
  | .tup (.pair (.agg (.pair (.agg (.pair (.bool y0) (.pair (.arr 8 (.int .u64 y1)) .nil))) (.pair (.agg (.pair (.bool y2) (.pair (.arr 8 (.int .u64 y3)) .nil))) .nil))) (.pair (.err y4) .nil)), [] => some (y0, y1, y2, y3, y4)
  | _, _ => none
def encB (b : Bool × (List Int) × Bool × (List Int) × Er) : Out := (.tup (.pair (.agg (.pair (.agg (.pair (.bool b.1) (.pair (.arr 8 (.int .u64 b.2.1)) .nil))) (.pair (.agg (.pair (.bool b.2.2.1) (.pair (.arr 8 (.int .u64 b.2.2.2.1)) .nil))) .nil))) (.pair (.err b.2.2.2.2) .nil)), [], [])
def encK : EncK (Bool × (List Int) × Bool × (List Int) × Er) := fun _ b K => K (encB b)
def X : List Ct := [ratio_begin.ct, ratio_sums_mul.ct, ratio_sums_done.ct]
def ct : Ct := ⟨76, callRun cfg.tt [(46, false), (46, false)] decA (fun k a => m k a.1 a.2.1 a.2.2.1 a.2.2.2.1 a.2.2.2.2.1 a.2.2.2.2.2.1 a.2.2.2.2.2.2.1 a.2.2.2.2.2.2.2) false encK⟩
theorem ok : FnOk Tryz.prog cfg 76 36 code rs := .of Tryz.func76 (by kernel_rfl) rfl rfl (by kernel_rfl) (by kernel_rfl) rfl
abbrev kend : KK (Bool × (List Int) × Bool × (List Int) × Er) := kEnd cfg.tt rs (kFin cfg.tt 0 false [46, 24] [] [] decB)
noncomputable abbrev rn := run cfg X 36 0 code kend
theorem s0 (k : Nat) (J : Nat → Fr → Heap → Option (Bool × (List Int) × Bool × (List Int) × Er)) (x0 : Bool) (x1 : List Int) (x2 : Bool) (x3 : List Int) (x4 : Bool) (x5 : List Int) (x6 : Bool) (x7 : List Int) : stepJ cfg X 36 0 code kend k J 0 (argFr 0 (encA (x0, x1, x2, x3, x4, x5, x6, x7)).1) (encA (x0, x1, x2, x3, x4, x5, x6, x7)).2 = b0 k x0 x1 x2 x3 x4 x5 x6 x7 := by kernel_rfl
theorem run_ok : ∀ (k : Nat) (a : Bool × (List Int) × Bool × (List Int) × Bool × (List Int) × Bool × (List Int)), rn k 0 (argFr 0 (encA a).1) (encA a).2 = m k a.1 a.2.1 a.2.2.1 a.2.2.2.1 a.2.2.2.2.1 a.2.2.2.2.2.1 a.2.2.2.2.2.2.1 a.2.2.2.2.2.2.2
  | 0, _ => rfl
  | k + 1, (x0, x1, x2, x3, x4, x5, x6, x7) => by
    have h := s0 k (rn k) x0 x1 x2 x3 x4 x5 x6 x7
    exact h
theorem snd (k : Nat) : Snd Tryz.prog cfg k ct := fn_snd (X := X) cfgOk mixed ok (np := 0) (vps := []) (vws := []) (decA := decA) (encA := encA) (decB := decB) (encB := encB) (encK := encK) (fun _ b _ => rfl)
  (by
    intro xs H a h
    unfold decA at h
    split at h
    · cases h; exact ⟨rfl, rfl, rfl, rfl⟩
    · cases h)
  (by
    intro v H b h
    unfold decB at h
    split at h
    · cases h; exact ⟨rfl, fun _ _ _ h => (by cases h), rfl⟩
    · cases h)
  rfl k (fun k' _ => AllS.mem (l := X) ⟨ratio_begin.snd k', ratio_sums_mul.snd k', ratio_sums_done.snd k', trivial⟩) (fun a => run_ok k a)
end ratio_Mul

/-! cavil/ratio.Quo -/
namespace ratio_Quo
def b0 (k : Nat) (x0 : Bool) (x1 : List Int) (x2 : Bool) (x3 : List Int) (x4 : Bool) (x5 : List Int) (x6 : Bool) (x7 : List Int) : Option (Bool × (List Int) × Bool × (List Int) × Er) :=
  bindO (ratio_begin.m k x0 x1 x2 x3 x4 x5 x6 x7) fun r1 => match r1 with
    | .r1 r1_0 =>
      (bif (!r1_0.isNil) then
        some (false, (List.replicate 8 (0 : Int)), false, (List.replicate 8 (0 : Int)), r1_0)
      else
        bindO (limb_Of.m k 0) fun r2 =>
          bindO (limb_Cmp.m k x4 x5 r2.1 r2.2) fun r3 =>
            bif (r3 == 0) then
              some (false, (List.replicate 8 (0 : Int)), false, (List.replicate 8 (0 : Int)), (.no 10))
            else
              none)
    | .r2 r1_0 r1_1 =>
      (bif (!r1_0.isNil) then
        some (false, (List.replicate 8 (0 : Int)), false, (List.replicate 8 (0 : Int)), r1_0)
      else
        bindO (limb_Of.m k 0) fun r4 =>
          bindO (limb_Cmp.m k x4 x5 r4.1 r4.2) fun r5 =>
            bif (r5 == 0) then
              some (false, (List.replicate 8 (0 : Int)), false, (List.replicate 8 (0 : Int)), (.no 10))
            else
              bindO (ratio_sums_mul.m k r1_1 x0 x1 x6 x7) fun r6 =>
                bindO (ratio_sums_mul.m k r6.2.2 x2 x3 x4 x5) fun r7 =>
                  bindO (ratio_sums_done.m k r7.2.2 r6.1 r6.2.1 r7.1 r7.2.1) fun r8 =>
                    some (r8.1, r8.2.1, r8.2.2.1, r8.2.2.2.1, r8.2.2.2.2.1))
def m : Nat → Bool → List Int → Bool → List Int → Bool → List Int → Bool → List Int → Option (Bool × (List Int) × Bool × (List Int) × Er)
  | 0, _, _, _, _, _, _, _, _ => none
  | k + 1, x0, x1, x2, x3, x4, x5, x6, x7 => b0 k x0 x1 x2 x3 x4 x5 x6 x7
def anns : Anns := []
noncomputable def code : ACode := codeOf Tryz.f77 anns
def rs : List ResultVar := [.cell 4 46, .tmp 5]
def decA : List AVal → Heap → Option (Bool × (List Int) × Bool × (List Int) × Bool × (List Int) × Bool × (List Int))
  | [.agg (.pair (.agg (.pair (.bool x0) (.pair (.arr 8 (.int .u64 x1)) .nil))) (.pair (.agg (.pair (.bool x2) (.pair (.arr 8 (.int .u64 x3)) .nil))) .nil)), .agg (.pair (.agg (.pair (.bool x4) (.pair (.arr 8 (.int .u64 x5)) .nil))) (.pair (.agg (.pair (.bool x6) (.pair (.arr 8 (.int .u64 x7)) .nil))) .nil))], [] => some (x0, x1, x2, x3, x4, x5, x6, x7)
  | _, _ => none
def encA (a : Bool × (List Int) × Bool × (List Int) × Bool × (List Int) × Bool × (List Int)) : List AVal × Heap := ([.agg (.pair (.agg (.pair (.bool a.1) (.pair (.arr 8 (.int .u64 a.2.1)) .nil))) (.pair (.agg (.pair (.bool a.2.2.1) (.pair (.arr 8 (.int .u64 a.2.2.2.1)) .nil))) .nil)), .agg (.pair (.agg (.pair (.bool a.2.2.2.2.1) (.pair (.arr 8 (.int .u64 a.2.2.2.2.2.1)) .nil))) (.pair (.agg (.pair (.bool a.2.2.2.2.2.2.1) (.pair (.arr 8 (.int .u64 a.2.2.2.2.2.2.2)) .nil))) .nil))], [])
def decB : AVal → Heap → Option (Bool × (List Int) × Bool × (List Int) × Er)
  | .tup (.pair (.agg (.pair (.agg (.pair (.bool y0) (.pair (.arr 8 (.int .u64 y1)) .nil))) (.pair (.agg (.pair (.bool y2) (.pair (.arr 8 (.int .u64 y3)) .nil))) .nil))) (.pair (.err y4) .nil)), [] => some (y0, y1, y2, y3, y4)
  | _, _ => none
def encB (b : Bool × (List Int) × Bool × (List Int) × Er) : Out := (.tup (.pair (.agg (.pair (.agg (.pair (.bool b.1) (.pair (.arr 8 (.int .u64 b.2.1)) .nil))) (.pair (.agg (.pair (.bool b.2.2.1) (.pair (.arr 8 (.int .u64 b.2.2.2.1)) .nil))) .nil))) (.pair (.err b.2.2.2.2) .nil)), [], [])
def encK : EncK (Bool × (List Int) × Bool × (List Int) × Er) := fun _ b K => K (encB b)
def X : List Ct := [ratio_begin.ct, limb_Of.ct, limb_Cmp.ct, ratio_sums_mul.ct, ratio_sums_done.ct]
def ct : Ct := ⟨77, callRun cfg.tt [(46, false), (46, false)] decA (fun k a => m k a.1 a.2.1 a.2.2.1 a.2.2.2.1 a.2.2.2.2.1 a.2.2.2.2.2.1 a.2.2.2.2.2.2.1 a.2.2.2.2.2.2.2) false encK⟩
theorem ok : FnOk Tryz.prog cfg 77 45 code rs := .of Tryz.func77 (by kernel_rfl) rfl rfl (by kernel_rfl) (by kernel_rfl) rfl
abbrev kend : KK (Bool × (List Int) × Bool × (List Int) × Er) := kEnd cfg.tt rs (kFin cfg.tt 0 false [46, 24] [] [] decB)
noncomputable abbrev rn := run cfg X 45 0 code kend
theorem s0 (k : Nat) (J : Nat → Fr → Heap → Option (Bool × (List Int) × Bool × (List Int) × Er)) (x0 : Bool) (x1 : List Int) (x2 : Bool) (x3 : List Int) (x4 : Bool) (x5 : List Int) (x6 : Bool) (x7 : List Int) : stepJ cfg X 45 0 code kend k J 0 (argFr 0 (encA (x0, x1, x2, x3, x4, x5, x6, x7)).1) (encA (x0, x1, x2, x3, x4, x5, x6, x7)).2 = b0 k x0 x1 x2 x3 x4 x5 x6 x7 := by kernel_rfl
theorem run_ok : ∀ (k : Nat) (a : Bool × (List Int) × Bool × (List Int) × Bool × (List Int) × Bool × (List Int)), rn k 0 (argFr 0 (encA a).1) (encA a).2 = m k a.1 a.2.1 a.2.2.1 a.2.2.2.1 a.2.2.2.2.1 a.2.2.2.2.2.1 a.2.2.2.2.2.2.1 a.2.2.2.2.2.2.2
  | 0, _ => rfl
  | k + 1, (x0, x1, x2, x3, x4, x5, x6, x7) => by
    have h := s0 k (rn k) x0 x1 x2 x3 x4 x5 x6 x7
    exact h
theorem snd (k : Nat) : Snd Tryz.prog cfg k ct := fn_snd (X := X) cfgOk mixed ok (np := 0) (vps := []) (vws := []) (decA := decA) (encA := encA) (decB := decB) (encB := encB) (encK := encK) (fun _ b _ => rfl)
  (by
    intro xs H a h
    unfold decA at h
    split at h
    · cases h; exact ⟨rfl, rfl, rfl, rfl⟩
    · cases h)
  (by
    intro v H b h
    unfold decB at h
    split at h
    · cases h; exact ⟨rfl, fun _ _ _ h => (by cases h), rfl⟩
    · cases h)
  rfl k (fun k' _ => AllS.mem (l := X) ⟨ratio_begin.snd k', limb_Of.snd k', limb_Cmp.snd k', ratio_sums_mul.snd k', ratio_sums_done.snd k', trivial⟩) (fun a => run_ok k a)
end ratio_Quo

/-! cavil/ratio.Of -/
namespace ratio_Of
def b0 (k : Nat) (x0 : Int) : Option (Bool × (List Int) × Bool × (List Int)) :=
  bindO (limb_Of.m k x0) fun r1 =>
    bindO (limb_Of.m k 1) fun r2 =>
      some (r1.1, r1.2, r2.1, r2.2)
def m : Nat → Int → Option (Bool × (List Int) × Bool × (List Int))
  | 0, _ => none
  | k + 1, x0 => b0 k x0
def anns : Anns := []
noncomputable def code : ACode := codeOf Tryz.f78 anns
def rs : List ResultVar := [.cell 2 46]
def decA : List AVal → Heap → Option (Int)
  | [.int .i64 x0], [] => some x0
  | _, _ => none
def encA (a : Int) : List AVal × Heap := ([.int .i64 a], [])
def decB : AVal → Heap → Option (Bool × (List Int) × Bool × (List Int))
  | .agg (.pair (.agg (.pair (.bool y0) (.pair (.arr 8 (.int .u64 y1)) .nil))) (.pair (.agg (.pair (.bool y2) (.pair (.arr 8 (.int .u64 y3)) .nil))) .nil)), [] => some (y0, y1, y2, y3)
  | _, _ => none
def encB (b : Bool × (List Int) × Bool × (List Int)) : Out := (.agg (.pair (.agg (.pair (.bool b.1) (.pair (.arr 8 (.int .u64 b.2.1)) .nil))) (.pair (.agg (.pair (.bool b.2.2.1) (.pair (.arr 8 (.int .u64 b.2.2.2)) .nil))) .nil)), [], [])
def encK : EncK (Bool × (List Int) × Bool × (List Int)) := fun _ b K => K (encB b)
def X : List Ct := [limb_Of.ct]
def ct : Ct := ⟨78, callRun cfg.tt [(2, false)] decA (fun k a => m k a) false encK⟩
theorem ok : FnOk Tryz.prog cfg 78 7 code rs := .of Tryz.func78 (by kernel_rfl) rfl rfl (by kernel_rfl) (by kernel_rfl) rfl
abbrev kend : KK (Bool × (List Int) × Bool × (List Int)) := kEnd cfg.tt rs (kFin cfg.tt 0 false [46] [] [] decB)
noncomputable abbrev rn := run cfg X 7 0 code kend
theorem s0 (k : Nat) (J : Nat → Fr → Heap → Option (Bool × (List Int) × Bool × (List Int))) (x0 : Int) : stepJ cfg X 7 0 code kend k J 0 (argFr 0 (encA x0).1) (encA x0).2 = b0 k x0 := by kernel_rfl
theorem run_ok : ∀ (k : Nat) (a : Int), rn k 0 (argFr 0 (encA a).1) (encA a).2 = m k a
  | 0, _ => rfl
  | k + 1, x0 => by
    have h := s0 k (rn k) x0
    exact h
theorem snd (k : Nat) : Snd Tryz.prog cfg k ct := fn_snd (X := X) cfgOk mixed ok (np := 0) (vps := []) (vws := []) (decA := decA) (encA := encA) (decB := decB) (encB := encB) (encK := encK) (fun _ b _ => rfl)
  (by
    intro xs H a h
    unfold decA at h
    split at h
    · cases h; exact ⟨rfl, rfl, rfl, rfl⟩
    · cases h)
  (by
    intro v H b h
    unfold decB at h
    split at h
    · cases h; exact ⟨rfl, fun _ _ _ h => (by cases h), rfl⟩
    · cases h)
  rfl k (fun k' _ => AllS.mem (l := X) ⟨limb_Of.snd k', trivial⟩) (fun a => run_ok k a)
end ratio_Of

/-! cavil/ratio.Scale -/
namespace ratio_Scale
inductive St where
  | l1 (x0 : Bool) (x1 : List Int) (x2 : Bool) (x3 : List Int) (x4 : Bool) (x5 : List Int) (x6 : Bool) (x7 : List Int) (x8 : Int) (x9 : Int) (x10 : Bool)
  | l2 (x0 : Bool) (x1 : List Int) (x2 : Bool) (x3 : List Int) (x4 : Bool) (x5 : List Int) (x6 : Bool) (x7 : List Int) (x8 : Int) (x9 : Int) (x10 : Bool)
  | l3 (x0 : Bool) (x1 : List Int) (x2 : Bool) (x3 : List Int) (x4 : Bool) (x5 : List Int) (x6 : Bool) (x7 : List Int) (x8 : Int) (x9 : Int) (x10 : Int)
  | l4 (x0 : Bool) (x1 : List Int) (x2 : Bool) (x3 : List Int) (x4 : Bool) (x5 : List Int) (x6 : Bool) (x7 : List Int) (x8 : Int) (x9 : Int) (x10 : Int)
def St.lab : St → Nat
  | .l1 _ _ _ _ _ _ _ _ _ _ _ => 1
  | .l2 _ _ _ _ _ _ _ _ _ _ _ => 2
  | .l3 _ _ _ _ _ _ _ _ _ _ _ => 3
  | .l4 _ _ _ _ _ _ _ _ _ _ _ => 3
def St.fr : St → Fr
  | .l1 x0 x1 x2 x3 x4 x5 x6 x7 x8 x9 x10 => [(1, .int .i64 x8), (2, .int .i64 x9), (3, .ptr 0 1 []), (6, .ptr 1 1 []), (20, .bool x10)]
  | .l2 x0 x1 x2 x3 x4 x5 x6 x7 x8 x9 x10 => [(1, .int .i64 x8), (2, .int .i64 x9), (3, .ptr 0 1 []), (6, .ptr 1 1 []), (29, .bool x10)]
  | .l3 x0 x1 x2 x3 x4 x5 x6 x7 x8 x9 x10 => [(1, .int .i64 x8), (3, .ptr 0 1 []), (6, .ptr 1 1 []), (9, .fn 77 .nil .nil), (43, .int .i64 x9), (44, .int .i64 x10)]
  | .l4 x0 x1 x2 x3 x4 x5 x6 x7 x8 x9 x10 => [(1, .int .i64 x8), (3, .ptr 0 1 []), (6, .ptr 1 1 []), (9, .fn 76 .nil .nil), (43, .int .i64 x9), (44, .int .i64 x10)]
def St.hp : St → Heap
  | .l1 x0 x1 x2 x3 x4 x5 x6 x7 x8 x9 x10 => [.var 0 46 (.agg (.pair (.agg (.pair (.bool x0) (.pair (.arr 8 (.int .u64 x1)) .nil))) (.pair (.agg (.pair (.bool x2) (.pair (.arr 8 (.int .u64 x3)) .nil))) .nil))), .var 0 46 (.agg (.pair (.agg (.pair (.bool x4) (.pair (.arr 8 (.int .u64 x5)) .nil))) (.pair (.agg (.pair (.bool x6) (.pair (.arr 8 (.int .u64 x7)) .nil))) .nil)))]
  | .l2 x0 x1 x2 x3 x4 x5 x6 x7 x8 x9 x10 => [.var 0 46 (.agg (.pair (.agg (.pair (.bool x0) (.pair (.arr 8 (.int .u64 x1)) .nil))) (.pair (.agg (.pair (.bool x2) (.pair (.arr 8 (.int .u64 x3)) .nil))) .nil))), .var 0 46 (.agg (.pair (.agg (.pair (.bool x4) (.pair (.arr 8 (.int .u64 x5)) .nil))) (.pair (.agg (.pair (.bool x6) (.pair (.arr 8 (.int .u64 x7)) .nil))) .nil)))]
  | .l3 x0 x1 x2 x3 x4 x5 x6 x7 x8 x9 x10 => [.var 0 46 (.agg (.pair (.agg (.pair (.bool x0) (.pair (.arr 8 (.int .u64 x1)) .nil))) (.pair (.agg (.pair (.bool x2) (.pair (.arr 8 (.int .u64 x3)) .nil))) .nil))), .var 0 46 (.agg (.pair (.agg (.pair (.bool x4) (.pair (.arr 8 (.int .u64 x5)) .nil))) (.pair (.agg (.pair (.bool x6) (.pair (.arr 8 (.int .u64 x7)) .nil))) .nil)))]
  | .l4 x0 x1 x2 x3 x4 x5 x6 x7 x8 x9 x10 => [.var 0 46 (.agg (.pair (.agg (.pair (.bool x0) (.pair (.arr 8 (.int .u64 x1)) .nil))) (.pair (.agg (.pair (.bool x2) (.pair (.arr 8 (.int .u64 x3)) .nil))) .nil))), .var 0 46 (.agg (.pair (.agg (.pair (.bool x4) (.pair (.arr 8 (.int .u64 x5)) .nil))) (.pair (.agg (.pair (.bool x6) (.pair (.arr 8 (.int .u64 x7)) .nil))) .nil)))]
def b0 (k : Nat) (J : St → Option (Bool × (List Int) × Bool × (List Int) × Er)) (x0 : Bool) (x1 : List Int) (x2 : Bool) (x3 : List Int) (x4 : Int) (x5 : Int) : Option (Bool × (List Int) × Bool × (List Int) × Er) :=
  bindO (ratio_Check.m k x0 x1 x2 x3) fun r1 =>
    bif (!r1.isNil) then
      some (false, (List.replicate 8 (0 : Int)), false, (List.replicate 8 (0 : Int)), r1)
    else
      bif (x4 != 2) then
        J (.l1 x0 x1 x2 x3 false (List.replicate 8 (0 : Int)) false (List.replicate 8 (0 : Int)) x4 x5 (x4 != 10))
      else
        J (.l1 x0 x1 x2 x3 false (List.replicate 8 (0 : Int)) false (List.replicate 8 (0 : Int)) x4 x5 false)
def b1 (k : Nat) (J : St → Option (Bool × (List Int) × Bool × (List Int) × Er)) (x0 : Bool) (x1 : List Int) (x2 : Bool) (x3 : List Int) (x4 : Bool) (x5 : List Int) (x6 : Bool) (x7 : List Int) (x8 : Int) (x9 : Int) (x10 : Bool) : Option (Bool × (List Int) × Bool × (List Int) × Er) :=
  bif x10 then
    some (false, (List.replicate 8 (0 : Int)), false, (List.replicate 8 (0 : Int)), (.no 1))
  else
    bif (decide (x9 > 1000)) then
      J (.l2 x0 x1 x2 x3 x4 x5 x6 x7 x8 x9 true)
    else
      J (.l2 x0 x1 x2 x3 x4 x5 x6 x7 x8 x9 (decide (x9 < (-1000))))
def b2 (k : Nat) (J : St → Option (Bool × (List Int) × Bool × (List Int) × Er)) (x0 : Bool) (x1 : List Int) (x2 : Bool) (x3 : List Int) (x4 : Bool) (x5 : List Int) (x6 : Bool) (x7 : List Int) (x8 : Int) (x9 : Int) (x10 : Bool) : Option (Bool × (List Int) × Bool × (List Int) × Er) :=
  bif x10 then
    some (false, (List.replicate 8 (0 : Int)), false, (List.replicate 8 (0 : Int)), (.no 9))
  else
    bif (decide (x9 < 0)) then
      J (.l3 x0 x1 x2 x3 x4 x5 x6 x7 x8 (wr .i64 (0 - x9)) 0)
    else
      J (.l4 x0 x1 x2 x3 x4 x5 x6 x7 x8 x9 0)
def b3 (k : Nat) (J : St → Option (Bool × (List Int) × Bool × (List Int) × Er)) (x0 : Bool) (x1 : List Int) (x2 : Bool) (x3 : List Int) (x4 : Bool) (x5 : List Int) (x6 : Bool) (x7 : List Int) (x8 : Int) (x9 : Int) (x10 : Int) : Option (Bool × (List Int) × Bool × (List Int) × Er) :=
  bif (decide (x10 < x9)) then
    bindO (ratio_Of.m k x8) fun r1 =>
      bindO (ratio_Quo.m k x0 x1 x2 x3 r1.1 r1.2.1 r1.2.2.1 r1.2.2.2) fun r2 =>
        bif (!r2.2.2.2.2.isNil) then
          some (false, (List.replicate 8 (0 : Int)), false, (List.replicate 8 (0 : Int)), r2.2.2.2.2)
        else
          J (.l3 r2.1 r2.2.1 r2.2.2.1 r2.2.2.2.1 x4 x5 x6 x7 x8 x9 (wr .i64 (x10 + 1)))
  else
    some (x0, x1, x2, x3, .nil)
def b4 (k : Nat) (J : St → Option (Bool × (List Int) × Bool × (List Int) × Er)) (x0 : Bool) (x1 : List Int) (x2 : Bool) (x3 : List Int) (x4 : Bool) (x5 : List Int) (x6 : Bool) (x7 : List Int) (x8 : Int) (x9 : Int) (x10 : Int) : Option (Bool × (List Int) × Bool × (List Int) × Er) :=
  bif (decide (x10 < x9)) then
    bindO (ratio_Of.m k x8) fun r1 =>
      bindO (ratio_Mul.m k x0 x1 x2 x3 r1.1 r1.2.1 r1.2.2.1 r1.2.2.2) fun r2 =>
        bif (!r2.2.2.2.2.isNil) then
          some (false, (List.replicate 8 (0 : Int)), false, (List.replicate 8 (0 : Int)), r2.2.2.2.2)
        else
          J (.l4 r2.1 r2.2.1 r2.2.2.1 r2.2.2.2.1 x4 x5 x6 x7 x8 x9 (wr .i64 (x10 + 1)))
  else
    some (x0, x1, x2, x3, .nil)
def go : Nat → St → Option (Bool × (List Int) × Bool × (List Int) × Er)
  | 0, _ => none
  | k + 1, .l1 x0 x1 x2 x3 x4 x5 x6 x7 x8 x9 x10 => b1 k (go k) x0 x1 x2 x3 x4 x5 x6 x7 x8 x9 x10
  | k + 1, .l2 x0 x1 x2 x3 x4 x5 x6 x7 x8 x9 x10 => b2 k (go k) x0 x1 x2 x3 x4 x5 x6 x7 x8 x9 x10
  | k + 1, .l3 x0 x1 x2 x3 x4 x5 x6 x7 x8 x9 x10 => b3 k (go k) x0 x1 x2 x3 x4 x5 x6 x7 x8 x9 x10
  | k + 1, .l4 x0 x1 x2 x3 x4 x5 x6 x7 x8 x9 x10 => b4 k (go k) x0 x1 x2 x3 x4 x5 x6 x7 x8 x9 x10
def m : Nat → Bool → List Int → Bool → List Int → Int → Int → Option (Bool × (List Int) × Bool × (List Int) × Er)
  | 0, _, _, _, _, _, _ => none
  | k + 1, x0, x1, x2, x3, x4, x5 => b0 k (go k) x0 x1 x2 x3 x4 x5
def anns : Anns := [(5, 1, [(1, 3, false), (2, 3, false), (3, 0, false), (6, 0, false), (20, 4, false)]), (7, 2, [(1, 3, false), (2, 3, false), (3, 0, false), (6, 0, false), (29, 4, false)]), (14, 3, [(1, 3, false), (3, 0, false), (6, 0, false), (9, 106, false), (43, 3, false), (44, 3, false)])]
noncomputable def code : ACode := codeOf Tryz.f42 anns
def rs : List ResultVar := [.cell 6 46, .tmp 7]
def decA : List AVal → Heap → Option (Bool × (List Int) × Bool × (List Int) × Int × Int)
  | [.agg (.pair (.agg (.pair (.bool x0) (.pair (.arr 8 (.int .u64 x1)) .nil))) (.pair (.agg (.pair (.bool x2) (.pair (.arr 8 (.int .u64 x3)) .nil))) .nil)), .int .i64 x4, .int .i64 x5], [] => some (x0, x1, x2, x3, x4, x5)
  | _, _ => none
def encA (a : Bool × (List Int) × Bool × (List Int) × Int × Int) : List AVal × Heap := ([.agg (.pair (.agg (.pair (.bool a.1) (.pair (.arr 8 (.int .u64 a.2.1)) .nil))) (.pair (.agg (.pair (.bool a.2.2.1) (.pair (.arr 8 (.int .u64 a.2.2.2.1)) .nil))) .nil)), .int .i64 a.2.2.2.2.1, .int .i64 a.2.2.2.2.2], [])
def decB : AVal → Heap → Option (Bool × (List Int) × Bool × (List Int) × Er)
  | .tup (.pair (.agg (.pair (.agg (.pair (.bool y0) (.pair (.arr 8 (.int .u64 y1)) .nil))) (.pair (.agg (.pair (.bool y2) (.pair (.arr 8 (.int .u64 y3)) .nil))) .nil))) (.pair (.err y4) .nil)), [] => some (y0, y1, y2, y3, y4)
  | _, _ => none
def encB (b : Bool × (List Int) × Bool × (List Int) × Er) : Out := (.tup (.pair (.agg (.pair (.agg (.pair (.bool b.1) (.pair (.arr 8 (.int .u64 b.2.1)) .nil))) (.pair (.agg (.pair (.bool b.2.2.1) (.pair (.arr 8 (.int .u64 b.2.2.2.1)) .nil))) .nil))) (.pair (.err b.2.2.2.2) .nil)), [], [])
def encK : EncK (Bool × (List Int) × Bool × (List Int) × Er) := fun _ b K => K (encB b)
def X : List Ct := [ratio_Check.ct, ratio_Of.ct, ratio_Quo.ct, ratio_Mul.ct]
def ct : Ct := ⟨42, callRun cfg.tt [(46, false), (3, false), (3, false)] decA (fun k a => m k a.1 a.2.1 a.2.2.1 a.2.2.2.1 a.2.2.2.2.1 a.2.2.2.2.2) false encK⟩
theorem ok : FnOk Tryz.prog cfg 42 61 code rs := .of Tryz.func42 (by kernel_rfl) rfl rfl (by kernel_rfl) (by kernel_rfl) rfl
abbrev kend : KK (Bool × (List Int) × Bool × (List Int) × Er) := kEnd cfg.tt rs (kFin cfg.tt 0 false [46, 24] [] [] decB)
noncomputable abbrev rn := run cfg X 61 0 code kend
theorem s0 (k : Nat) (J : Nat → Fr → Heap → Option (Bool × (List Int) × Bool × (List Int) × Er)) (x0 : Bool) (x1 : List Int) (x2 : Bool) (x3 : List Int) (x4 : Int) (x5 : Int) : stepJ cfg X 61 0 code kend k J 0 (argFr 0 (encA (x0, x1, x2, x3, x4, x5)).1) (encA (x0, x1, x2, x3, x4, x5)).2 = b0 k (fun s => J s.lab s.fr s.hp) x0 x1 x2 x3 x4 x5 := by kernel_rfl
theorem s1 (k : Nat) (J : Nat → Fr → Heap → Option (Bool × (List Int) × Bool × (List Int) × Er)) (x0 : Bool) (x1 : List Int) (x2 : Bool) (x3 : List Int) (x4 : Bool) (x5 : List Int) (x6 : Bool) (x7 : List Int) (x8 : Int) (x9 : Int) (x10 : Bool) : stepJ cfg X 61 0 code kend k J (St.l1 x0 x1 x2 x3 x4 x5 x6 x7 x8 x9 x10).lab (St.l1 x0 x1 x2 x3 x4 x5 x6 x7 x8 x9 x10).fr (St.l1 x0 x1 x2 x3 x4 x5 x6 x7 x8 x9 x10).hp = b1 k (fun s => J s.lab s.fr s.hp) x0 x1 x2 x3 x4 x5 x6 x7 x8 x9 x10 := by kernel_rfl
theorem s2 (k : Nat) (J : Nat → Fr → Heap → Option (Bool × (List Int) × Bool × (List Int) × Er)) (x0 : Bool) (x1 : List Int) (x2 : Bool) (x3 : List Int) (x4 : Bool) (x5 : List Int) (x6 : Bool) (x7 : List Int) (x8 : Int) (x9 : Int) (x10 : Bool) : stepJ cfg X 61 0 code kend k J (St.l2 x0 x1 x2 x3 x4 x5 x6 x7 x8 x9 x10).lab (St.l2 x0 x1 x2 x3 x4 x5 x6 x7 x8 x9 x10).fr (St.l2 x0 x1 x2 x3 x4 x5 x6 x7 x8 x9 x10).hp = b2 k (fun s => J s.lab s.fr s.hp) x0 x1 x2 x3 x4 x5 x6 x7 x8 x9 x10 := by kernel_rfl
theorem s3 (k : Nat) (J : Nat → Fr → Heap → Option (Bool × (List Int) × Bool × (List Int) × Er)) (x0 : Bool) (x1 : List Int) (x2 : Bool) (x3 : List Int) (x4 : Bool) (x5 : List Int) (x6 : Bool) (x7 : List Int) (x8 : Int) (x9 : Int) (x10 : Int) : stepJ cfg X 61 0 code kend k J (St.l3 x0 x1 x2 x3 x4 x5 x6 x7 x8 x9 x10).lab (St.l3 x0 x1 x2 x3 x4 x5 x6 x7 x8 x9 x10).fr (St.l3 x0 x1 x2 x3 x4 x5 x6 x7 x8 x9 x10).hp = b3 k (fun s => J s.lab s.fr s.hp) x0 x1 x2 x3 x4 x5 x6 x7 x8 x9 x10 := by kernel_rfl
theorem s4 (k : Nat) (J : Nat → Fr → Heap → Option (Bool × (List Int) × Bool × (List Int) × Er)) (x0 : Bool) (x1 : List Int) (x2 : Bool) (x3 : List Int) (x4 : Bool) (x5 : List Int) (x6 : Bool) (x7 : List Int) (x8 : Int) (x9 : Int) (x10 : Int) : stepJ cfg X 61 0 code kend k J (St.l4 x0 x1 x2 x3 x4 x5 x6 x7 x8 x9 x10).lab (St.l4 x0 x1 x2 x3 x4 x5 x6 x7 x8 x9 x10).fr (St.l4 x0 x1 x2 x3 x4 x5 x6 x7 x8 x9 x10).hp = b4 k (fun s => J s.lab s.fr s.hp) x0 x1 x2 x3 x4 x5 x6 x7 x8 x9 x10 := by kernel_rfl
theorem go_ok : ∀ (k : Nat) (s : St), rn k s.lab s.fr s.hp = go k s
  | 0, _ => rfl
  | k + 1, .l1 x0 x1 x2 x3 x4 x5 x6 x7 x8 x9 x10 => by
    have h := s1 k (rn k) x0 x1 x2 x3 x4 x5 x6 x7 x8 x9 x10
    rw [show (fun s : St => rn k s.lab s.fr s.hp) = go k from funext (go_ok k)] at h
    exact h
  | k + 1, .l2 x0 x1 x2 x3 x4 x5 x6 x7 x8 x9 x10 => by
    have h := s2 k (rn k) x0 x1 x2 x3 x4 x5 x6 x7 x8 x9 x10
    rw [show (fun s : St => rn k s.lab s.fr s.hp) = go k from funext (go_ok k)] at h
    exact h
  | k + 1, .l3 x0 x1 x2 x3 x4 x5 x6 x7 x8 x9 x10 => by
    have h := s3 k (rn k) x0 x1 x2 x3 x4 x5 x6 x7 x8 x9 x10
    rw [show (fun s : St => rn k s.lab s.fr s.hp) = go k from funext (go_ok k)] at h
    exact h
  | k + 1, .l4 x0 x1 x2 x3 x4 x5 x6 x7 x8 x9 x10 => by
    have h := s4 k (rn k) x0 x1 x2 x3 x4 x5 x6 x7 x8 x9 x10
    rw [show (fun s : St => rn k s.lab s.fr s.hp) = go k from funext (go_ok k)] at h
    exact h
theorem run_ok : ∀ (k : Nat) (a : Bool × (List Int) × Bool × (List Int) × Int × Int), rn k 0 (argFr 0 (encA a).1) (encA a).2 = m k a.1 a.2.1 a.2.2.1 a.2.2.2.1 a.2.2.2.2.1 a.2.2.2.2.2
  | 0, _ => rfl
  | k + 1, (x0, x1, x2, x3, x4, x5) => by
    have h := s0 k (rn k) x0 x1 x2 x3 x4 x5
    rw [show (fun s : St => rn k s.lab s.fr s.hp) = go k from funext (go_ok k)] at h
    exact h
theorem snd (k : Nat) : Snd Tryz.prog cfg k ct := fn_snd (X := X) cfgOk mixed ok (np := 0) (vps := []) (vws := []) (decA := decA) (encA := encA) (decB := decB) (encB := encB) (encK := encK) (fun _ b _ => rfl)
  (by
    intro xs H a h
    unfold decA at h
    split at h
    · cases h; exact ⟨rfl, rfl, rfl, rfl⟩
    · cases h)
  (by
    intro v H b h
    unfold decB at h
    split at h
    · cases h; exact ⟨rfl, fun _ _ _ h => (by cases h), rfl⟩
    · cases h)
  rfl k (fun k' _ => AllS.mem (l := X) ⟨ratio_Check.snd k', ratio_Of.snd k', ratio_Quo.snd k', ratio_Mul.snd k', trivial⟩) (fun a => run_ok k a)
end ratio_Scale

/-! cavil/ratio.Text -/
namespace ratio_Text
def b0 (k : Nat) (x0 : Bool) (x1 : List Int) (x2 : Bool) (x3 : List Int) : Option ((List UInt8)) :=
  bindO (limb_Of.m k 1) fun r1 =>
    bindO (limb_Cmp.m k x2 x3 r1.1 r1.2) fun r2 =>
      bif (r2 == 0) then
        bindO (limb_Text.m k x0 x1) fun r3 =>
          some r3
      else
        bindO (limb_Text.m k x0 x1) fun r4 =>
          gk (roomS r4 ([47] : List UInt8))
            (bindO (limb_Text.m k x2 x3) fun r5 =>
              gk (roomS (r4 ++ ([47] : List UInt8)) r5)
                (some ((r4 ++ ([47] : List UInt8)) ++ r5)))
def m : Nat → Bool → List Int → Bool → List Int → Option ((List UInt8))
  | 0, _, _, _, _ => none
  | k + 1, x0, x1, x2, x3 => b0 k x0 x1 x2 x3
def anns : Anns := []
noncomputable def code : ACode := codeOf Tryz.f30 anns
def rs : List ResultVar := [.tmp 2]
def decA : List AVal → Heap → Option (Bool × (List Int) × Bool × (List Int))
  | [.agg (.pair (.agg (.pair (.bool x0) (.pair (.arr 8 (.int .u64 x1)) .nil))) (.pair (.agg (.pair (.bool x2) (.pair (.arr 8 (.int .u64 x3)) .nil))) .nil))], [] => some (x0, x1, x2, x3)
  | _, _ => none
def encA (a : Bool × (List Int) × Bool × (List Int)) : List AVal × Heap := ([.agg (.pair (.agg (.pair (.bool a.1) (.pair (.arr 8 (.int .u64 a.2.1)) .nil))) (.pair (.agg (.pair (.bool a.2.2.1) (.pair (.arr 8 (.int .u64 a.2.2.2)) .nil))) .nil))], [])
def decB : AVal → Heap → Option ((List UInt8))
  | .str y0, [] => some y0
  | _, _ => none
def encB (b : (List UInt8)) : Out := (.str b, [], [])
def encK : EncK ((List UInt8)) := fun _ b K => K (encB b)
def X : List Ct := [limb_Of.ct, limb_Cmp.ct, limb_Text.ct]
def ct : Ct := ⟨30, callRun cfg.tt [(46, false)] decA (fun k a => m k a.1 a.2.1 a.2.2.1 a.2.2.2) false encK⟩
theorem ok : FnOk Tryz.prog cfg 30 19 code rs := .of Tryz.func30 (by kernel_rfl) rfl rfl (by kernel_rfl) (by kernel_rfl) rfl
abbrev kend : KK ((List UInt8)) := kEnd cfg.tt rs (kFin cfg.tt 0 false [9] [] [] decB)
noncomputable abbrev rn := run cfg X 19 0 code kend
theorem s0 (k : Nat) (J : Nat → Fr → Heap → Option ((List UInt8))) (x0 : Bool) (x1 : List Int) (x2 : Bool) (x3 : List Int) : stepJ cfg X 19 0 code kend k J 0 (argFr 0 (encA (x0, x1, x2, x3)).1) (encA (x0, x1, x2, x3)).2 = b0 k x0 x1 x2 x3 := by kernel_rfl
theorem run_ok : ∀ (k : Nat) (a : Bool × (List Int) × Bool × (List Int)), rn k 0 (argFr 0 (encA a).1) (encA a).2 = m k a.1 a.2.1 a.2.2.1 a.2.2.2
  | 0, _ => rfl
  | k + 1, (x0, x1, x2, x3) => by
    have h := s0 k (rn k) x0 x1 x2 x3
    exact h
theorem snd (k : Nat) : Snd Tryz.prog cfg k ct := fn_snd (X := X) cfgOk mixed ok (np := 0) (vps := []) (vws := []) (decA := decA) (encA := encA) (decB := decB) (encB := encB) (encK := encK) (fun _ b _ => rfl)
  (by
    intro xs H a h
    unfold decA at h
    split at h
    · cases h; exact ⟨rfl, rfl, rfl, rfl⟩
    · cases h)
  (by
    intro v H b h
    unfold decB at h
    split at h
    · cases h; exact ⟨rfl, fun _ _ _ h => (by cases h), rfl⟩
    · cases h)
  rfl k (fun k' _ => AllS.mem (l := X) ⟨limb_Of.snd k', limb_Cmp.snd k', limb_Text.snd k', trivial⟩) (fun a => run_ok k a)
end ratio_Text

/-! cavil/number.Int -/
namespace number_Int
inductive St where
  | l1 (x0 : Bool) (x1 : List Int) (x2 : List UInt8) (x3 : Int) (x4 : Int)
  | l2 (x0 : Bool) (x1 : List Int) (x2 : List UInt8) (x3 : Int) (x4 : Bool)
  | l3 (x0 : Bool) (x1 : List Int) (x2 : List UInt8) (x3 : Bool)
def St.lab : St → Nat
  | .l1 _ _ _ _ _ => 1
  | .l2 _ _ _ _ _ => 2
  | .l3 _ _ _ _ => 3
def St.fr : St → Fr
  | .l1 x0 x1 x2 x3 x4 => [(0, .str x2), (2, .ptr 0 1 []), (4, .int .i64 x3), (5, .int .i64 x4)]
  | .l2 x0 x1 x2 x3 x4 => [(0, .str x2), (2, .ptr 0 1 []), (4, .int .i64 x3), (10, .bool x4)]
  | .l3 x0 x1 x2 x3 => [(0, .str x2), (2, .ptr 0 1 []), (31, .bool x3)]
def St.hp : St → Heap
  | .l1 x0 x1 x2 x3 x4 => [.var 0 35 (.agg (.pair (.bool x0) (.pair (.arr 8 (.int .u64 x1)) .nil)))]
  | .l2 x0 x1 x2 x3 x4 => [.var 0 35 (.agg (.pair (.bool x0) (.pair (.arr 8 (.int .u64 x1)) .nil)))]
  | .l3 x0 x1 x2 x3 => [.var 0 35 (.agg (.pair (.bool x0) (.pair (.arr 8 (.int .u64 x1)) .nil)))]
def b0 (k : Nat) (J : St → Option (Bool × (List Int) × Er)) (x0 : List UInt8) : Option (Bool × (List Int) × Er) :=
  bindO (number_base.m k x0) fun r1 =>
    bif (decide (r1 > 0)) then
      J (.l1 false (List.replicate 8 (0 : Int)) x0 r1 2)
    else
      J (.l1 false (List.replicate 8 (0 : Int)) x0 r1 0)
def b1 (k : Nat) (J : St → Option (Bool × (List Int) × Er)) (x0 : Bool) (x1 : List Int) (x2 : List UInt8) (x3 : Int) (x4 : Int) : Option (Bool × (List Int) × Er) :=
  bif (x2 == ([] : List UInt8)) then
    J (.l2 x0 x1 x2 x3 true)
  else
    bindO (number_spaced.m k x2 x4) fun r1 =>
      J (.l2 x0 x1 x2 x3 (!r1))
def b2 (k : Nat) (J : St → Option (Bool × (List Int) × Er)) (x0 : Bool) (x1 : List Int) (x2 : List UInt8) (x3 : Int) (x4 : Bool) : Option (Bool × (List Int) × Er) :=
  bif x4 then
    some (false, (List.replicate 8 (0 : Int)), (.no 8))
  else
    bif (decide (x3 > 0)) then
      gk (cutB 2 (x2.length : Int) x2.length)
        (bindO (number_plain.m k (cut x2 2 (x2.length : Int))) fun r1 =>
          bindO (limb_Parse.m k r1 x3) fun r2 =>
            some (r2.1, r2.2.1, r2.2.2))
    else
      gk (inB 0 x2.length)
        (bif ((byt x2 0) == 48) then
          J (.l3 x0 x1 x2 (decide ((x2.length : Int) > 1)))
        else
          J (.l3 x0 x1 x2 false))
def b3 (k : Nat) (J : St → Option (Bool × (List Int) × Er)) (x0 : Bool) (x1 : List Int) (x2 : List UInt8) (x3 : Bool) : Option (Bool × (List Int) × Er) :=
  bif x3 then
    gk (cutB 1 (x2.length : Int) x2.length)
      (bindO (number_plain.m k (cut x2 1 (x2.length : Int))) fun r1 =>
        bindO (limb_Parse.m k r1 8) fun r2 =>
          some (r2.1, r2.2.1, r2.2.2))
  else
    bindO (number_plain.m k x2) fun r3 =>
      bindO (limb_Parse.m k r3 10) fun r4 =>
        some (r4.1, r4.2.1, r4.2.2)
def go : Nat → St → Option (Bool × (List Int) × Er)
  | 0, _ => none
  | k + 1, .l1 x0 x1 x2 x3 x4 => b1 k (go k) x0 x1 x2 x3 x4
  | k + 1, .l2 x0 x1 x2 x3 x4 => b2 k (go k) x0 x1 x2 x3 x4
  | k + 1, .l3 x0 x1 x2 x3 => b3 k (go k) x0 x1 x2 x3
def m : Nat → List UInt8 → Option (Bool × (List Int) × Er)
  | 0, _ => none
  | k + 1, x0 => b0 k (go k) x0
def anns : Anns := [(3, 1, [(0, 9, false), (2, 0, false), (4, 3, false), (5, 3, false)]), (6, 2, [(0, 9, false), (2, 0, false), (4, 3, false), (10, 4, false)]), (10, 3, [(0, 9, false), (2, 0, false), (31, 4, false)])]
noncomputable def code : ACode := codeOf Tryz.f12 anns
def rs : List ResultVar := [.cell 2 35, .tmp 3]
def decA : List AVal → Heap → Option ((List UInt8))
  | [.str x0], [] => some x0
  | _, _ => none
def encA (a : (List UInt8)) : List AVal × Heap := ([.str a], [])
def decB : AVal → Heap → Option (Bool × (List Int) × Er)
  | .tup (.pair (.agg (.pair (.bool y0) (.pair (.arr 8 (.int .u64 y1)) .nil))) (.pair (.err y2) .nil)), [] => some (y0, y1, y2)
  | _, _ => none
def encB (b : Bool × (List Int) × Er) : Out := (.tup (.pair (.agg (.pair (.bool b.1) (.pair (.arr 8 (.int .u64 b.2.1)) .nil))) (.pair (.err b.2.2) .nil)), [], [])
def encK : EncK (Bool × (List Int) × Er) := fun _ b K => K (encB b)
def X : List Ct := [number_base.ct, number_spaced.ct, number_plain.ct, limb_Parse.ct]
def ct : Ct := ⟨12, callRun cfg.tt [(9, false)] decA (fun k a => m k a) false encK⟩
theorem ok : FnOk Tryz.prog cfg 12 51 code rs := .of Tryz.func12 (by kernel_rfl) rfl rfl (by kernel_rfl) (by kernel_rfl) rfl
abbrev kend : KK (Bool × (List Int) × Er) := kEnd cfg.tt rs (kFin cfg.tt 0 false [35, 24] [] [] decB)
noncomputable abbrev rn := run cfg X 51 0 code kend
theorem s0 (k : Nat) (J : Nat → Fr → Heap → Option (Bool × (List Int) × Er)) (x0 : List UInt8) : stepJ cfg X 51 0 code kend k J 0 (argFr 0 (encA x0).1) (encA x0).2 = b0 k (fun s => J s.lab s.fr s.hp) x0 := by kernel_rfl
theorem s1 (k : Nat) (J : Nat → Fr → Heap → Option (Bool × (List Int) × Er)) (x0 : Bool) (x1 : List Int) (x2 : List UInt8) (x3 : Int) (x4 : Int) : stepJ cfg X 51 0 code kend k J (St.l1 x0 x1 x2 x3 x4).lab (St.l1 x0 x1 x2 x3 x4).fr (St.l1 x0 x1 x2 x3 x4).hp = b1 k (fun s => J s.lab s.fr s.hp) x0 x1 x2 x3 x4 := by kernel_rfl
theorem s2 (k : Nat) (J : Nat → Fr → Heap → Option (Bool × (List Int) × Er)) (x0 : Bool) (x1 : List Int) (x2 : List UInt8) (x3 : Int) (x4 : Bool) : stepJ cfg X 51 0 code kend k J (St.l2 x0 x1 x2 x3 x4).lab (St.l2 x0 x1 x2 x3 x4).fr (St.l2 x0 x1 x2 x3 x4).hp = b2 k (fun s => J s.lab s.fr s.hp) x0 x1 x2 x3 x4 := by kernel_rfl
theorem s3 (k : Nat) (J : Nat → Fr → Heap → Option (Bool × (List Int) × Er)) (x0 : Bool) (x1 : List Int) (x2 : List UInt8) (x3 : Bool) : stepJ cfg X 51 0 code kend k J (St.l3 x0 x1 x2 x3).lab (St.l3 x0 x1 x2 x3).fr (St.l3 x0 x1 x2 x3).hp = b3 k (fun s => J s.lab s.fr s.hp) x0 x1 x2 x3 := by kernel_rfl
theorem go_ok : ∀ (k : Nat) (s : St), rn k s.lab s.fr s.hp = go k s
  | 0, _ => rfl
  | k + 1, .l1 x0 x1 x2 x3 x4 => by
    have h := s1 k (rn k) x0 x1 x2 x3 x4
    rw [show (fun s : St => rn k s.lab s.fr s.hp) = go k from funext (go_ok k)] at h
    exact h
  | k + 1, .l2 x0 x1 x2 x3 x4 => by
    have h := s2 k (rn k) x0 x1 x2 x3 x4
    rw [show (fun s : St => rn k s.lab s.fr s.hp) = go k from funext (go_ok k)] at h
    exact h
  | k + 1, .l3 x0 x1 x2 x3 => by
    have h := s3 k (rn k) x0 x1 x2 x3
    rw [show (fun s : St => rn k s.lab s.fr s.hp) = go k from funext (go_ok k)] at h
    exact h
theorem run_ok : ∀ (k : Nat) (a : (List UInt8)), rn k 0 (argFr 0 (encA a).1) (encA a).2 = m k a
  | 0, _ => rfl
  | k + 1, x0 => by
    have h := s0 k (rn k) x0
    rw [show (fun s : St => rn k s.lab s.fr s.hp) = go k from funext (go_ok k)] at h
    exact h
theorem snd (k : Nat) : Snd Tryz.prog cfg k ct := fn_snd (X := X) cfgOk mixed ok (np := 0) (vps := []) (vws := []) (decA := decA) (encA := encA) (decB := decB) (encB := encB) (encK := encK) (fun _ b _ => rfl)
  (by
    intro xs H a h
    unfold decA at h
    split at h
    · cases h; exact ⟨rfl, rfl, rfl, rfl⟩
    · cases h)
  (by
    intro v H b h
    unfold decB at h
    split at h
    · cases h; exact ⟨rfl, fun _ _ _ h => (by cases h), rfl⟩
    · cases h)
  rfl k (fun k' _ => AllS.mem (l := X) ⟨number_base.snd k', number_spaced.snd k', number_plain.snd k', limb_Parse.snd k', trivial⟩) (fun a => run_ok k a)
end number_Int

/-! cavil/number.Float -/
namespace number_Float
inductive St where
  | l1 (x0 : Bool) (x1 : List Int) (x2 : Bool) (x3 : List Int) (x4 : List UInt8) (x5 : List UInt8) (x6 : List UInt8) (x7 : Bool)
def St.lab : St → Nat
  | .l1 _ _ _ _ _ _ _ _ => 1
def St.fr : St → Fr
  | .l1 x0 x1 x2 x3 x4 x5 x6 x7 => [(2, .ptr 0 1 []), (4, .str x4), (5, .str x5), (6, .str x6), (27, .bool x7)]
def St.hp : St → Heap
  | .l1 x0 x1 x2 x3 x4 x5 x6 x7 => [.var 0 46 (.agg (.pair (.agg (.pair (.bool x0) (.pair (.arr 8 (.int .u64 x1)) .nil))) (.pair (.agg (.pair (.bool x2) (.pair (.arr 8 (.int .u64 x3)) .nil))) .nil)))]
def b0 (k : Nat) (J : St → Option (Bool × (List Int) × Bool × (List Int) × Er)) (x0 : List UInt8) : Option (Bool × (List Int) × Bool × (List Int) × Er) :=
  bindO (number_plain.m k x0) fun r1 =>
    bindO (number_parts.m k r1) fun r2 =>
      bif (!r2.2.2.2) then
        J (.l1 false (List.replicate 8 (0 : Int)) false (List.replicate 8 (0 : Int)) r2.1 r2.2.1 r2.2.2.1 true)
      else
        bindO (number_spaced.m k x0 0) fun r3 =>
          J (.l1 false (List.replicate 8 (0 : Int)) false (List.replicate 8 (0 : Int)) r2.1 r2.2.1 r2.2.2.1 (!r3))
def b1 (k : Nat) (J : St → Option (Bool × (List Int) × Bool × (List Int) × Er)) (x0 : Bool) (x1 : List Int) (x2 : Bool) (x3 : List Int) (x4 : List UInt8) (x5 : List UInt8) (x6 : List UInt8) (x7 : Bool) : Option (Bool × (List Int) × Bool × (List Int) × Er) :=
  bif x7 then
    some (false, (List.replicate 8 (0 : Int)), false, (List.replicate 8 (0 : Int)), (.no 8))
  else
    gk (roomS x4 x5)
      (bindO (limb_Parse.m k (x4 ++ x5) 10) fun r1 =>
        gk (isSm r1.2.2)
          (bif (isEq r1.2.2 9) then
            some (false, (List.replicate 8 (0 : Int)), false, (List.replicate 8 (0 : Int)), r1.2.2)
          else
            bindO (number_power.m k x6) fun r2 =>
              bif (!r2.2.isNil) then
                some (false, (List.replicate 8 (0 : Int)), false, (List.replicate 8 (0 : Int)), r2.2)
              else
                bindO (limb_Of.m k 1) fun r3 =>
                  bindO (ratio_Make.m k r1.1 r1.2.1 r3.1 r3.2) fun r4 =>
                    bindO (ratio_Scale.m k r4.1 r4.2.1 r4.2.2.1 r4.2.2.2.1 10 (wr .i64 (r2.1 - (x5.length : Int)))) fun r5 =>
                      some (r5.1, r5.2.1, r5.2.2.1, r5.2.2.2.1, r5.2.2.2.2)))
def go : Nat → St → Option (Bool × (List Int) × Bool × (List Int) × Er)
  | 0, _ => none
  | k + 1, .l1 x0 x1 x2 x3 x4 x5 x6 x7 => b1 k (go k) x0 x1 x2 x3 x4 x5 x6 x7
def m : Nat → List UInt8 → Option (Bool × (List Int) × Bool × (List Int) × Er)
  | 0, _ => none
  | k + 1, x0 => b0 k (go k) x0
def anns : Anns := [(3, 1, [(2, 0, false), (4, 9, false), (5, 9, false), (6, 9, false), (27, 4, false)])]
noncomputable def code : ACode := codeOf Tryz.f15 anns
def rs : List ResultVar := [.cell 2 46, .tmp 3]
def decA : List AVal → Heap → Option ((List UInt8))
  | [.str x0], [] => some x0
  | _, _ => none
def encA (a : (List UInt8)) : List AVal × Heap := ([.str a], [])
def decB : AVal → Heap → Option (Bool × (List Int) × Bool × (List Int) × Er)
  | .tup (.pair (.agg (.pair (.agg (.pair (.bool y0) (.pair (.arr 8 (.int .u64 y1)) .nil))) (.pair (.agg (.pair (.bool y2) (.pair (.arr 8 (.int .u64 y3)) .nil))) .nil))) (.pair (.err y4) .nil)), [] => some (y0, y1, y2, y3, y4)
  | _, _ => none
def encB (b : Bool × (List Int) × Bool × (List Int) × Er) : Out := (.tup (.pair (.agg (.pair (.agg (.pair (.bool b.1) (.pair (.arr 8 (.int .u64 b.2.1)) .nil))) (.pair (.agg (.pair (.bool b.2.2.1) (.pair (.arr 8 (.int .u64 b.2.2.2.1)) .nil))) .nil))) (.pair (.err b.2.2.2.2) .nil)), [], [])
def encK : EncK (Bool × (List Int) × Bool × (List Int) × Er) := fun _ b K => K (encB b)
def X : List Ct := [number_plain.ct, number_parts.ct, number_spaced.ct, limb_Parse.ct, lib_is.ct, number_power.ct, limb_Of.ct, ratio_Make.ct, ratio_Scale.ct]
def ct : Ct := ⟨15, callRun cfg.tt [(9, false)] decA (fun k a => m k a) false encK⟩
theorem ok : FnOk Tryz.prog cfg 15 65 code rs := .of Tryz.func15 (by kernel_rfl) rfl rfl (by kernel_rfl) (by kernel_rfl) rfl
abbrev kend : KK (Bool × (List Int) × Bool × (List Int) × Er) := kEnd cfg.tt rs (kFin cfg.tt 0 false [46, 24] [] [] decB)
noncomputable abbrev rn := run cfg X 65 0 code kend
theorem s0 (k : Nat) (J : Nat → Fr → Heap → Option (Bool × (List Int) × Bool × (List Int) × Er)) (x0 : List UInt8) : stepJ cfg X 65 0 code kend k J 0 (argFr 0 (encA x0).1) (encA x0).2 = b0 k (fun s => J s.lab s.fr s.hp) x0 := by kernel_rfl
theorem s1 (k : Nat) (J : Nat → Fr → Heap → Option (Bool × (List Int) × Bool × (List Int) × Er)) (x0 : Bool) (x1 : List Int) (x2 : Bool) (x3 : List Int) (x4 : List UInt8) (x5 : List UInt8) (x6 : List UInt8) (x7 : Bool) : stepJ cfg X 65 0 code kend k J (St.l1 x0 x1 x2 x3 x4 x5 x6 x7).lab (St.l1 x0 x1 x2 x3 x4 x5 x6 x7).fr (St.l1 x0 x1 x2 x3 x4 x5 x6 x7).hp = b1 k (fun s => J s.lab s.fr s.hp) x0 x1 x2 x3 x4 x5 x6 x7 := by kernel_rfl
theorem go_ok : ∀ (k : Nat) (s : St), rn k s.lab s.fr s.hp = go k s
  | 0, _ => rfl
  | k + 1, .l1 x0 x1 x2 x3 x4 x5 x6 x7 => by
    have h := s1 k (rn k) x0 x1 x2 x3 x4 x5 x6 x7
    rw [show (fun s : St => rn k s.lab s.fr s.hp) = go k from funext (go_ok k)] at h
    exact h
theorem run_ok : ∀ (k : Nat) (a : (List UInt8)), rn k 0 (argFr 0 (encA a).1) (encA a).2 = m k a
  | 0, _ => rfl
  | k + 1, x0 => by
    have h := s0 k (rn k) x0
    rw [show (fun s : St => rn k s.lab s.fr s.hp) = go k from funext (go_ok k)] at h
    exact h
theorem snd (k : Nat) : Snd Tryz.prog cfg k ct := fn_snd (X := X) cfgOk mixed ok (np := 0) (vps := []) (vws := []) (decA := decA) (encA := encA) (decB := decB) (encB := encB) (encK := encK) (fun _ b _ => rfl)
  (by
    intro xs H a h
    unfold decA at h
    split at h
    · cases h; exact ⟨rfl, rfl, rfl, rfl⟩
    · cases h)
  (by
    intro v H b h
    unfold decB at h
    split at h
    · cases h; exact ⟨rfl, fun _ _ _ h => (by cases h), rfl⟩
    · cases h)
  rfl k (fun k' _ => AllS.mem (l := X) ⟨number_plain.snd k', number_parts.snd k', number_spaced.snd k', limb_Parse.snd k', lib_is.snd k', number_power.snd k', limb_Of.snd k', ratio_Make.snd k', ratio_Scale.snd k', trivial⟩) (fun a => run_ok k a)
end number_Float

/-! cavil/number.Value -/
namespace number_Value
def b0 (k : Nat) (x0 : Int) (x1 : List UInt8) : Option (Bool × (List Int) × Bool × (List Int) × Er) :=
  bif (x0 == 3) then
    bindO (number_Float.m k x1) fun r1 =>
      some (r1.1, r1.2.1, r1.2.2.1, r1.2.2.2.1, r1.2.2.2.2)
  else
    bif (x0 == 2) then
      bindO (number_Int.m k x1) fun r2 =>
        bif (!r2.2.2.isNil) then
          some (false, (List.replicate 8 (0 : Int)), false, (List.replicate 8 (0 : Int)), r2.2.2)
        else
          bindO (limb_Of.m k 1) fun r3 =>
            bindO (ratio_Make.m k r2.1 r2.2.1 r3.1 r3.2) fun r4 =>
              some (r4.1, r4.2.1, r4.2.2.1, r4.2.2.2.1, r4.2.2.2.2)
    else
      some (false, (List.replicate 8 (0 : Int)), false, (List.replicate 8 (0 : Int)), (.no 11))
def m : Nat → Int → List UInt8 → Option (Bool × (List Int) × Bool × (List Int) × Er)
  | 0, _, _ => none
  | k + 1, x0, x1 => b0 k x0 x1
def anns : Anns := []
noncomputable def code : ACode := codeOf Tryz.f17 anns
def rs : List ResultVar := [.cell 4 46, .tmp 5]
def decA : List AVal → Heap → Option (Int × (List UInt8))
  | [.int .i64 x0, .str x1], [] => some (x0, x1)
  | _, _ => none
def encA (a : Int × (List UInt8)) : List AVal × Heap := ([.int .i64 a.1, .str a.2], [])
def decB : AVal → Heap → Option (Bool × (List Int) × Bool × (List Int) × Er)
  | .tup (.pair (.agg (.pair (.agg (.pair (.bool y0) (.pair (.arr 8 (.int .u64 y1)) .nil))) (.pair (.agg (.pair (.bool y2) (.pair (.arr 8 (.int .u64 y3)) .nil))) .nil))) (.pair (.err y4) .nil)), [] => some (y0, y1, y2, y3, y4)
  | _, _ => none
def encB (b : Bool × (List Int) × Bool × (List Int) × Er) : Out := (.tup (.pair (.agg (.pair (.agg (.pair (.bool b.1) (.pair (.arr 8 (.int .u64 b.2.1)) .nil))) (.pair (.agg (.pair (.bool b.2.2.1) (.pair (.arr 8 (.int .u64 b.2.2.2.1)) .nil))) .nil))) (.pair (.err b.2.2.2.2) .nil)), [], [])
def encK : EncK (Bool × (List Int) × Bool × (List Int) × Er) := fun _ b K => K (encB b)
def X : List Ct := [number_Float.ct, number_Int.ct, limb_Of.ct, ratio_Make.ct]
def ct : Ct := ⟨17, callRun cfg.tt [(3, false), (9, false)] decA (fun k a => m k a.1 a.2) false encK⟩
theorem ok : FnOk Tryz.prog cfg 17 33 code rs := .of Tryz.func17 (by kernel_rfl) rfl rfl (by kernel_rfl) (by kernel_rfl) rfl
abbrev kend : KK (Bool × (List Int) × Bool × (List Int) × Er) := kEnd cfg.tt rs (kFin cfg.tt 0 false [46, 24] [] [] decB)
noncomputable abbrev rn := run cfg X 33 0 code kend
theorem s0 (k : Nat) (J : Nat → Fr → Heap → Option (Bool × (List Int) × Bool × (List Int) × Er)) (x0 : Int) (x1 : List UInt8) : stepJ cfg X 33 0 code kend k J 0 (argFr 0 (encA (x0, x1)).1) (encA (x0, x1)).2 = b0 k x0 x1 := by kernel_rfl
theorem run_ok : ∀ (k : Nat) (a : Int × (List UInt8)), rn k 0 (argFr 0 (encA a).1) (encA a).2 = m k a.1 a.2
  | 0, _ => rfl
  | k + 1, (x0, x1) => by
    have h := s0 k (rn k) x0 x1
    exact h
theorem snd (k : Nat) : Snd Tryz.prog cfg k ct := fn_snd (X := X) cfgOk mixed ok (np := 0) (vps := []) (vws := []) (decA := decA) (encA := encA) (decB := decB) (encB := encB) (encK := encK) (fun _ b _ => rfl)
  (by
    intro xs H a h
    unfold decA at h
    split at h
    · cases h; exact ⟨rfl, rfl, rfl, rfl⟩
    · cases h)
  (by
    intro v H b h
    unfold decB at h
    split at h
    · cases h; exact ⟨rfl, fun _ _ _ h => (by cases h), rfl⟩
    · cases h)
  rfl k (fun k' _ => AllS.mem (l := X) ⟨number_Float.snd k', number_Int.snd k', limb_Of.snd k', ratio_Make.snd k', trivial⟩) (fun a => run_ok k a)
end number_Value

/-! cavil/number.Scan -/
namespace number_Scan
inductive St where
  | l1 (x0 : List UInt8) (x1 : Int) (x2 : List UInt8) (x3 : Bool)
  | l2 (x0 : List UInt8) (x1 : Int) (x2 : List UInt8)
def St.lab : St → Nat
  | .l1 _ _ _ _ => 1
  | .l2 _ _ _ => 2
def St.fr : St → Fr
  | .l1 x0 x1 x2 x3 => [(4, .int .i64 x1), (7, .str x2), (25, .bool x3)]
  | .l2 x0 x1 x2 => [(4, .int .i64 x1), (7, .str x2)]
def St.hp : St → Heap
  | .l1 x0 x1 x2 x3 => [.row 0 1 false 5 (.u8 x0)]
  | .l2 x0 x1 x2 => [.row 0 1 false 5 (.u8 x0)]
def b0 (k : Nat) (J : St → Option (Int × Int × Er)) (x0 : List UInt8) (x1 : Int) : Option (Int × Int × Er) :=
  bindO (number_body.m k x0 x1) fun r1 =>
    bif (r1 == ([] : List UInt8)) then
      some (0, 0, (.no 7))
    else
      bindO (number_base.m k r1) fun r2 =>
        bif (r2 == 0) then
          bif (decide (0 ≤ Lib.indexByte r1 46)) then
            J (.l1 x0 2 r1 true)
          else
            bindO (number_exponent.m k r1) fun r3 =>
              J (.l1 x0 2 r1 (decide (r3 ≥ 0)))
        else
          J (.l1 x0 2 r1 false)
def b1 (k : Nat) (J : St → Option (Int × Int × Er)) (x0 : List UInt8) (x1 : Int) (x2 : List UInt8) (x3 : Bool) : Option (Int × Int × Er) :=
  bif x3 then
    J (.l2 x0 3 x2)
  else
    J (.l2 x0 x1 x2)
def b2 (k : Nat) (J : St → Option (Int × Int × Er)) (x0 : List UInt8) (x1 : Int) (x2 : List UInt8) : Option (Int × Int × Er) :=
  bindO (number_Value.m k x1 x2) fun r1 =>
    some (x1, (x2.length : Int), r1.2.2.2.2)
def go : Nat → St → Option (Int × Int × Er)
  | 0, _ => none
  | k + 1, .l1 x0 x1 x2 x3 => b1 k (go k) x0 x1 x2 x3
  | k + 1, .l2 x0 x1 x2 => b2 k (go k) x0 x1 x2
def m : Nat → List UInt8 → Int → Option (Int × Int × Er)
  | 0, _, _ => none
  | k + 1, x0, x1 => b0 k (go k) x0 x1
def anns : Anns := [(6, 2, [(4, 3, false), (7, 9, false)]), (7, 1, [(4, 3, false), (7, 9, false), (25, 4, false)])]
noncomputable def code : ACode := codeOf Tryz.f8 anns
def rs : List ResultVar := [.tmp 4, .tmp 5, .tmp 6]
def decA : List AVal → Heap → Option ((List UInt8) × Int)
  | [.slice 0 1 .all, .int .i64 x1], [.row 0 1 false 5 (.u8 x0)] => some (x0, x1)
  | _, _ => none
def encA (a : (List UInt8) × Int) : List AVal × Heap := ([.slice 0 1 .all, .int .i64 a.2], [.row 0 1 false 5 (.u8 a.1)])
def decB : AVal → Heap → Option (Int × Int × Er)
  | .tup (.pair (.int .i64 y0) (.pair (.int .i64 y1) (.pair (.err y2) .nil))), [_] => some (y0, y1, y2)
  | _, _ => none
def encB (b : Int × Int × Er) : Out := (.tup (.pair (.int .i64 b.1) (.pair (.int .i64 b.2.1) (.pair (.err b.2.2) .nil))), [], [])
def encK : EncK (Int × Int × Er) := fun _ b K => K (encB b)
def X : List Ct := [number_body.ct, number_base.ct, lib_contains.ct, number_exponent.ct, number_Value.ct]
def ct : Ct := ⟨8, callRun cfg.tt [(22, false), (3, false)] decA (fun k a => m k a.1 a.2) false encK⟩
theorem ok : FnOk Tryz.prog cfg 8 36 code rs := .of Tryz.func8 (by kernel_rfl) rfl rfl (by kernel_rfl) (by kernel_rfl) rfl
abbrev kend : KK (Int × Int × Er) := kEnd cfg.tt rs (kFin cfg.tt 1 false [3, 3, 24] [] [0] decB)
noncomputable abbrev rn := run cfg X 36 1 code kend
theorem s0 (k : Nat) (J : Nat → Fr → Heap → Option (Int × Int × Er)) (x0 : List UInt8) (x1 : Int) : stepJ cfg X 36 1 code kend k J 0 (argFr 0 (encA (x0, x1)).1) (encA (x0, x1)).2 = b0 k (fun s => J s.lab s.fr s.hp) x0 x1 := by kernel_rfl
theorem s1 (k : Nat) (J : Nat → Fr → Heap → Option (Int × Int × Er)) (x0 : List UInt8) (x1 : Int) (x2 : List UInt8) (x3 : Bool) : stepJ cfg X 36 1 code kend k J (St.l1 x0 x1 x2 x3).lab (St.l1 x0 x1 x2 x3).fr (St.l1 x0 x1 x2 x3).hp = b1 k (fun s => J s.lab s.fr s.hp) x0 x1 x2 x3 := by kernel_rfl
theorem s2 (k : Nat) (J : Nat → Fr → Heap → Option (Int × Int × Er)) (x0 : List UInt8) (x1 : Int) (x2 : List UInt8) : stepJ cfg X 36 1 code kend k J (St.l2 x0 x1 x2).lab (St.l2 x0 x1 x2).fr (St.l2 x0 x1 x2).hp = b2 k (fun s => J s.lab s.fr s.hp) x0 x1 x2 := by kernel_rfl
theorem go_ok : ∀ (k : Nat) (s : St), rn k s.lab s.fr s.hp = go k s
  | 0, _ => rfl
  | k + 1, .l1 x0 x1 x2 x3 => by
    have h := s1 k (rn k) x0 x1 x2 x3
    rw [show (fun s : St => rn k s.lab s.fr s.hp) = go k from funext (go_ok k)] at h
    exact h
  | k + 1, .l2 x0 x1 x2 => by
    have h := s2 k (rn k) x0 x1 x2
    rw [show (fun s : St => rn k s.lab s.fr s.hp) = go k from funext (go_ok k)] at h
    exact h
theorem run_ok : ∀ (k : Nat) (a : (List UInt8) × Int), rn k 0 (argFr 0 (encA a).1) (encA a).2 = m k a.1 a.2
  | 0, _ => rfl
  | k + 1, (x0, x1) => by
    have h := s0 k (rn k) x0 x1
    rw [show (fun s : St => rn k s.lab s.fr s.hp) = go k from funext (go_ok k)] at h
    exact h
theorem snd (k : Nat) : Snd Tryz.prog cfg k ct := fn_snd (X := X) cfgOk mixed ok (np := 1) (vps := []) (vws := [0]) (decA := decA) (encA := encA) (decB := decB) (encB := encB) (encK := encK) (fun _ b _ => rfl)
  (by
    intro xs H a h
    unfold decA at h
    split at h
    · cases h; exact ⟨rfl, rfl, rfl, rfl⟩
    · cases h)
  (by
    intro v H b h
    unfold decB at h
    split at h
    · cases h; exact ⟨rfl, fun _ _ _ h => (by cases h), rfl⟩
    · cases h)
  rfl k (fun k' _ => AllS.mem (l := X) ⟨number_body.snd k', number_base.snd k', lib_contains.snd k', number_exponent.snd k', number_Value.snd k', trivial⟩) (fun a => run_ok k a)
end number_Scan
end Go.Proofs.YtaakccdfgejgpaaGreatDoor
