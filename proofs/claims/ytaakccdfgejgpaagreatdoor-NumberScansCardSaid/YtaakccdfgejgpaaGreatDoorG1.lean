/-
  Functions of the program as Lean functions with fuel; their contracts. Written by a program of this session.
-/
import Derived.Test.YtaakccdfgejgpaaGreatDoorGLib
namespace Go.Proofs.YtaakccdfgejgpaaGreatDoor
open Go Abs
set_option linter.unusedVariables false
set_option maxRecDepth 100000
/-! math/bits.Len64 -/
namespace bits_Len64
inductive St where
  | l1 (x0 : Int) (x1 : Int)
  | l2 (x0 : Int) (x1 : Int)
def St.lab : St → Nat
  | .l1 _ _ => 1
  | .l2 _ _ => 2
def St.fr : St → Fr
  | .l1 x0 x1 => [(0, .int .u64 x0), (2, .int .i64 x1)]
  | .l2 x0 x1 => [(0, .int .u64 x0), (2, .int .i64 x1)]
def St.hp : St → Heap
  | .l1 x0 x1 => []
  | .l2 x0 x1 => []
def b0 (k : Nat) (J : St → Option (Int)) (x0 : Int) : Option (Int) :=
  bif (decide (x0 ≥ 4294967296)) then
    J (.l1 (shrI .u64 x0 32) 32)
  else
    J (.l1 x0 0)
def b1 (k : Nat) (J : St → Option (Int)) (x0 : Int) (x1 : Int) : Option (Int) :=
  bif (decide (x0 ≥ 65536)) then
    J (.l2 (shrI .u64 x0 16) (wr .i64 (x1 + 16)))
  else
    J (.l2 x0 x1)
def b2 (k : Nat) (J : St → Option (Int)) (x0 : Int) (x1 : Int) : Option (Int) :=
  bif (decide (x0 ≥ 256)) then
    gk (inB (wr .u8 (shrI .u64 x0 8)) ([0, 1, 2, 2, 3, 3, 3, 3, 4, 4, 4, 4, 4, 4, 4, 4, 5, 5, 5, 5, 5, 5, 5, 5, 5, 5, 5, 5, 5, 5, 5, 5, 6, 6, 6, 6, 6, 6, 6, 6, 6, 6, 6, 6, 6, 6, 6, 6, 6, 6, 6, 6, 6, 6, 6, 6, 6, 6, 6, 6, 6, 6, 6, 6, 7, 7, 7, 7, 7, 7, 7, 7, 7, 7, 7, 7, 7, 7, 7, 7, 7, 7, 7, 7, 7, 7, 7, 7, 7, 7, 7, 7, 7, 7, 7, 7, 7, 7, 7, 7, 7, 7, 7, 7, 7, 7, 7, 7, 7, 7, 7, 7, 7, 7, 7, 7, 7, 7, 7, 7, 7, 7, 7, 7, 7, 7, 7, 7, 8, 8, 8, 8, 8, 8, 8, 8, 8, 8, 8, 8, 8, 8, 8, 8, 8, 8, 8, 8, 8, 8, 8, 8, 8, 8, 8, 8, 8, 8, 8, 8, 8, 8, 8, 8, 8, 8, 8, 8, 8, 8, 8, 8, 8, 8, 8, 8, 8, 8, 8, 8, 8, 8, 8, 8, 8, 8, 8, 8, 8, 8, 8, 8, 8, 8, 8, 8, 8, 8, 8, 8, 8, 8, 8, 8, 8, 8, 8, 8, 8, 8, 8, 8, 8, 8, 8, 8, 8, 8, 8, 8, 8, 8, 8, 8, 8, 8, 8, 8, 8, 8, 8, 8, 8, 8, 8, 8, 8, 8, 8, 8, 8, 8, 8, 8, 8, 8, 8, 8, 8, 8, 8, 8, 8, 8, 8, 8] : List UInt8).length)
      (some (wr .i64 ((wr .i64 (x1 + 8)) + (wr .i64 (byt ([0, 1, 2, 2, 3, 3, 3, 3, 4, 4, 4, 4, 4, 4, 4, 4, 5, 5, 5, 5, 5, 5, 5, 5, 5, 5, 5, 5, 5, 5, 5, 5, 6, 6, 6, 6, 6, 6, 6, 6, 6, 6, 6, 6, 6, 6, 6, 6, 6, 6, 6, 6, 6, 6, 6, 6, 6, 6, 6, 6, 6, 6, 6, 6, 7, 7, 7, 7, 7, 7, 7, 7, 7, 7, 7, 7, 7, 7, 7, 7, 7, 7, 7, 7, 7, 7, 7, 7, 7, 7, 7, 7, 7, 7, 7, 7, 7, 7, 7, 7, 7, 7, 7, 7, 7, 7, 7, 7, 7, 7, 7, 7, 7, 7, 7, 7, 7, 7, 7, 7, 7, 7, 7, 7, 7, 7, 7, 7, 8, 8, 8, 8, 8, 8, 8, 8, 8, 8, 8, 8, 8, 8, 8, 8, 8, 8, 8, 8, 8, 8, 8, 8, 8, 8, 8, 8, 8, 8, 8, 8, 8, 8, 8, 8, 8, 8, 8, 8, 8, 8, 8, 8, 8, 8, 8, 8, 8, 8, 8, 8, 8, 8, 8, 8, 8, 8, 8, 8, 8, 8, 8, 8, 8, 8, 8, 8, 8, 8, 8, 8, 8, 8, 8, 8, 8, 8, 8, 8, 8, 8, 8, 8, 8, 8, 8, 8, 8, 8, 8, 8, 8, 8, 8, 8, 8, 8, 8, 8, 8, 8, 8, 8, 8, 8, 8, 8, 8, 8, 8, 8, 8, 8, 8, 8, 8, 8, 8, 8, 8, 8, 8, 8, 8, 8, 8, 8] : List UInt8) (wr .u8 (shrI .u64 x0 8)))))))
  else
    gk (inB (wr .u8 x0) ([0, 1, 2, 2, 3, 3, 3, 3, 4, 4, 4, 4, 4, 4, 4, 4, 5, 5, 5, 5, 5, 5, 5, 5, 5, 5, 5, 5, 5, 5, 5, 5, 6, 6, 6, 6, 6, 6, 6, 6, 6, 6, 6, 6, 6, 6, 6, 6, 6, 6, 6, 6, 6, 6, 6, 6, 6, 6, 6, 6, 6, 6, 6, 6, 7, 7, 7, 7, 7, 7, 7, 7, 7, 7, 7, 7, 7, 7, 7, 7, 7, 7, 7, 7, 7, 7, 7, 7, 7, 7, 7, 7, 7, 7, 7, 7, 7, 7, 7, 7, 7, 7, 7, 7, 7, 7, 7, 7, 7, 7, 7, 7, 7, 7, 7, 7, 7, 7, 7, 7, 7, 7, 7, 7, 7, 7, 7, 7, 8, 8, 8, 8, 8, 8, 8, 8, 8, 8, 8, 8, 8, 8, 8, 8, 8, 8, 8, 8, 8, 8, 8, 8, 8, 8, 8, 8, 8, 8, 8, 8, 8, 8, 8, 8, 8, 8, 8, 8, 8, 8, 8, 8, 8, 8, 8, 8, 8, 8, 8, 8, 8, 8, 8, 8, 8, 8, 8, 8, 8, 8, 8, 8, 8, 8, 8, 8, 8, 8, 8, 8, 8, 8, 8, 8, 8, 8, 8, 8, 8, 8, 8, 8, 8, 8, 8, 8, 8, 8, 8, 8, 8, 8, 8, 8, 8, 8, 8, 8, 8, 8, 8, 8, 8, 8, 8, 8, 8, 8, 8, 8, 8, 8, 8, 8, 8, 8, 8, 8, 8, 8, 8, 8, 8, 8, 8, 8] : List UInt8).length)
      (some (wr .i64 (x1 + (wr .i64 (byt ([0, 1, 2, 2, 3, 3, 3, 3, 4, 4, 4, 4, 4, 4, 4, 4, 5, 5, 5, 5, 5, 5, 5, 5, 5, 5, 5, 5, 5, 5, 5, 5, 6, 6, 6, 6, 6, 6, 6, 6, 6, 6, 6, 6, 6, 6, 6, 6, 6, 6, 6, 6, 6, 6, 6, 6, 6, 6, 6, 6, 6, 6, 6, 6, 7, 7, 7, 7, 7, 7, 7, 7, 7, 7, 7, 7, 7, 7, 7, 7, 7, 7, 7, 7, 7, 7, 7, 7, 7, 7, 7, 7, 7, 7, 7, 7, 7, 7, 7, 7, 7, 7, 7, 7, 7, 7, 7, 7, 7, 7, 7, 7, 7, 7, 7, 7, 7, 7, 7, 7, 7, 7, 7, 7, 7, 7, 7, 7, 8, 8, 8, 8, 8, 8, 8, 8, 8, 8, 8, 8, 8, 8, 8, 8, 8, 8, 8, 8, 8, 8, 8, 8, 8, 8, 8, 8, 8, 8, 8, 8, 8, 8, 8, 8, 8, 8, 8, 8, 8, 8, 8, 8, 8, 8, 8, 8, 8, 8, 8, 8, 8, 8, 8, 8, 8, 8, 8, 8, 8, 8, 8, 8, 8, 8, 8, 8, 8, 8, 8, 8, 8, 8, 8, 8, 8, 8, 8, 8, 8, 8, 8, 8, 8, 8, 8, 8, 8, 8, 8, 8, 8, 8, 8, 8, 8, 8, 8, 8, 8, 8, 8, 8, 8, 8, 8, 8, 8, 8, 8, 8, 8, 8, 8, 8, 8, 8, 8, 8, 8, 8, 8, 8, 8, 8, 8, 8] : List UInt8) (wr .u8 x0))))))
def go : Nat → St → Option (Int)
  | 0, _ => none
  | k + 1, .l1 x0 x1 => b1 k (go k) x0 x1
  | k + 1, .l2 x0 x1 => b2 k (go k) x0 x1
def m : Nat → Int → Option (Int)
  | 0, _ => none
  | k + 1, x0 => b0 k (go k) x0
def anns : Anns := [(1, 1, [(0, 32, false), (2, 3, false)]), (4, 2, [(0, 32, false), (2, 3, false)])]
noncomputable def code : ACode := codeOf Tryz.f124 anns
def rs : List ResultVar := [.tmp 2]
def decA : List AVal → Heap → Option (Int)
  | [.int .u64 x0], [] => some x0
  | _, _ => none
def encA (a : Int) : List AVal × Heap := ([.int .u64 a], [])
def decB : AVal → Heap → Option (Int)
  | .int .i64 y0, [] => some y0
  | _, _ => none
def encB (b : Int) : Out := (.int .i64 b, [], [])
def encK : EncK (Int) := fun _ b K => K (encB b)
def X : List Ct := []
def ct : Ct := ⟨124, callRun cfg.tt [(32, false)] decA (fun k a => m k a) false encK⟩
theorem ok : FnOk Tryz.prog cfg 124 25 code rs := .of Tryz.func124 (by kernel_rfl) rfl rfl (by kernel_rfl) (by kernel_rfl) rfl
abbrev kend : KK (Int) := kEnd cfg.tt rs (kFin cfg.tt 0 false [3] [] [] decB)
noncomputable abbrev rn := run cfg X 25 0 code kend
theorem s0 (k : Nat) (J : Nat → Fr → Heap → Option (Int)) (x0 : Int) : stepJ cfg X 25 0 code kend k J 0 (argFr 0 (encA x0).1) (encA x0).2 = b0 k (fun s => J s.lab s.fr s.hp) x0 := by kernel_rfl
theorem s1 (k : Nat) (J : Nat → Fr → Heap → Option (Int)) (x0 : Int) (x1 : Int) : stepJ cfg X 25 0 code kend k J (St.l1 x0 x1).lab (St.l1 x0 x1).fr (St.l1 x0 x1).hp = b1 k (fun s => J s.lab s.fr s.hp) x0 x1 := by kernel_rfl
theorem s2 (k : Nat) (J : Nat → Fr → Heap → Option (Int)) (x0 : Int) (x1 : Int) : stepJ cfg X 25 0 code kend k J (St.l2 x0 x1).lab (St.l2 x0 x1).fr (St.l2 x0 x1).hp = b2 k (fun s => J s.lab s.fr s.hp) x0 x1 := by kernel_rfl
theorem go_ok : ∀ (k : Nat) (s : St), rn k s.lab s.fr s.hp = go k s
  | 0, _ => rfl
  | k + 1, .l1 x0 x1 => by
    have h := s1 k (rn k) x0 x1
    rw [show (fun s : St => rn k s.lab s.fr s.hp) = go k from funext (go_ok k)] at h
    exact h
  | k + 1, .l2 x0 x1 => by
    have h := s2 k (rn k) x0 x1
    rw [show (fun s : St => rn k s.lab s.fr s.hp) = go k from funext (go_ok k)] at h
    exact h
theorem run_ok : ∀ (k : Nat) (a : Int), rn k 0 (argFr 0 (encA a).1) (encA a).2 = m k a
  | 0, _ => rfl
  | k + 1, x0 => by
    have h := s0 k (rn k) x0
    rw [show (fun s : St => rn k s.lab s.fr s.hp) = go k from funext (go_ok k)] at h
    exact h
theorem snd (k : Nat) : Snd Tryz.prog cfg k ct := fn_snd (X := X) cfgOk mixed ok (np := 0) (vps := []) (vws := []) (decA := decA) (encA := encA) (decB := decB) (encB := encB) (encK := encK) (fun _ b _ => rfl)
  (by
    intro xs H a h
    unfold decA at h
    split at h
    · cases h; exact ⟨rfl, rfl, rfl, rfl⟩
    · cases h)
  (by
    intro v H b h
    unfold decB at h
    split at h
    · cases h; exact ⟨rfl, fun _ _ _ h => (by cases h), rfl⟩
    · cases h)
  rfl k (fun k' _ => AllS.mem (l := X) trivial) (fun a => run_ok k a)
end bits_Len64

/-! slices.Reverse[[]byte,byte] -/
namespace slices_Reverse_byte_byte
inductive St where
  | l1 (x0 : List UInt8) (x1 : Int) (x2 : Int)
def St.lab : St → Nat
  | .l1 _ _ _ => 1
def St.fr : St → Fr
  | .l1 x0 x1 x2 => [(0, .slice 0 1 .all), (2, .int .i64 x1), (3, .int .i64 x2)]
def St.hp : St → Heap
  | .l1 x0 x1 x2 => [.row 0 1 true 5 (.u8 x0)]
def b0 (k : Nat) (J : St → Option ((List UInt8))) (x0 : List UInt8) : Option ((List UInt8)) :=
  J (.l1 x0 0 (wr .i64 ((x0.length : Int) - 1)))
def b1 (k : Nat) (J : St → Option ((List UInt8))) (x0 : List UInt8) (x1 : Int) (x2 : Int) : Option ((List UInt8)) :=
  bif (decide (x1 < x2)) then
    gk (inB x2 x0.length)
      (gk (inB x1 x0.length)
        (gk (inB x1 x0.length)
          (gk (inB x2 (x0.set x1.toNat (toU8 ((x0.getD x2.toNat 0).toNat : Int))).length)
            (J (.l1 ((x0.set x1.toNat (toU8 ((x0.getD x2.toNat 0).toNat : Int))).set x2.toNat (toU8 ((x0.getD x1.toNat 0).toNat : Int))) (wr .i64 (x1 + 1)) (wr .i64 (x2 - 1)))))))
  else
    some x0
def go : Nat → St → Option ((List UInt8))
  | 0, _ => none
  | k + 1, .l1 x0 x1 x2 => b1 k (go k) x0 x1 x2
def m : Nat → List UInt8 → Option ((List UInt8))
  | 0, _ => none
  | k + 1, x0 => b0 k (go k) x0
def anns : Anns := [(1, 1, [(0, 22, true), (2, 3, true), (3, 3, true)])]
noncomputable def code : ACode := codeOf Tryz.f48 anns
def rs : List ResultVar := []
def decA : List AVal → Heap → Option ((List UInt8))
  | [.slice 0 1 .all], [.row 0 1 true 5 (.u8 x0)] => some x0
  | _, _ => none
def encA (a : (List UInt8)) : List AVal × Heap := ([.slice 0 1 .all], [.row 0 1 true 5 (.u8 a)])
def decB : AVal → Heap → Option ((List UInt8))
  | .tup .nil, [.row _ 1 true _ (.u8 y)] => some y
  | _, _ => none
def X : List Ct := []
def ct : Ct := ⟨48, inpRun 5 m⟩
theorem ok : FnOk Tryz.prog cfg 48 28 code rs := .of Tryz.func48 (by kernel_rfl) rfl rfl (by kernel_rfl) (by kernel_rfl) rfl
abbrev kend : KK ((List UInt8)) := kEnd cfg.tt rs (kFin cfg.tt 1 false [] [] [] decB)
noncomputable abbrev rn := run cfg X 28 1 code kend
theorem s0 (k : Nat) (J : Nat → Fr → Heap → Option ((List UInt8))) (x0 : List UInt8) : stepJ cfg X 28 1 code kend k J 0 (argFr 0 (encA x0).1) (encA x0).2 = b0 k (fun s => J s.lab s.fr s.hp) x0 := by kernel_rfl
theorem s1 (k : Nat) (J : Nat → Fr → Heap → Option ((List UInt8))) (x0 : List UInt8) (x1 : Int) (x2 : Int) : stepJ cfg X 28 1 code kend k J (St.l1 x0 x1 x2).lab (St.l1 x0 x1 x2).fr (St.l1 x0 x1 x2).hp = b1 k (fun s => J s.lab s.fr s.hp) x0 x1 x2 := by kernel_rfl
theorem go_ok : ∀ (k : Nat) (s : St), rn k s.lab s.fr s.hp = go k s
  | 0, _ => rfl
  | k + 1, .l1 x0 x1 x2 => by
    have h := s1 k (rn k) x0 x1 x2
    rw [show (fun s : St => rn k s.lab s.fr s.hp) = go k from funext (go_ok k)] at h
    exact h
theorem run_ok : ∀ (k : Nat) (a : (List UInt8)), rn k 0 (argFr 0 (encA a).1) (encA a).2 = m k a
  | 0, _ => rfl
  | k + 1, x0 => by
    have h := s0 k (rn k) x0
    rw [show (fun s : St => rn k s.lab s.fr s.hp) = go k from funext (go_ok k)] at h
    exact h
theorem snd (k : Nat) : Snd Tryz.prog cfg k ct := inp_snd (X := X) (t := 0) cfgOk mixed ok (decB := decB)
  (by
    intro v H l h
    unfold decB at h
    split at h
    · cases h; exact ⟨rfl, _, _, rfl⟩
    · cases h)
  rfl k (fun k' _ => AllS.mem (l := X) trivial) (fun l => run_ok k l)
end slices_Reverse_byte_byte

/-! math/bits.LeadingZeros64 -/
namespace bits_LeadingZeros64
def b0 (k : Nat) (x0 : Int) : Option (Int) :=
  bindO (bits_Len64.m k x0) fun r1 =>
    some (wr .i64 (64 - r1))
def m : Nat → Int → Option (Int)
  | 0, _ => none
  | k + 1, x0 => b0 k x0
def anns : Anns := []
noncomputable def code : ACode := codeOf Tryz.f107 anns
def rs : List ResultVar := [.tmp 2]
def decA : List AVal → Heap → Option (Int)
  | [.int .u64 x0], [] => some x0
  | _, _ => none
def encA (a : Int) : List AVal × Heap := ([.int .u64 a], [])
def decB : AVal → Heap → Option (Int)
  | .int .i64 y0, [] => some y0
  | _, _ => none
def encB (b : Int) : Out := (.int .i64 b, [], [])
def encK : EncK (Int) := fun _ b K => K (encB b)
def X : List Ct := [bits_Len64.ct]
def ct : Ct := ⟨107, callRun cfg.tt [(32, false)] decA (fun k a => m k a) false encK⟩
theorem ok : FnOk Tryz.prog cfg 107 6 code rs := .of Tryz.func107 (by kernel_rfl) rfl rfl (by kernel_rfl) (by kernel_rfl) rfl
abbrev kend : KK (Int) := kEnd cfg.tt rs (kFin cfg.tt 0 false [3] [] [] decB)
noncomputable abbrev rn := run cfg X 6 0 code kend
theorem s0 (k : Nat) (J : Nat → Fr → Heap → Option (Int)) (x0 : Int) : stepJ cfg X 6 0 code kend k J 0 (argFr 0 (encA x0).1) (encA x0).2 = b0 k x0 := by kernel_rfl
theorem run_ok : ∀ (k : Nat) (a : Int), rn k 0 (argFr 0 (encA a).1) (encA a).2 = m k a
  | 0, _ => rfl
  | k + 1, x0 => by
    have h := s0 k (rn k) x0
    exact h
theorem snd (k : Nat) : Snd Tryz.prog cfg k ct := fn_snd (X := X) cfgOk mixed ok (np := 0) (vps := []) (vws := []) (decA := decA) (encA := encA) (decB := decB) (encB := encB) (encK := encK) (fun _ b _ => rfl)
  (by
    intro xs H a h
    unfold decA at h
    split at h
    · cases h; exact ⟨rfl, rfl, rfl, rfl⟩
    · cases h)
  (by
    intro v H b h
    unfold decB at h
    split at h
    · cases h; exact ⟨rfl, fun _ _ _ h => (by cases h), rfl⟩
    · cases h)
  rfl k (fun k' _ => AllS.mem (l := X) ⟨bits_Len64.snd k', trivial⟩) (fun a => run_ok k a)
end bits_LeadingZeros64

/-! math/bits.Mul64 -/
namespace bits_Mul64
def b0 (k : Nat) (x0 : Int) (x1 : Int) : Option (Int × Int) :=
  some ((wr .u64 ((wr .u64 ((wr .u64 ((shrI .u64 x0 32) * (shrI .u64 x1 32))) + (shrI .u64 (wr .u64 ((wr .u64 ((shrI .u64 x0 32) * (Go.bits .and .u64 x1 4294967295))) + (shrI .u64 (wr .u64 ((Go.bits .and .u64 x0 4294967295) * (Go.bits .and .u64 x1 4294967295))) 32))) 32))) + (shrI .u64 (wr .u64 ((Go.bits .and .u64 (wr .u64 ((wr .u64 ((shrI .u64 x0 32) * (Go.bits .and .u64 x1 4294967295))) + (shrI .u64 (wr .u64 ((Go.bits .and .u64 x0 4294967295) * (Go.bits .and .u64 x1 4294967295))) 32))) 4294967295) + (wr .u64 ((Go.bits .and .u64 x0 4294967295) * (shrI .u64 x1 32))))) 32))), (wr .u64 (x0 * x1)))
def m : Nat → Int → Int → Option (Int × Int)
  | 0, _, _ => none
  | k + 1, x0, x1 => b0 k x0 x1
def anns : Anns := []
noncomputable def code : ACode := codeOf Tryz.f85 anns
def rs : List ResultVar := [.tmp 4, .tmp 5]
def decA : List AVal → Heap → Option (Int × Int)
  | [.int .u64 x0, .int .u64 x1], [] => some (x0, x1)
  | _, _ => none
def encA (a : Int × Int) : List AVal × Heap := ([.int .u64 a.1, .int .u64 a.2], [])
def decB : AVal → Heap → Option (Int × Int)
  | .tup (.pair (.int .u64 y0) (.pair (.int .u64 y1) .nil)), [] => some (y0, y1)
  | _, _ => none
def encB (b : Int × Int) : Out := (.tup (.pair (.int .u64 b.1) (.pair (.int .u64 b.2) .nil)), [], [])
def encK : EncK (Int × Int) := fun _ b K => K (encB b)
def X : List Ct := []
def ct : Ct := ⟨85, callRun cfg.tt [(32, false), (32, false)] decA (fun k a => m k a.1 a.2) false encK⟩
theorem ok : FnOk Tryz.prog cfg 85 51 code rs := .of Tryz.func85 (by kernel_rfl) rfl rfl (by kernel_rfl) (by kernel_rfl) rfl
abbrev kend : KK (Int × Int) := kEnd cfg.tt rs (kFin cfg.tt 0 false [32, 32] [] [] decB)
noncomputable abbrev rn := run cfg X 51 0 code kend
theorem s0 (k : Nat) (J : Nat → Fr → Heap → Option (Int × Int)) (x0 : Int) (x1 : Int) : stepJ cfg X 51 0 code kend k J 0 (argFr 0 (encA (x0, x1)).1) (encA (x0, x1)).2 = b0 k x0 x1 := by kernel_rfl
theorem run_ok : ∀ (k : Nat) (a : Int × Int), rn k 0 (argFr 0 (encA a).1) (encA a).2 = m k a.1 a.2
  | 0, _ => rfl
  | k + 1, (x0, x1) => by
    have h := s0 k (rn k) x0 x1
    exact h
theorem snd (k : Nat) : Snd Tryz.prog cfg k ct := fn_snd (X := X) cfgOk mixed ok (np := 0) (vps := []) (vws := []) (decA := decA) (encA := encA) (decB := decB) (encB := encB) (encK := encK) (fun _ b _ => rfl)
  (by
    intro xs H a h
    unfold decA at h
    split at h
    · cases h; exact ⟨rfl, rfl, rfl, rfl⟩
    · cases h)
  (by
    intro v H b h
    unfold decB at h
    split at h
    · cases h; exact ⟨rfl, fun _ _ _ h => (by cases h), rfl⟩
    · cases h)
  rfl k (fun k' _ => AllS.mem (l := X) trivial) (fun a => run_ok k a)
end bits_Mul64

/-! math/bits.Div64 -/
namespace bits_Div64
inductive St where
  | l1 (x0 : Int) (x1 : Int) (x2 : Int)
  | l2 (x0 : Int) (x1 : Int) (x2 : Int)
  | l3 (x0 : Int) (x1 : Int) (x2 : Int) (x3 : Int) (x4 : Int) (x5 : Int) (x6 : Int) (x7 : Int) (x8 : Int)
  | l4 (x0 : Int) (x1 : Int) (x2 : Int) (x3 : Int) (x4 : Int) (x5 : Int) (x6 : Int) (x7 : Int) (x8 : Int) (x9 : Bool)
  | l5 (x0 : Int) (x1 : Int) (x2 : Int) (x3 : Int) (x4 : Int) (x5 : Int) (x6 : Int) (x7 : Int)
  | l6 (x0 : Int) (x1 : Int) (x2 : Int) (x3 : Int) (x4 : Int) (x5 : Int) (x6 : Int) (x7 : Int) (x8 : Int)
  | l7 (x0 : Int) (x1 : Int) (x2 : Int) (x3 : Int) (x4 : Int) (x5 : Int) (x6 : Int) (x7 : Int) (x8 : Int) (x9 : Bool)
  | l8 (x0 : Int) (x1 : Int) (x2 : Int) (x3 : Int) (x4 : Int) (x5 : Int)
def St.lab : St → Nat
  | .l1 _ _ _ => 1
  | .l2 _ _ _ => 2
  | .l3 _ _ _ _ _ _ _ _ _ => 3
  | .l4 _ _ _ _ _ _ _ _ _ _ => 4
  | .l5 _ _ _ _ _ _ _ _ => 5
  | .l6 _ _ _ _ _ _ _ _ _ => 6
  | .l7 _ _ _ _ _ _ _ _ _ _ => 7
  | .l8 _ _ _ _ _ _ => 8
def St.fr : St → Fr
  | .l1 x0 x1 x2 => [(0, .int .u64 x0), (1, .int .u64 x1), (2, .int .u64 x2)]
  | .l2 x0 x1 x2 => [(0, .int .u64 x0), (1, .int .u64 x1), (2, .int .u64 x2)]
  | .l3 x0 x1 x2 x3 x4 x5 x6 x7 x8 => [(2, .int .u64 x0), (8, .int .u64 x1), (9, .int .u64 x2), (10, .int .u64 x3), (11, .int .u64 x4), (13, .int .u64 x5), (14, .int .u64 x6), (15, .int .u64 x7), (16, .int .u64 x8)]
  | .l4 x0 x1 x2 x3 x4 x5 x6 x7 x8 x9 => [(2, .int .u64 x0), (8, .int .u64 x1), (9, .int .u64 x2), (10, .int .u64 x3), (11, .int .u64 x4), (13, .int .u64 x5), (14, .int .u64 x6), (15, .int .u64 x7), (16, .int .u64 x8), (78, .bool x9)]
  | .l5 x0 x1 x2 x3 x4 x5 x6 x7 => [(2, .int .u64 x0), (8, .int .u64 x1), (9, .int .u64 x2), (10, .int .u64 x3), (11, .int .u64 x4), (13, .int .u64 x5), (14, .int .u64 x6), (15, .int .u64 x7)]
  | .l6 x0 x1 x2 x3 x4 x5 x6 x7 x8 => [(2, .int .u64 x0), (8, .int .u64 x1), (9, .int .u64 x2), (10, .int .u64 x3), (14, .int .u64 x4), (15, .int .u64 x5), (16, .int .u64 x6), (17, .int .u64 x7), (18, .int .u64 x8)]
  | .l7 x0 x1 x2 x3 x4 x5 x6 x7 x8 x9 => [(2, .int .u64 x0), (8, .int .u64 x1), (9, .int .u64 x2), (10, .int .u64 x3), (14, .int .u64 x4), (15, .int .u64 x5), (16, .int .u64 x6), (17, .int .u64 x7), (18, .int .u64 x8), (113, .bool x9)]
  | .l8 x0 x1 x2 x3 x4 x5 => [(2, .int .u64 x0), (8, .int .u64 x1), (14, .int .u64 x2), (15, .int .u64 x3), (17, .int .u64 x4), (18, .int .u64 x5)]
def St.hp : St → Heap
  | .l1 x0 x1 x2 => []
  | .l2 x0 x1 x2 => []
  | .l3 x0 x1 x2 x3 x4 x5 x6 x7 x8 => []
  | .l4 x0 x1 x2 x3 x4 x5 x6 x7 x8 x9 => []
  | .l5 x0 x1 x2 x3 x4 x5 x6 x7 => []
  | .l6 x0 x1 x2 x3 x4 x5 x6 x7 x8 => []
  | .l7 x0 x1 x2 x3 x4 x5 x6 x7 x8 x9 => []
  | .l8 x0 x1 x2 x3 x4 x5 => []
def b0 (k : Nat) (J : St → Option (Int × Int)) (x0 : Int) (x1 : Int) (x2 : Int) : Option (Int × Int) :=
  bif (x2 == 0) then
    none
  else
    J (.l1 x0 x1 x2)
def b1 (k : Nat) (J : St → Option (Int × Int)) (x0 : Int) (x1 : Int) (x2 : Int) : Option (Int × Int) :=
  bif (decide (x2 ≤ x0)) then
    none
  else
    J (.l2 x0 x1 x2)
def b2 (k : Nat) (J : St → Option (Int × Int)) (x0 : Int) (x1 : Int) (x2 : Int) : Option (Int × Int) :=
  bif (x0 == 0) then
    gk (nz x2)
      (gk (nz x2)
        (some ((quoI .u64 x1 x2), (remI x1 x2))))
  else
    bindO (bits_LeadingZeros64.m k x2) fun r1 =>
      gk (nn (wr .u64 r1))
        (gk (nn (wr .u64 r1))
          (gk (nn (wr .u64 (64 - (wr .u64 r1))))
            (gk (nn (wr .u64 r1))
              (gk (nz (shrI .u64 (shlI .u64 x2 (wr .u64 r1)) 32))
                (J (.l3 (shlI .u64 x2 (wr .u64 r1)) (wr .u64 r1) (shrI .u64 (shlI .u64 x2 (wr .u64 r1)) 32) (Go.bits .and .u64 (shlI .u64 x2 (wr .u64 r1)) 4294967295) (Go.bits .or .u64 (shlI .u64 x0 (wr .u64 r1)) (shrI .u64 x1 (wr .u64 (64 - (wr .u64 r1))))) (shrI .u64 (shlI .u64 x1 (wr .u64 r1)) 32) (Go.bits .and .u64 (shlI .u64 x1 (wr .u64 r1)) 4294967295) (quoI .u64 (Go.bits .or .u64 (shlI .u64 x0 (wr .u64 r1)) (shrI .u64 x1 (wr .u64 (64 - (wr .u64 r1))))) (shrI .u64 (shlI .u64 x2 (wr .u64 r1)) 32)) (wr .u64 ((Go.bits .or .u64 (shlI .u64 x0 (wr .u64 r1)) (shrI .u64 x1 (wr .u64 (64 - (wr .u64 r1))))) - (wr .u64 ((quoI .u64 (Go.bits .or .u64 (shlI .u64 x0 (wr .u64 r1)) (shrI .u64 x1 (wr .u64 (64 - (wr .u64 r1))))) (shrI .u64 (shlI .u64 x2 (wr .u64 r1)) 32)) * (shrI .u64 (shlI .u64 x2 (wr .u64 r1)) 32)))))))))))
def b3 (k : Nat) (J : St → Option (Int × Int)) (x0 : Int) (x1 : Int) (x2 : Int) (x3 : Int) (x4 : Int) (x5 : Int) (x6 : Int) (x7 : Int) (x8 : Int) : Option (Int × Int) :=
  bif (decide (x7 ≥ 4294967296)) then
    J (.l4 x0 x1 x2 x3 x4 x5 x6 x7 x8 true)
  else
    J (.l4 x0 x1 x2 x3 x4 x5 x6 x7 x8 (decide ((wr .u64 (x7 * x3)) > (wr .u64 ((wr .u64 (4294967296 * x8)) + x5)))))
def b4 (k : Nat) (J : St → Option (Int × Int)) (x0 : Int) (x1 : Int) (x2 : Int) (x3 : Int) (x4 : Int) (x5 : Int) (x6 : Int) (x7 : Int) (x8 : Int) (x9 : Bool) : Option (Int × Int) :=
  bif x9 then
    bif (decide ((wr .u64 (x8 + x2)) ≥ 4294967296)) then
      J (.l5 x0 x1 x2 x3 x4 x5 x6 (wr .u64 (x7 - 1)))
    else
      J (.l3 x0 x1 x2 x3 x4 x5 x6 (wr .u64 (x7 - 1)) (wr .u64 (x8 + x2)))
  else
    J (.l5 x0 x1 x2 x3 x4 x5 x6 x7)
def b5 (k : Nat) (J : St → Option (Int × Int)) (x0 : Int) (x1 : Int) (x2 : Int) (x3 : Int) (x4 : Int) (x5 : Int) (x6 : Int) (x7 : Int) : Option (Int × Int) :=
  gk (nz x2)
    (J (.l6 x0 x1 x2 x3 x6 x7 (wr .u64 ((wr .u64 ((wr .u64 ((wr .u64 (x4 * 4294967296)) + x5)) - (wr .u64 (x7 * x0)))) - (wr .u64 ((quoI .u64 (wr .u64 ((wr .u64 ((wr .u64 (x4 * 4294967296)) + x5)) - (wr .u64 (x7 * x0)))) x2) * x2)))) (wr .u64 ((wr .u64 ((wr .u64 (x4 * 4294967296)) + x5)) - (wr .u64 (x7 * x0)))) (quoI .u64 (wr .u64 ((wr .u64 ((wr .u64 (x4 * 4294967296)) + x5)) - (wr .u64 (x7 * x0)))) x2)))
def b6 (k : Nat) (J : St → Option (Int × Int)) (x0 : Int) (x1 : Int) (x2 : Int) (x3 : Int) (x4 : Int) (x5 : Int) (x6 : Int) (x7 : Int) (x8 : Int) : Option (Int × Int) :=
  bif (decide (x8 ≥ 4294967296)) then
    J (.l7 x0 x1 x2 x3 x4 x5 x6 x7 x8 true)
  else
    J (.l7 x0 x1 x2 x3 x4 x5 x6 x7 x8 (decide ((wr .u64 (x8 * x3)) > (wr .u64 ((wr .u64 (4294967296 * x6)) + x4)))))
def b7 (k : Nat) (J : St → Option (Int × Int)) (x0 : Int) (x1 : Int) (x2 : Int) (x3 : Int) (x4 : Int) (x5 : Int) (x6 : Int) (x7 : Int) (x8 : Int) (x9 : Bool) : Option (Int × Int) :=
  bif x9 then
    bif (decide ((wr .u64 (x6 + x2)) ≥ 4294967296)) then
      J (.l8 x0 x1 x4 x5 x7 (wr .u64 (x8 - 1)))
    else
      J (.l6 x0 x1 x2 x3 x4 x5 (wr .u64 (x6 + x2)) x7 (wr .u64 (x8 - 1)))
  else
    J (.l8 x0 x1 x4 x5 x7 x8)
def b8 (k : Nat) (J : St → Option (Int × Int)) (x0 : Int) (x1 : Int) (x2 : Int) (x3 : Int) (x4 : Int) (x5 : Int) : Option (Int × Int) :=
  gk (nn x1)
    (some ((wr .u64 ((wr .u64 (x3 * 4294967296)) + x5)), (shrI .u64 (wr .u64 ((wr .u64 ((wr .u64 (x4 * 4294967296)) + x2)) - (wr .u64 (x5 * x0)))) x1)))
def go : Nat → St → Option (Int × Int)
  | 0, _ => none
  | k + 1, .l1 x0 x1 x2 => b1 k (go k) x0 x1 x2
  | k + 1, .l2 x0 x1 x2 => b2 k (go k) x0 x1 x2
  | k + 1, .l3 x0 x1 x2 x3 x4 x5 x6 x7 x8 => b3 k (go k) x0 x1 x2 x3 x4 x5 x6 x7 x8
  | k + 1, .l4 x0 x1 x2 x3 x4 x5 x6 x7 x8 x9 => b4 k (go k) x0 x1 x2 x3 x4 x5 x6 x7 x8 x9
  | k + 1, .l5 x0 x1 x2 x3 x4 x5 x6 x7 => b5 k (go k) x0 x1 x2 x3 x4 x5 x6 x7
  | k + 1, .l6 x0 x1 x2 x3 x4 x5 x6 x7 x8 => b6 k (go k) x0 x1 x2 x3 x4 x5 x6 x7 x8
  | k + 1, .l7 x0 x1 x2 x3 x4 x5 x6 x7 x8 x9 => b7 k (go k) x0 x1 x2 x3 x4 x5 x6 x7 x8 x9
  | k + 1, .l8 x0 x1 x2 x3 x4 x5 => b8 k (go k) x0 x1 x2 x3 x4 x5
def m : Nat → Int → Int → Int → Option (Int × Int)
  | 0, _, _, _ => none
  | k + 1, x0, x1, x2 => b0 k (go k) x0 x1 x2
def anns : Anns := [(1, 1, [(0, 32, false), (1, 32, false), (2, 32, false)]), (3, 2, [(0, 32, false), (1, 32, false), (2, 32, false)]), (18, 5, [(2, 32, false), (8, 141, false), (9, 32, false), (10, 32, false), (11, 32, false), (13, 32, false), (14, 32, false), (15, 32, false)]), (19, 3, [(2, 32, false), (8, 141, false), (9, 32, false), (10, 32, false), (11, 32, false), (13, 32, false), (14, 32, false), (15, 32, false), (16, 32, false)]), (21, 4, [(2, 32, false), (8, 141, false), (9, 32, false), (10, 32, false), (11, 32, false), (13, 32, false), (14, 32, false), (15, 32, false), (16, 32, false), (78, 4, false)]), (28, 8, [(2, 32, false), (8, 141, false), (14, 32, false), (15, 32, false), (17, 32, false), (18, 32, false)]), (29, 6, [(2, 32, false), (8, 141, false), (9, 32, false), (10, 32, false), (14, 32, false), (15, 32, false), (16, 32, false), (17, 32, false), (18, 32, false)]), (31, 7, [(2, 32, false), (8, 141, false), (9, 32, false), (10, 32, false), (14, 32, false), (15, 32, false), (16, 32, false), (17, 32, false), (18, 32, false), (113, 4, false)])]
noncomputable def code : ACode := codeOf Tryz.f83 anns
def rs : List ResultVar := [.tmp 6, .tmp 7]
def decA : List AVal → Heap → Option (Int × Int × Int)
  | [.int .u64 x0, .int .u64 x1, .int .u64 x2], [] => some (x0, x1, x2)
  | _, _ => none
def encA (a : Int × Int × Int) : List AVal × Heap := ([.int .u64 a.1, .int .u64 a.2.1, .int .u64 a.2.2], [])
def decB : AVal → Heap → Option (Int × Int)
  | .tup (.pair (.int .u64 y0) (.pair (.int .u64 y1) .nil)), [] => some (y0, y1)
  | _, _ => none
def encB (b : Int × Int) : Out := (.tup (.pair (.int .u64 b.1) (.pair (.int .u64 b.2) .nil)), [], [])
def encK : EncK (Int × Int) := fun _ b K => K (encB b)
def X : List Ct := [bits_LeadingZeros64.ct]
def ct : Ct := ⟨83, callRun cfg.tt [(32, false), (32, false), (32, false)] decA (fun k a => m k a.1 a.2.1 a.2.2) false encK⟩
theorem ok : FnOk Tryz.prog cfg 83 135 code rs := .of Tryz.func83 (by kernel_rfl) rfl rfl (by kernel_rfl) (by kernel_rfl) rfl
abbrev kend : KK (Int × Int) := kEnd cfg.tt rs (kFin cfg.tt 0 false [32, 32] [] [] decB)
noncomputable abbrev rn := run cfg X 135 0 code kend
theorem s0 (k : Nat) (J : Nat → Fr → Heap → Option (Int × Int)) (x0 : Int) (x1 : Int) (x2 : Int) : stepJ cfg X 135 0 code kend k J 0 (argFr 0 (encA (x0, x1, x2)).1) (encA (x0, x1, x2)).2 = b0 k (fun s => J s.lab s.fr s.hp) x0 x1 x2 := by kernel_rfl
theorem s1 (k : Nat) (J : Nat → Fr → Heap → Option (Int × Int)) (x0 : Int) (x1 : Int) (x2 : Int) : stepJ cfg X 135 0 code kend k J (St.l1 x0 x1 x2).lab (St.l1 x0 x1 x2).fr (St.l1 x0 x1 x2).hp = b1 k (fun s => J s.lab s.fr s.hp) x0 x1 x2 := by kernel_rfl
theorem s2 (k : Nat) (J : Nat → Fr → Heap → Option (Int × Int)) (x0 : Int) (x1 : Int) (x2 : Int) : stepJ cfg X 135 0 code kend k J (St.l2 x0 x1 x2).lab (St.l2 x0 x1 x2).fr (St.l2 x0 x1 x2).hp = b2 k (fun s => J s.lab s.fr s.hp) x0 x1 x2 := by kernel_rfl
theorem s3 (k : Nat) (J : Nat → Fr → Heap → Option (Int × Int)) (x0 : Int) (x1 : Int) (x2 : Int) (x3 : Int) (x4 : Int) (x5 : Int) (x6 : Int) (x7 : Int) (x8 : Int) : stepJ cfg X 135 0 code kend k J (St.l3 x0 x1 x2 x3 x4 x5 x6 x7 x8).lab (St.l3 x0 x1 x2 x3 x4 x5 x6 x7 x8).fr (St.l3 x0 x1 x2 x3 x4 x5 x6 x7 x8).hp = b3 k (fun s => J s.lab s.fr s.hp) x0 x1 x2 x3 x4 x5 x6 x7 x8 := by kernel_rfl
theorem s4 (k : Nat) (J : Nat → Fr → Heap → Option (Int × Int)) (x0 : Int) (x1 : Int) (x2 : Int) (x3 : Int) (x4 : Int) (x5 : Int) (x6 : Int) (x7 : Int) (x8 : Int) (x9 : Bool) : stepJ cfg X 135 0 code kend k J (St.l4 x0 x1 x2 x3 x4 x5 x6 x7 x8 x9).lab (St.l4 x0 x1 x2 x3 x4 x5 x6 x7 x8 x9).fr (St.l4 x0 x1 x2 x3 x4 x5 x6 x7 x8 x9).hp = b4 k (fun s => J s.lab s.fr s.hp) x0 x1 x2 x3 x4 x5 x6 x7 x8 x9 := by kernel_rfl
theorem s5 (k : Nat) (J : Nat → Fr → Heap → Option (Int × Int)) (x0 : Int) (x1 : Int) (x2 : Int) (x3 : Int) (x4 : Int) (x5 : Int) (x6 : Int) (x7 : Int) : stepJ cfg X 135 0 code kend k J (St.l5 x0 x1 x2 x3 x4 x5 x6 x7).lab (St.l5 x0 x1 x2 x3 x4 x5 x6 x7).fr (St.l5 x0 x1 x2 x3 x4 x5 x6 x7).hp = b5 k (fun s => J s.lab s.fr s.hp) x0 x1 x2 x3 x4 x5 x6 x7 := by kernel_rfl
theorem s6 (k : Nat) (J : Nat → Fr → Heap → Option (Int × Int)) (x0 : Int) (x1 : Int) (x2 : Int) (x3 : Int) (x4 : Int) (x5 : Int) (x6 : Int) (x7 : Int) (x8 : Int) : stepJ cfg X 135 0 code kend k J (St.l6 x0 x1 x2 x3 x4 x5 x6 x7 x8).lab (St.l6 x0 x1 x2 x3 x4 x5 x6 x7 x8).fr (St.l6 x0 x1 x2 x3 x4 x5 x6 x7 x8).hp = b6 k (fun s => J s.lab s.fr s.hp) x0 x1 x2 x3 x4 x5 x6 x7 x8 := by kernel_rfl
theorem s7 (k : Nat) (J : Nat → Fr → Heap → Option (Int × Int)) (x0 : Int) (x1 : Int) (x2 : Int) (x3 : Int) (x4 : Int) (x5 : Int) (x6 : Int) (x7 : Int) (x8 : Int) (x9 : Bool) : stepJ cfg X 135 0 code kend k J (St.l7 x0 x1 x2 x3 x4 x5 x6 x7 x8 x9).lab (St.l7 x0 x1 x2 x3 x4 x5 x6 x7 x8 x9).fr (St.l7 x0 x1 x2 x3 x4 x5 x6 x7 x8 x9).hp = b7 k (fun s => J s.lab s.fr s.hp) x0 x1 x2 x3 x4 x5 x6 x7 x8 x9 := by kernel_rfl
theorem s8 (k : Nat) (J : Nat → Fr → Heap → Option (Int × Int)) (x0 : Int) (x1 : Int) (x2 : Int) (x3 : Int) (x4 : Int) (x5 : Int) : stepJ cfg X 135 0 code kend k J (St.l8 x0 x1 x2 x3 x4 x5).lab (St.l8 x0 x1 x2 x3 x4 x5).fr (St.l8 x0 x1 x2 x3 x4 x5).hp = b8 k (fun s => J s.lab s.fr s.hp) x0 x1 x2 x3 x4 x5 := by kernel_rfl
theorem go_ok : ∀ (k : Nat) (s : St), rn k s.lab s.fr s.hp = go k s
  | 0, _ => rfl
  | k + 1, .l1 x0 x1 x2 => by
    have h := s1 k (rn k) x0 x1 x2
    rw [show (fun s : St => rn k s.lab s.fr s.hp) = go k from funext (go_ok k)] at h
    exact h
  | k + 1, .l2 x0 x1 x2 => by
    have h := s2 k (rn k) x0 x1 x2
    rw [show (fun s : St => rn k s.lab s.fr s.hp) = go k from funext (go_ok k)] at h
    exact h
  | k + 1, .l3 x0 x1 x2 x3 x4 x5 x6 x7 x8 => by
    have h := s3 k (rn k) x0 x1 x2 x3 x4 x5 x6 x7 x8
    rw [show (fun s : St => rn k s.lab s.fr s.hp) = go k from funext (go_ok k)] at h
    exact h
  | k + 1, .l4 x0 x1 x2 x3 x4 x5 x6 x7 x8 x9 => by
    have h := s4 k (rn k) x0 x1 x2 x3 x4 x5 x6 x7 x8 x9
    rw [show (fun s : St => rn k s.lab s.fr s.hp) = go k from funext (go_ok k)] at h
    exact h
  | k + 1, .l5 x0 x1 x2 x3 x4 x5 x6 x7 => by
    have h := s5 k (rn k) x0 x1 x2 x3 x4 x5 x6 x7
    rw [show (fun s : St => rn k s.lab s.fr s.hp) = go k from funext (go_ok k)] at h
    exact h
  | k + 1, .l6 x0 x1 x2 x3 x4 x5 x6 x7 x8 => by
    have h := s6 k (rn k) x0 x1 x2 x3 x4 x5 x6 x7 x8
    rw [show (fun s : St => rn k s.lab s.fr s.hp) = go k from funext (go_ok k)] at h
    exact h
  | k + 1, .l7 x0 x1 x2 x3 x4 x5 x6 x7 x8 x9 => by
    have h := s7 k (rn k) x0 x1 x2 x3 x4 x5 x6 x7 x8 x9
    rw [show (fun s : St => rn k s.lab s.fr s.hp) = go k from funext (go_ok k)] at h
    exact h
  | k + 1, .l8 x0 x1 x2 x3 x4 x5 => by
    have h := s8 k (rn k) x0 x1 x2 x3 x4 x5
    rw [show (fun s : St => rn k s.lab s.fr s.hp) = go k from funext (go_ok k)] at h
    exact h
theorem run_ok : ∀ (k : Nat) (a : Int × Int × Int), rn k 0 (argFr 0 (encA a).1) (encA a).2 = m k a.1 a.2.1 a.2.2
  | 0, _ => rfl
  | k + 1, (x0, x1, x2) => by
    have h := s0 k (rn k) x0 x1 x2
    rw [show (fun s : St => rn k s.lab s.fr s.hp) = go k from funext (go_ok k)] at h
    exact h
theorem snd (k : Nat) : Snd Tryz.prog cfg k ct := fn_snd (X := X) cfgOk mixed ok (np := 0) (vps := []) (vws := []) (decA := decA) (encA := encA) (decB := decB) (encB := encB) (encK := encK) (fun _ b _ => rfl)
  (by
    intro xs H a h
    unfold decA at h
    split at h
    · cases h; exact ⟨rfl, rfl, rfl, rfl⟩
    · cases h)
  (by
    intro v H b h
    unfold decB at h
    split at h
    · cases h; exact ⟨rfl, fun _ _ _ h => (by cases h), rfl⟩
    · cases h)
  rfl k (fun k' _ => AllS.mem (l := X) ⟨bits_LeadingZeros64.snd k', trivial⟩) (fun a => run_ok k a)
end bits_Div64

/-! internal/stringslite.HasPrefix -/
namespace stringslite_HasPrefix
def b0 (k : Nat) (x0 : List UInt8) (x1 : List UInt8) : Option (Bool) :=
  bif (decide ((x0.length : Int) ≥ (x1.length : Int))) then
    gk (cutB 0 (x1.length : Int) x0.length)
      (some ((cut x0 0 (x1.length : Int)) == x1))
  else
    some false
def m : Nat → List UInt8 → List UInt8 → Option (Bool)
  | 0, _, _ => none
  | k + 1, x0, x1 => b0 k x0 x1
def anns : Anns := []
noncomputable def code : ACode := codeOf Tryz.f96 anns
def rs : List ResultVar := [.tmp 4]
def decA : List AVal → Heap → Option ((List UInt8) × (List UInt8))
  | [.str x0, .str x1], [] => some (x0, x1)
  | _, _ => none
def encA (a : (List UInt8) × (List UInt8)) : List AVal × Heap := ([.str a.1, .str a.2], [])
def decB : AVal → Heap → Option (Bool)
  | .bool y0, [] => some y0
  | _, _ => none
def encB (b : Bool) : Out := (.bool b, [], [])
def encK : EncK (Bool) := fun _ b K => K (encB b)
def X : List Ct := []
def ct : Ct := ⟨96, callRun cfg.tt [(9, false), (9, false)] decA (fun k a => m k a.1 a.2) false encK⟩
theorem ok : FnOk Tryz.prog cfg 96 18 code rs := .of Tryz.func96 (by kernel_rfl) rfl rfl (by kernel_rfl) (by kernel_rfl) rfl
abbrev kend : KK (Bool) := kEnd cfg.tt rs (kFin cfg.tt 0 false [4] [] [] decB)
noncomputable abbrev rn := run cfg X 18 0 code kend
theorem s0 (k : Nat) (J : Nat → Fr → Heap → Option (Bool)) (x0 : List UInt8) (x1 : List UInt8) : stepJ cfg X 18 0 code kend k J 0 (argFr 0 (encA (x0, x1)).1) (encA (x0, x1)).2 = b0 k x0 x1 := by kernel_rfl
theorem run_ok : ∀ (k : Nat) (a : (List UInt8) × (List UInt8)), rn k 0 (argFr 0 (encA a).1) (encA a).2 = m k a.1 a.2
  | 0, _ => rfl
  | k + 1, (x0, x1) => by
    have h := s0 k (rn k) x0 x1
    exact h
theorem snd (k : Nat) : Snd Tryz.prog cfg k ct := fn_snd (X := X) cfgOk mixed ok (np := 0) (vps := []) (vws := []) (decA := decA) (encA := encA) (decB := decB) (encB := encB) (encK := encK) (fun _ b _ => rfl)
  (by
    intro xs H a h
    unfold decA at h
    split at h
    · cases h; exact ⟨rfl, rfl, rfl, rfl⟩
    · cases h)
  (by
    intro v H b h
    unfold decB at h
    split at h
    · cases h; exact ⟨rfl, fun _ _ _ h => (by cases h), rfl⟩
    · cases h)
  rfl k (fun k' _ => AllS.mem (l := X) trivial) (fun a => run_ok k a)
end stringslite_HasPrefix

/-! strings.HasPrefix -/
namespace strings_HasPrefix
def b0 (k : Nat) (x0 : List UInt8) (x1 : List UInt8) : Option (Bool) :=
  bindO (stringslite_HasPrefix.m k x0 x1) fun r1 =>
    some r1
def m : Nat → List UInt8 → List UInt8 → Option (Bool)
  | 0, _, _ => none
  | k + 1, x0, x1 => b0 k x0 x1
def anns : Anns := []
noncomputable def code : ACode := codeOf Tryz.f71 anns
def rs : List ResultVar := [.tmp 4]
def decA : List AVal → Heap → Option ((List UInt8) × (List UInt8))
  | [.str x0, .str x1], [] => some (x0, x1)
  | _, _ => none
def encA (a : (List UInt8) × (List UInt8)) : List AVal × Heap := ([.str a.1, .str a.2], [])
def decB : AVal → Heap → Option (Bool)
  | .bool y0, [] => some y0
  | _, _ => none
def encB (b : Bool) : Out := (.bool b, [], [])
def encK : EncK (Bool) := fun _ b K => K (encB b)
def X : List Ct := [stringslite_HasPrefix.ct]
def ct : Ct := ⟨71, callRun cfg.tt [(9, false), (9, false)] decA (fun k a => m k a.1 a.2) false encK⟩
theorem ok : FnOk Tryz.prog cfg 71 8 code rs := .of Tryz.func71 (by kernel_rfl) rfl rfl (by kernel_rfl) (by kernel_rfl) rfl
abbrev kend : KK (Bool) := kEnd cfg.tt rs (kFin cfg.tt 0 false [4] [] [] decB)
noncomputable abbrev rn := run cfg X 8 0 code kend
theorem s0 (k : Nat) (J : Nat → Fr → Heap → Option (Bool)) (x0 : List UInt8) (x1 : List UInt8) : stepJ cfg X 8 0 code kend k J 0 (argFr 0 (encA (x0, x1)).1) (encA (x0, x1)).2 = b0 k x0 x1 := by kernel_rfl
theorem run_ok : ∀ (k : Nat) (a : (List UInt8) × (List UInt8)), rn k 0 (argFr 0 (encA a).1) (encA a).2 = m k a.1 a.2
  | 0, _ => rfl
  | k + 1, (x0, x1) => by
    have h := s0 k (rn k) x0 x1
    exact h
theorem snd (k : Nat) : Snd Tryz.prog cfg k ct := fn_snd (X := X) cfgOk mixed ok (np := 0) (vps := []) (vws := []) (decA := decA) (encA := encA) (decB := decB) (encB := encB) (encK := encK) (fun _ b _ => rfl)
  (by
    intro xs H a h
    unfold decA at h
    split at h
    · cases h; exact ⟨rfl, rfl, rfl, rfl⟩
    · cases h)
  (by
    intro v H b h
    unfold decB at h
    split at h
    · cases h; exact ⟨rfl, fun _ _ _ h => (by cases h), rfl⟩
    · cases h)
  rfl k (fun k' _ => AllS.mem (l := X) ⟨stringslite_HasPrefix.snd k', trivial⟩) (fun a => run_ok k a)
end strings_HasPrefix

/-! internal/stringslite.TrimPrefix -/
namespace stringslite_TrimPrefix
def b0 (k : Nat) (x0 : List UInt8) (x1 : List UInt8) : Option ((List UInt8)) :=
  bindO (stringslite_HasPrefix.m k x0 x1) fun r1 =>
    bif r1 then
      gk (cutB (x1.length : Int) (x0.length : Int) x0.length)
        (some (cut x0 (x1.length : Int) (x0.length : Int)))
    else
      some x0
def m : Nat → List UInt8 → List UInt8 → Option ((List UInt8))
  | 0, _, _ => none
  | k + 1, x0, x1 => b0 k x0 x1
def anns : Anns := []
noncomputable def code : ACode := codeOf Tryz.f94 anns
def rs : List ResultVar := [.tmp 4]
def decA : List AVal → Heap → Option ((List UInt8) × (List UInt8))
  | [.str x0, .str x1], [] => some (x0, x1)
  | _, _ => none
def encA (a : (List UInt8) × (List UInt8)) : List AVal × Heap := ([.str a.1, .str a.2], [])
def decB : AVal → Heap → Option ((List UInt8))
  | .str y0, [] => some y0
  | _, _ => none
def encB (b : (List UInt8)) : Out := (.str b, [], [])
def encK : EncK ((List UInt8)) := fun _ b K => K (encB b)
def X : List Ct := [stringslite_HasPrefix.ct]
def ct : Ct := ⟨94, callRun cfg.tt [(9, false), (9, false)] decA (fun k a => m k a.1 a.2) false encK⟩
theorem ok : FnOk Tryz.prog cfg 94 13 code rs := .of Tryz.func94 (by kernel_rfl) rfl rfl (by kernel_rfl) (by kernel_rfl) rfl
abbrev kend : KK ((List UInt8)) := kEnd cfg.tt rs (kFin cfg.tt 0 false [9] [] [] decB)
noncomputable abbrev rn := run cfg X 13 0 code kend
theorem s0 (k : Nat) (J : Nat → Fr → Heap → Option ((List UInt8))) (x0 : List UInt8) (x1 : List UInt8) : stepJ cfg X 13 0 code kend k J 0 (argFr 0 (encA (x0, x1)).1) (encA (x0, x1)).2 = b0 k x0 x1 := by kernel_rfl
theorem run_ok : ∀ (k : Nat) (a : (List UInt8) × (List UInt8)), rn k 0 (argFr 0 (encA a).1) (encA a).2 = m k a.1 a.2
  | 0, _ => rfl
  | k + 1, (x0, x1) => by
    have h := s0 k (rn k) x0 x1
    exact h
theorem snd (k : Nat) : Snd Tryz.prog cfg k ct := fn_snd (X := X) cfgOk mixed ok (np := 0) (vps := []) (vws := []) (decA := decA) (encA := encA) (decB := decB) (encB := encB) (encK := encK) (fun _ b _ => rfl)
  (by
    intro xs H a h
    unfold decA at h
    split at h
    · cases h; exact ⟨rfl, rfl, rfl, rfl⟩
    · cases h)
  (by
    intro v H b h
    unfold decB at h
    split at h
    · cases h; exact ⟨rfl, fun _ _ _ h => (by cases h), rfl⟩
    · cases h)
  rfl k (fun k' _ => AllS.mem (l := X) ⟨stringslite_HasPrefix.snd k', trivial⟩) (fun a => run_ok k a)
end stringslite_TrimPrefix

/-! strings.TrimPrefix -/
namespace strings_TrimPrefix
def b0 (k : Nat) (x0 : List UInt8) (x1 : List UInt8) : Option ((List UInt8)) :=
  bindO (stringslite_TrimPrefix.m k x0 x1) fun r1 =>
    some r1
def m : Nat → List UInt8 → List UInt8 → Option ((List UInt8))
  | 0, _, _ => none
  | k + 1, x0, x1 => b0 k x0 x1
def anns : Anns := []
noncomputable def code : ACode := codeOf Tryz.f68 anns
def rs : List ResultVar := [.tmp 4]
def decA : List AVal → Heap → Option ((List UInt8) × (List UInt8))
  | [.str x0, .str x1], [] => some (x0, x1)
  | _, _ => none
def encA (a : (List UInt8) × (List UInt8)) : List AVal × Heap := ([.str a.1, .str a.2], [])
def decB : AVal → Heap → Option ((List UInt8))
  | .str y0, [] => some y0
  | _, _ => none
def encB (b : (List UInt8)) : Out := (.str b, [], [])
def encK : EncK ((List UInt8)) := fun _ b K => K (encB b)
def X : List Ct := [stringslite_TrimPrefix.ct]
def ct : Ct := ⟨68, callRun cfg.tt [(9, false), (9, false)] decA (fun k a => m k a.1 a.2) false encK⟩
theorem ok : FnOk Tryz.prog cfg 68 8 code rs := .of Tryz.func68 (by kernel_rfl) rfl rfl (by kernel_rfl) (by kernel_rfl) rfl
abbrev kend : KK ((List UInt8)) := kEnd cfg.tt rs (kFin cfg.tt 0 false [9] [] [] decB)
noncomputable abbrev rn := run cfg X 8 0 code kend
theorem s0 (k : Nat) (J : Nat → Fr → Heap → Option ((List UInt8))) (x0 : List UInt8) (x1 : List UInt8) : stepJ cfg X 8 0 code kend k J 0 (argFr 0 (encA (x0, x1)).1) (encA (x0, x1)).2 = b0 k x0 x1 := by kernel_rfl
theorem run_ok : ∀ (k : Nat) (a : (List UInt8) × (List UInt8)), rn k 0 (argFr 0 (encA a).1) (encA a).2 = m k a.1 a.2
  | 0, _ => rfl
  | k + 1, (x0, x1) => by
    have h := s0 k (rn k) x0 x1
    exact h
theorem snd (k : Nat) : Snd Tryz.prog cfg k ct := fn_snd (X := X) cfgOk mixed ok (np := 0) (vps := []) (vws := []) (decA := decA) (encA := encA) (decB := decB) (encB := encB) (encK := encK) (fun _ b _ => rfl)
  (by
    intro xs H a h
    unfold decA at h
    split at h
    · cases h; exact ⟨rfl, rfl, rfl, rfl⟩
    · cases h)
  (by
    intro v H b h
    unfold decB at h
    split at h
    · cases h; exact ⟨rfl, fun _ _ _ h => (by cases h), rfl⟩
    · cases h)
  rfl k (fun k' _ => AllS.mem (l := X) ⟨stringslite_TrimPrefix.snd k', trivial⟩) (fun a => run_ok k a)
end strings_TrimPrefix

/-! cavil/cavilref09.digit -/
namespace cavilref09_digit
def b0 (k : Nat) (x0 : Int) : Option (Bool) :=
  bif (decide (x0 ≥ 48)) then
    some (decide (x0 ≤ 57))
  else
    some false
def m : Nat → Int → Option (Bool)
  | 0, _ => none
  | k + 1, x0 => b0 k x0
def anns : Anns := []
noncomputable def code : ACode := codeOf Tryz.f43 anns
def rs : List ResultVar := [.tmp 2]
def decA : List AVal → Heap → Option (Int)
  | [.int .u8 x0], [] => some x0
  | _, _ => none
def encA (a : Int) : List AVal × Heap := ([.int .u8 a], [])
def decB : AVal → Heap → Option (Bool)
  | .bool y0, [] => some y0
  | _, _ => none
def encB (b : Bool) : Out := (.bool b, [], [])
def encK : EncK (Bool) := fun _ b K => K (encB b)
def X : List Ct := []
def ct : Ct := ⟨43, callRun cfg.tt [(5, false)] decA (fun k a => m k a) false encK⟩
theorem ok : FnOk Tryz.prog cfg 43 9 code rs := .of Tryz.func43 (by kernel_rfl) rfl rfl (by kernel_rfl) (by kernel_rfl) rfl
abbrev kend : KK (Bool) := kEnd cfg.tt rs (kFin cfg.tt 0 false [4] [] [] decB)
noncomputable abbrev rn := run cfg X 9 0 code kend
theorem s0 (k : Nat) (J : Nat → Fr → Heap → Option (Bool)) (x0 : Int) : stepJ cfg X 9 0 code kend k J 0 (argFr 0 (encA x0).1) (encA x0).2 = b0 k x0 := by kernel_rfl
theorem run_ok : ∀ (k : Nat) (a : Int), rn k 0 (argFr 0 (encA a).1) (encA a).2 = m k a
  | 0, _ => rfl
  | k + 1, x0 => by
    have h := s0 k (rn k) x0
    exact h
theorem snd (k : Nat) : Snd Tryz.prog cfg k ct := fn_snd (X := X) cfgOk mixed ok (np := 0) (vps := []) (vws := []) (decA := decA) (encA := encA) (decB := decB) (encB := encB) (encK := encK) (fun _ b _ => rfl)
  (by
    intro xs H a h
    unfold decA at h
    split at h
    · cases h; exact ⟨rfl, rfl, rfl, rfl⟩
    · cases h)
  (by
    intro v H b h
    unfold decB at h
    split at h
    · cases h; exact ⟨rfl, fun _ _ _ h => (by cases h), rfl⟩
    · cases h)
  rfl k (fun k' _ => AllS.mem (l := X) trivial) (fun a => run_ok k a)
end cavilref09_digit

/-! cavil/number.digit -/
namespace number_digit
def b0 (k : Nat) (x0 : Int) : Option (Bool) :=
  bif (decide (x0 ≥ 48)) then
    some (decide (x0 ≤ 57))
  else
    some false
def m : Nat → Int → Option (Bool)
  | 0, _ => none
  | k + 1, x0 => b0 k x0
def anns : Anns := []
noncomputable def code : ACode := codeOf Tryz.f52 anns
def rs : List ResultVar := [.tmp 2]
def decA : List AVal → Heap → Option (Int)
  | [.int .u8 x0], [] => some x0
  | _, _ => none
def encA (a : Int) : List AVal × Heap := ([.int .u8 a], [])
def decB : AVal → Heap → Option (Bool)
  | .bool y0, [] => some y0
  | _, _ => none
def encB (b : Bool) : Out := (.bool b, [], [])
def encK : EncK (Bool) := fun _ b K => K (encB b)
def X : List Ct := []
def ct : Ct := ⟨52, callRun cfg.tt [(5, false)] decA (fun k a => m k a) false encK⟩
theorem ok : FnOk Tryz.prog cfg 52 9 code rs := .of Tryz.func52 (by kernel_rfl) rfl rfl (by kernel_rfl) (by kernel_rfl) rfl
abbrev kend : KK (Bool) := kEnd cfg.tt rs (kFin cfg.tt 0 false [4] [] [] decB)
noncomputable abbrev rn := run cfg X 9 0 code kend
theorem s0 (k : Nat) (J : Nat → Fr → Heap → Option (Bool)) (x0 : Int) : stepJ cfg X 9 0 code kend k J 0 (argFr 0 (encA x0).1) (encA x0).2 = b0 k x0 := by kernel_rfl
theorem run_ok : ∀ (k : Nat) (a : Int), rn k 0 (argFr 0 (encA a).1) (encA a).2 = m k a
  | 0, _ => rfl
  | k + 1, x0 => by
    have h := s0 k (rn k) x0
    exact h
theorem snd (k : Nat) : Snd Tryz.prog cfg k ct := fn_snd (X := X) cfgOk mixed ok (np := 0) (vps := []) (vws := []) (decA := decA) (encA := encA) (decB := decB) (encB := encB) (encK := encK) (fun _ b _ => rfl)
  (by
    intro xs H a h
    unfold decA at h
    split at h
    · cases h; exact ⟨rfl, rfl, rfl, rfl⟩
    · cases h)
  (by
    intro v H b h
    unfold decB at h
    split at h
    · cases h; exact ⟨rfl, fun _ _ _ h => (by cases h), rfl⟩
    · cases h)
  rfl k (fun k' _ => AllS.mem (l := X) trivial) (fun a => run_ok k a)
end number_digit

/-! cavil/number.word -/
namespace number_word
inductive St where
  | l1 (x0 : Int) (x1 : Bool)
  | l2 (x0 : Int) (x1 : Bool)
def St.lab : St → Nat
  | .l1 _ _ => 1
  | .l2 _ _ => 2
def St.fr : St → Fr
  | .l1 x0 x1 => [(0, .int .u8 x0), (3, .bool x1)]
  | .l2 x0 x1 => [(0, .int .u8 x0), (10, .bool x1)]
def St.hp : St → Heap
  | .l1 x0 x1 => []
  | .l2 x0 x1 => []
def b0 (k : Nat) (J : St → Option (Bool)) (x0 : Int) : Option (Bool) :=
  bif (x0 == 95) then
    J (.l1 x0 (x0 == 95))
  else
    bif (x0 == 46) then
      J (.l1 x0 (x0 == 46))
    else
      bindO (number_digit.m k x0) fun r1 =>
        J (.l1 x0 r1)
def b1 (k : Nat) (J : St → Option (Bool)) (x0 : Int) (x1 : Bool) : Option (Bool) :=
  bif x1 then
    some true
  else
    bif (decide (x0 ≥ 97)) then
      J (.l2 x0 (decide (x0 ≤ 122)))
    else
      J (.l2 x0 false)
def b2 (k : Nat) (J : St → Option (Bool)) (x0 : Int) (x1 : Bool) : Option (Bool) :=
  bif x1 then
    bif x1 then
      some true
    else
      some false
  else
    bif (decide (x0 ≥ 65)) then
      bif (decide (x0 ≤ 90)) then
        some true
      else
        some false
    else
      some false
def go : Nat → St → Option (Bool)
  | 0, _ => none
  | k + 1, .l1 x0 x1 => b1 k (go k) x0 x1
  | k + 1, .l2 x0 x1 => b2 k (go k) x0 x1
def m : Nat → Int → Option (Bool)
  | 0, _ => none
  | k + 1, x0 => b0 k (go k) x0
def anns : Anns := [(5, 1, [(0, 5, false), (3, 4, false)]), (9, 2, [(0, 5, false), (10, 4, false)])]
noncomputable def code : ACode := codeOf Tryz.f53 anns
def rs : List ResultVar := [.tmp 2]
def decA : List AVal → Heap → Option (Int)
  | [.int .u8 x0], [] => some x0
  | _, _ => none
def encA (a : Int) : List AVal × Heap := ([.int .u8 a], [])
def decB : AVal → Heap → Option (Bool)
  | .bool y0, [] => some y0
  | _, _ => none
def encB (b : Bool) : Out := (.bool b, [], [])
def encK : EncK (Bool) := fun _ b K => K (encB b)
def X : List Ct := [number_digit.ct]
def ct : Ct := ⟨53, callRun cfg.tt [(5, false)] decA (fun k a => m k a) false encK⟩
theorem ok : FnOk Tryz.prog cfg 53 23 code rs := .of Tryz.func53 (by kernel_rfl) rfl rfl (by kernel_rfl) (by kernel_rfl) rfl
abbrev kend : KK (Bool) := kEnd cfg.tt rs (kFin cfg.tt 0 false [4] [] [] decB)
noncomputable abbrev rn := run cfg X 23 0 code kend
theorem s0 (k : Nat) (J : Nat → Fr → Heap → Option (Bool)) (x0 : Int) : stepJ cfg X 23 0 code kend k J 0 (argFr 0 (encA x0).1) (encA x0).2 = b0 k (fun s => J s.lab s.fr s.hp) x0 := by kernel_rfl
theorem s1 (k : Nat) (J : Nat → Fr → Heap → Option (Bool)) (x0 : Int) (x1 : Bool) : stepJ cfg X 23 0 code kend k J (St.l1 x0 x1).lab (St.l1 x0 x1).fr (St.l1 x0 x1).hp = b1 k (fun s => J s.lab s.fr s.hp) x0 x1 := by kernel_rfl
theorem s2 (k : Nat) (J : Nat → Fr → Heap → Option (Bool)) (x0 : Int) (x1 : Bool) : stepJ cfg X 23 0 code kend k J (St.l2 x0 x1).lab (St.l2 x0 x1).fr (St.l2 x0 x1).hp = b2 k (fun s => J s.lab s.fr s.hp) x0 x1 := by kernel_rfl
theorem go_ok : ∀ (k : Nat) (s : St), rn k s.lab s.fr s.hp = go k s
  | 0, _ => rfl
  | k + 1, .l1 x0 x1 => by
    have h := s1 k (rn k) x0 x1
    rw [show (fun s : St => rn k s.lab s.fr s.hp) = go k from funext (go_ok k)] at h
    exact h
  | k + 1, .l2 x0 x1 => by
    have h := s2 k (rn k) x0 x1
    rw [show (fun s : St => rn k s.lab s.fr s.hp) = go k from funext (go_ok k)] at h
    exact h
theorem run_ok : ∀ (k : Nat) (a : Int), rn k 0 (argFr 0 (encA a).1) (encA a).2 = m k a
  | 0, _ => rfl
  | k + 1, x0 => by
    have h := s0 k (rn k) x0
    rw [show (fun s : St => rn k s.lab s.fr s.hp) = go k from funext (go_ok k)] at h
    exact h
theorem snd (k : Nat) : Snd Tryz.prog cfg k ct := fn_snd (X := X) cfgOk mixed ok (np := 0) (vps := []) (vws := []) (decA := decA) (encA := encA) (decB := decB) (encB := encB) (encK := encK) (fun _ b _ => rfl)
  (by
    intro xs H a h
    unfold decA at h
    split at h
    · cases h; exact ⟨rfl, rfl, rfl, rfl⟩
    · cases h)
  (by
    intro v H b h
    unfold decB at h
    split at h
    · cases h; exact ⟨rfl, fun _ _ _ h => (by cases h), rfl⟩
    · cases h)
  rfl k (fun k' _ => AllS.mem (l := X) ⟨number_digit.snd k', trivial⟩) (fun a => run_ok k a)
end number_word

/-! cavil/number.base -/
namespace number_base
inductive St where
  | l1 (x0 : List UInt8) (x1 : Bool)
  | l2 (x0 : Int) (x1 : Bool)
def St.lab : St → Nat
  | .l1 _ _ => 1
  | .l2 _ _ => 2
def St.fr : St → Fr
  | .l1 x0 x1 => [(0, .str x0), (10, .bool x1)]
  | .l2 x0 x1 => [(12, .int .u8 x0), (13, .bool x1)]
def St.hp : St → Heap
  | .l1 x0 x1 => []
  | .l2 x0 x1 => []
def b0 (k : Nat) (J : St → Option (Int)) (x0 : List UInt8) : Option (Int) :=
  bif (decide ((x0.length : Int) < 2)) then
    J (.l1 x0 true)
  else
    gk (inB 0 x0.length)
      (J (.l1 x0 ((byt x0 0) != 48)))
def b1 (k : Nat) (J : St → Option (Int)) (x0 : List UInt8) (x1 : Bool) : Option (Int) :=
  bif x1 then
    some 0
  else
    gk (inB 1 x0.length)
      (bif ((byt x0 1) == 120) then
        J (.l2 (byt x0 1) ((byt x0 1) == 120))
      else
        J (.l2 (byt x0 1) ((byt x0 1) == 88)))
def b2 (k : Nat) (J : St → Option (Int)) (x0 : Int) (x1 : Bool) : Option (Int) :=
  bif x1 then
    some 16
  else
    bif (x0 == 98) then
      bif (x0 == 98) then
        some 2
      else
        bif (x0 == 111) then
          bif (x0 == 111) then
            some 8
          else
            some 0
        else
          bif (x0 == 79) then
            some 8
          else
            some 0
    else
      bif (x0 == 66) then
        some 2
      else
        bif (x0 == 111) then
          bif (x0 == 111) then
            some 8
          else
            some 0
        else
          bif (x0 == 79) then
            some 8
          else
            some 0
def go : Nat → St → Option (Int)
  | 0, _ => none
  | k + 1, .l1 x0 x1 => b1 k (go k) x0 x1
  | k + 1, .l2 x0 x1 => b2 k (go k) x0 x1
def m : Nat → List UInt8 → Option (Int)
  | 0, _ => none
  | k + 1, x0 => b0 k (go k) x0
def anns : Anns := [(2, 1, [(0, 9, false), (10, 4, false)]), (6, 2, [(12, 5, false), (13, 4, false)])]
noncomputable def code : ACode := codeOf Tryz.f24 anns
def rs : List ResultVar := [.tmp 2]
def decA : List AVal → Heap → Option ((List UInt8))
  | [.str x0], [] => some x0
  | _, _ => none
def encA (a : (List UInt8)) : List AVal × Heap := ([.str a], [])
def decB : AVal → Heap → Option (Int)
  | .int .i64 y0, [] => some y0
  | _, _ => none
def encB (b : Int) : Out := (.int .i64 b, [], [])
def encK : EncK (Int) := fun _ b K => K (encB b)
def X : List Ct := []
def ct : Ct := ⟨24, callRun cfg.tt [(9, false)] decA (fun k a => m k a) false encK⟩
theorem ok : FnOk Tryz.prog cfg 24 22 code rs := .of Tryz.func24 (by kernel_rfl) rfl rfl (by kernel_rfl) (by kernel_rfl) rfl
abbrev kend : KK (Int) := kEnd cfg.tt rs (kFin cfg.tt 0 false [3] [] [] decB)
noncomputable abbrev rn := run cfg X 22 0 code kend
theorem s0 (k : Nat) (J : Nat → Fr → Heap → Option (Int)) (x0 : List UInt8) : stepJ cfg X 22 0 code kend k J 0 (argFr 0 (encA x0).1) (encA x0).2 = b0 k (fun s => J s.lab s.fr s.hp) x0 := by kernel_rfl
theorem s1 (k : Nat) (J : Nat → Fr → Heap → Option (Int)) (x0 : List UInt8) (x1 : Bool) : stepJ cfg X 22 0 code kend k J (St.l1 x0 x1).lab (St.l1 x0 x1).fr (St.l1 x0 x1).hp = b1 k (fun s => J s.lab s.fr s.hp) x0 x1 := by kernel_rfl
theorem s2 (k : Nat) (J : Nat → Fr → Heap → Option (Int)) (x0 : Int) (x1 : Bool) : stepJ cfg X 22 0 code kend k J (St.l2 x0 x1).lab (St.l2 x0 x1).fr (St.l2 x0 x1).hp = b2 k (fun s => J s.lab s.fr s.hp) x0 x1 := by kernel_rfl
theorem go_ok : ∀ (k : Nat) (s : St), rn k s.lab s.fr s.hp = go k s
  | 0, _ => rfl
  | k + 1, .l1 x0 x1 => by
    have h := s1 k (rn k) x0 x1
    rw [show (fun s : St => rn k s.lab s.fr s.hp) = go k from funext (go_ok k)] at h
    exact h
  | k + 1, .l2 x0 x1 => by
    have h := s2 k (rn k) x0 x1
    rw [show (fun s : St => rn k s.lab s.fr s.hp) = go k from funext (go_ok k)] at h
    exact h
theorem run_ok : ∀ (k : Nat) (a : (List UInt8)), rn k 0 (argFr 0 (encA a).1) (encA a).2 = m k a
  | 0, _ => rfl
  | k + 1, x0 => by
    have h := s0 k (rn k) x0
    rw [show (fun s : St => rn k s.lab s.fr s.hp) = go k from funext (go_ok k)] at h
    exact h
theorem snd (k : Nat) : Snd Tryz.prog cfg k ct := fn_snd (X := X) cfgOk mixed ok (np := 0) (vps := []) (vws := []) (decA := decA) (encA := encA) (decB := decB) (encB := encB) (encK := encK) (fun _ b _ => rfl)
  (by
    intro xs H a h
    unfold decA at h
    split at h
    · cases h; exact ⟨rfl, rfl, rfl, rfl⟩
    · cases h)
  (by
    intro v H b h
    unfold decB at h
    split at h
    · cases h; exact ⟨rfl, fun _ _ _ h => (by cases h), rfl⟩
    · cases h)
  rfl k (fun k' _ => AllS.mem (l := X) trivial) (fun a => run_ok k a)
end number_base

/-! cavil/number.exponent -/
namespace number_exponent
inductive St where
  | l1 (x0 : List UInt8) (x1 : Int) (x2 : Int)
def St.lab : St → Nat
  | .l1 _ _ _ => 1
def St.fr : St → Fr
  | .l1 x0 x1 x2 => [(6, .slice 0 1 .all), (7, .int .i64 x1), (8, .int .i64 x2)]
def St.hp : St → Heap
  | .l1 x0 x1 x2 => [.row 0 1 true 5 (.u8 x0)]
def b0 (k : Nat) (J : St → Option (Int)) (x0 : List UInt8) : Option (Int) :=
  J (.l1 x0 (x0.length : Int) 0)
def b1 (k : Nat) (J : St → Option (Int)) (x0 : List UInt8) (x1 : Int) (x2 : Int) : Option (Int) :=
  bif (decide (x2 < x1)) then
    gk (inB x2 x0.length)
      (bif ((Go.bits .or .u8 ((x0.getD x2.toNat 0).toNat : Int) 32) == 101) then
        some x2
      else
        J (.l1 x0 x1 (wr .i64 (x2 + 1))))
  else
    some (-1)
def go : Nat → St → Option (Int)
  | 0, _ => none
  | k + 1, .l1 x0 x1 x2 => b1 k (go k) x0 x1 x2
def m : Nat → List UInt8 → Option (Int)
  | 0, _ => none
  | k + 1, x0 => b0 k (go k) x0
def anns : Anns := [(3, 1, [(6, 22, false), (7, 3, false), (8, 3, false)])]
noncomputable def code : ACode := codeOf Tryz.f26 anns
def rs : List ResultVar := [.tmp 2]
def decA : List AVal → Heap → Option ((List UInt8))
  | [.str x0], [] => some x0
  | _, _ => none
def encA (a : (List UInt8)) : List AVal × Heap := ([.str a], [])
def decB : AVal → Heap → Option (Int)
  | .int .i64 y0, [] => some y0
  | _, _ => none
def encB (b : Int) : Out := (.int .i64 b, [], [])
def encK : EncK (Int) := fun _ b K => K (encB b)
def X : List Ct := []
def ct : Ct := ⟨26, callRun cfg.tt [(9, false)] decA (fun k a => m k a) false encK⟩
theorem ok : FnOk Tryz.prog cfg 26 18 code rs := .of Tryz.func26 (by kernel_rfl) rfl rfl (by kernel_rfl) (by kernel_rfl) rfl
abbrev kend : KK (Int) := kEnd cfg.tt rs (kFin cfg.tt 0 false [3] [] [] decB)
noncomputable abbrev rn := run cfg X 18 0 code kend
theorem s0 (k : Nat) (J : Nat → Fr → Heap → Option (Int)) (x0 : List UInt8) : stepJ cfg X 18 0 code kend k J 0 (argFr 0 (encA x0).1) (encA x0).2 = b0 k (fun s => J s.lab s.fr s.hp) x0 := by kernel_rfl
theorem s1 (k : Nat) (J : Nat → Fr → Heap → Option (Int)) (x0 : List UInt8) (x1 : Int) (x2 : Int) : stepJ cfg X 18 0 code kend k J (St.l1 x0 x1 x2).lab (St.l1 x0 x1 x2).fr (St.l1 x0 x1 x2).hp = b1 k (fun s => J s.lab s.fr s.hp) x0 x1 x2 := by kernel_rfl
theorem go_ok : ∀ (k : Nat) (s : St), rn k s.lab s.fr s.hp = go k s
  | 0, _ => rfl
  | k + 1, .l1 x0 x1 x2 => by
    have h := s1 k (rn k) x0 x1 x2
    rw [show (fun s : St => rn k s.lab s.fr s.hp) = go k from funext (go_ok k)] at h
    exact h
theorem run_ok : ∀ (k : Nat) (a : (List UInt8)), rn k 0 (argFr 0 (encA a).1) (encA a).2 = m k a
  | 0, _ => rfl
  | k + 1, x0 => by
    have h := s0 k (rn k) x0
    rw [show (fun s : St => rn k s.lab s.fr s.hp) = go k from funext (go_ok k)] at h
    exact h
theorem snd (k : Nat) : Snd Tryz.prog cfg k ct := fn_snd (X := X) cfgOk mixed ok (np := 0) (vps := []) (vws := []) (decA := decA) (encA := encA) (decB := decB) (encB := encB) (encK := encK) (fun _ b _ => rfl)
  (by
    intro xs H a h
    unfold decA at h
    split at h
    · cases h; exact ⟨rfl, rfl, rfl, rfl⟩
    · cases h)
  (by
    intro v H b h
    unfold decB at h
    split at h
    · cases h; exact ⟨rfl, fun _ _ _ h => (by cases h), rfl⟩
    · cases h)
  rfl k (fun k' _ => AllS.mem (l := X) trivial) (fun a => run_ok k a)
end number_exponent

/-! cavil/number.body -/
namespace number_body
inductive St where
  | l1 (x0 : List UInt8) (x1 : Int) (x2 : Bool)
  | l2 (x0 : List UInt8) (x1 : Int) (x2 : Int)
  | l3 (x0 : List UInt8) (x1 : Int) (x2 : Int) (x3 : Int) (x4 : Bool)
def St.lab : St → Nat
  | .l1 _ _ _ => 1
  | .l2 _ _ _ => 2
  | .l3 _ _ _ _ _ => 3
def St.fr : St → Fr
  | .l1 x0 x1 x2 => [(0, .slice 0 1 .all), (1, .int .i64 x1), (46, .bool x2)]
  | .l2 x0 x1 x2 => [(0, .slice 0 1 .all), (1, .int .i64 x1), (5, .int .i64 x2)]
  | .l3 x0 x1 x2 x3 x4 => [(0, .slice 0 1 .all), (1, .int .i64 x1), (5, .int .i64 x2), (6, .int .u8 x3), (7, .bool x4)]
def St.hp : St → Heap
  | .l1 x0 x1 x2 => [.row 0 1 false 5 (.u8 x0)]
  | .l2 x0 x1 x2 => [.row 0 1 false 5 (.u8 x0)]
  | .l3 x0 x1 x2 x3 x4 => [.row 0 1 false 5 (.u8 x0)]
def b0 (k : Nat) (J : St → Option ((List UInt8))) (x0 : List UInt8) (x1 : Int) : Option ((List UInt8)) :=
  bif (decide (x1 < 0)) then
    J (.l1 x0 x1 true)
  else
    bif (decide (x1 ≥ (x0.length : Int))) then
      J (.l1 x0 x1 true)
    else
      gk (inB x1 x0.length)
        (bindO (number_digit.m k ((x0.getD x1.toNat 0).toNat : Int)) fun r1 =>
          bif (!r1) then
            gk (inB x1 x0.length)
              (bif (((x0.getD x1.toNat 0).toNat : Int) != 46) then
                J (.l1 x0 x1 true)
              else
                bif (x1 == (wr .i64 ((x0.length : Int) - 1))) then
                  J (.l1 x0 x1 true)
                else
                  gk (inB (wr .i64 (x1 + 1)) x0.length)
                    (bindO (number_digit.m k ((x0.getD (wr .i64 (x1 + 1)).toNat 0).toNat : Int)) fun r2 =>
                      J (.l1 x0 x1 (!r2))))
          else
            J (.l1 x0 x1 false))
def b1 (k : Nat) (J : St → Option ((List UInt8))) (x0 : List UInt8) (x1 : Int) (x2 : Bool) : Option ((List UInt8)) :=
  bif x2 then
    some ([] : List UInt8)
  else
    J (.l2 x0 x1 x1)
def b2 (k : Nat) (J : St → Option ((List UInt8))) (x0 : List UInt8) (x1 : Int) (x2 : Int) : Option ((List UInt8)) :=
  bif (decide (x2 < (x0.length : Int))) then
    gk (inB x2 x0.length)
      (bif (((x0.getD x2.toNat 0).toNat : Int) == 43) then
        bif (decide (x2 > x1)) then
          gk (inB (wr .i64 (x2 - 1)) x0.length)
            (bif ((Go.bits .or .u8 ((x0.getD (wr .i64 (x2 - 1)).toNat 0).toNat : Int) 32) == 101) then
              gk (cutB x1 (if x2 < (wr .i64 (x1 + 2)) then x2 else (wr .i64 (x1 + 2))) x0.length)
                (bindO (number_base.m k (cut x0 x1 (if x2 < (wr .i64 (x1 + 2)) then x2 else (wr .i64 (x1 + 2))))) fun r1 =>
                  J (.l3 x0 x1 x2 ((x0.getD x2.toNat 0).toNat : Int) (r1 != 16)))
            else
              J (.l3 x0 x1 x2 ((x0.getD x2.toNat 0).toNat : Int) false))
        else
          J (.l3 x0 x1 x2 ((x0.getD x2.toNat 0).toNat : Int) false)
      else
        bif (((x0.getD x2.toNat 0).toNat : Int) == 45) then
          bif (decide (x2 > x1)) then
            gk (inB (wr .i64 (x2 - 1)) x0.length)
              (bif ((Go.bits .or .u8 ((x0.getD (wr .i64 (x2 - 1)).toNat 0).toNat : Int) 32) == 101) then
                gk (cutB x1 (if x2 < (wr .i64 (x1 + 2)) then x2 else (wr .i64 (x1 + 2))) x0.length)
                  (bindO (number_base.m k (cut x0 x1 (if x2 < (wr .i64 (x1 + 2)) then x2 else (wr .i64 (x1 + 2))))) fun r2 =>
                    J (.l3 x0 x1 x2 ((x0.getD x2.toNat 0).toNat : Int) (r2 != 16)))
              else
                J (.l3 x0 x1 x2 ((x0.getD x2.toNat 0).toNat : Int) false))
          else
            J (.l3 x0 x1 x2 ((x0.getD x2.toNat 0).toNat : Int) false)
        else
          J (.l3 x0 x1 x2 ((x0.getD x2.toNat 0).toNat : Int) false))
  else
    gk (cutB x1 x2 x0.length)
      (some (cut x0 x1 x2))
def b3 (k : Nat) (J : St → Option ((List UInt8))) (x0 : List UInt8) (x1 : Int) (x2 : Int) (x3 : Int) (x4 : Bool) : Option ((List UInt8)) :=
  bindO (number_word.m k x3) fun r1 =>
    bif (!r1) then
      bif (!x4) then
        gk (cutB x1 x2 x0.length)
          (some (cut x0 x1 x2))
      else
        J (.l2 x0 x1 (wr .i64 (x2 + 1)))
    else
      J (.l2 x0 x1 (wr .i64 (x2 + 1)))
def go : Nat → St → Option ((List UInt8))
  | 0, _ => none
  | k + 1, .l1 x0 x1 x2 => b1 k (go k) x0 x1 x2
  | k + 1, .l2 x0 x1 x2 => b2 k (go k) x0 x1 x2
  | k + 1, .l3 x0 x1 x2 x3 x4 => b3 k (go k) x0 x1 x2 x3 x4
def m : Nat → List UInt8 → Int → Option ((List UInt8))
  | 0, _, _ => none
  | k + 1, x0, x1 => b0 k (go k) x0 x1
def anns : Anns := [(2, 1, [(0, 22, false), (1, 3, false), (46, 4, false)]), (6, 2, [(0, 22, false), (1, 3, false), (5, 3, false)]), (10, 3, [(0, 22, false), (1, 3, false), (5, 3, false), (6, 5, false), (7, 4, false)])]
noncomputable def code : ACode := codeOf Tryz.f23 anns
def rs : List ResultVar := [.tmp 4]
def decA : List AVal → Heap → Option ((List UInt8) × Int)
  | [.slice 0 1 .all, .int .i64 x1], [.row 0 1 false 5 (.u8 x0)] => some (x0, x1)
  | _, _ => none
def encA (a : (List UInt8) × Int) : List AVal × Heap := ([.slice 0 1 .all, .int .i64 a.2], [.row 0 1 false 5 (.u8 a.1)])
def decB : AVal → Heap → Option ((List UInt8))
  | .str y0, [_] => some y0
  | _, _ => none
def encB (b : (List UInt8)) : Out := (.str b, [], [])
def encK : EncK ((List UInt8)) := fun _ b K => K (encB b)
def X : List Ct := [number_digit.ct, number_base.ct, number_word.ct]
def ct : Ct := ⟨23, callRun cfg.tt [(22, false), (3, false)] decA (fun k a => m k a.1 a.2) false encK⟩
theorem ok : FnOk Tryz.prog cfg 23 102 code rs := .of Tryz.func23 (by kernel_rfl) rfl rfl (by kernel_rfl) (by kernel_rfl) rfl
abbrev kend : KK ((List UInt8)) := kEnd cfg.tt rs (kFin cfg.tt 1 false [9] [] [0] decB)
noncomputable abbrev rn := run cfg X 102 1 code kend
theorem s0 (k : Nat) (J : Nat → Fr → Heap → Option ((List UInt8))) (x0 : List UInt8) (x1 : Int) : stepJ cfg X 102 1 code kend k J 0 (argFr 0 (encA (x0, x1)).1) (encA (x0, x1)).2 = b0 k (fun s => J s.lab s.fr s.hp) x0 x1 := by kernel_rfl
theorem s1 (k : Nat) (J : Nat → Fr → Heap → Option ((List UInt8))) (x0 : List UInt8) (x1 : Int) (x2 : Bool) : stepJ cfg X 102 1 code kend k J (St.l1 x0 x1 x2).lab (St.l1 x0 x1 x2).fr (St.l1 x0 x1 x2).hp = b1 k (fun s => J s.lab s.fr s.hp) x0 x1 x2 := by kernel_rfl
theorem s2 (k : Nat) (J : Nat → Fr → Heap → Option ((List UInt8))) (x0 : List UInt8) (x1 : Int) (x2 : Int) : stepJ cfg X 102 1 code kend k J (St.l2 x0 x1 x2).lab (St.l2 x0 x1 x2).fr (St.l2 x0 x1 x2).hp = b2 k (fun s => J s.lab s.fr s.hp) x0 x1 x2 := by kernel_rfl
theorem s3 (k : Nat) (J : Nat → Fr → Heap → Option ((List UInt8))) (x0 : List UInt8) (x1 : Int) (x2 : Int) (x3 : Int) (x4 : Bool) : stepJ cfg X 102 1 code kend k J (St.l3 x0 x1 x2 x3 x4).lab (St.l3 x0 x1 x2 x3 x4).fr (St.l3 x0 x1 x2 x3 x4).hp = b3 k (fun s => J s.lab s.fr s.hp) x0 x1 x2 x3 x4 := by kernel_rfl
theorem go_ok : ∀ (k : Nat) (s : St), rn k s.lab s.fr s.hp = go k s
  | 0, _ => rfl
  | k + 1, .l1 x0 x1 x2 => by
    have h := s1 k (rn k) x0 x1 x2
    rw [show (fun s : St => rn k s.lab s.fr s.hp) = go k from funext (go_ok k)] at h
    exact h
  | k + 1, .l2 x0 x1 x2 => by
    have h := s2 k (rn k) x0 x1 x2
    rw [show (fun s : St => rn k s.lab s.fr s.hp) = go k from funext (go_ok k)] at h
    exact h
  | k + 1, .l3 x0 x1 x2 x3 x4 => by
    have h := s3 k (rn k) x0 x1 x2 x3 x4
    rw [show (fun s : St => rn k s.lab s.fr s.hp) = go k from funext (go_ok k)] at h
    exact h
theorem run_ok : ∀ (k : Nat) (a : (List UInt8) × Int), rn k 0 (argFr 0 (encA a).1) (encA a).2 = m k a.1 a.2
  | 0, _ => rfl
  | k + 1, (x0, x1) => by
    have h := s0 k (rn k) x0 x1
    rw [show (fun s : St => rn k s.lab s.fr s.hp) = go k from funext (go_ok k)] at h
    exact h
theorem snd (k : Nat) : Snd Tryz.prog cfg k ct := fn_snd (X := X) cfgOk mixed ok (np := 1) (vps := []) (vws := [0]) (decA := decA) (encA := encA) (decB := decB) (encB := encB) (encK := encK) (fun _ b _ => rfl)
  (by
    intro xs H a h
    unfold decA at h
    split at h
    · cases h; exact ⟨rfl, rfl, rfl, rfl⟩
    · cases h)
  (by
    intro v H b h
    unfold decB at h
    split at h
    · cases h; exact ⟨rfl, fun _ _ _ h => (by cases h), rfl⟩
    · cases h)
  rfl k (fun k' _ => AllS.mem (l := X) ⟨number_digit.snd k', number_base.snd k', number_word.snd k', trivial⟩) (fun a => run_ok k a)
end number_body

/-! cavil/cavilref09.letter -/
namespace cavilref09_letter
def b0 (k : Nat) (x0 : Int) : Option (Bool) :=
  bif (decide (x0 ≥ 97)) then
    bif (decide (x0 ≤ 122)) then
      some true
    else
      bif (decide (x0 ≥ 65)) then
        some (decide (x0 ≤ 90))
      else
        some false
  else
    bif (decide (x0 ≥ 65)) then
      some (decide (x0 ≤ 90))
    else
      some false
def m : Nat → Int → Option (Bool)
  | 0, _ => none
  | k + 1, x0 => b0 k x0
def anns : Anns := []
noncomputable def code : ACode := codeOf Tryz.f55 anns
def rs : List ResultVar := [.tmp 2]
def decA : List AVal → Heap → Option (Int)
  | [.int .u8 x0], [] => some x0
  | _, _ => none
def encA (a : Int) : List AVal × Heap := ([.int .u8 a], [])
def decB : AVal → Heap → Option (Bool)
  | .bool y0, [] => some y0
  | _, _ => none
def encB (b : Bool) : Out := (.bool b, [], [])
def encK : EncK (Bool) := fun _ b K => K (encB b)
def X : List Ct := []
def ct : Ct := ⟨55, callRun cfg.tt [(5, false)] decA (fun k a => m k a) false encK⟩
theorem ok : FnOk Tryz.prog cfg 55 17 code rs := .of Tryz.func55 (by kernel_rfl) rfl rfl (by kernel_rfl) (by kernel_rfl) rfl
abbrev kend : KK (Bool) := kEnd cfg.tt rs (kFin cfg.tt 0 false [4] [] [] decB)
noncomputable abbrev rn := run cfg X 17 0 code kend
theorem s0 (k : Nat) (J : Nat → Fr → Heap → Option (Bool)) (x0 : Int) : stepJ cfg X 17 0 code kend k J 0 (argFr 0 (encA x0).1) (encA x0).2 = b0 k x0 := by kernel_rfl
theorem run_ok : ∀ (k : Nat) (a : Int), rn k 0 (argFr 0 (encA a).1) (encA a).2 = m k a
  | 0, _ => rfl
  | k + 1, x0 => by
    have h := s0 k (rn k) x0
    exact h
theorem snd (k : Nat) : Snd Tryz.prog cfg k ct := fn_snd (X := X) cfgOk mixed ok (np := 0) (vps := []) (vws := []) (decA := decA) (encA := encA) (decB := decB) (encB := encB) (encK := encK) (fun _ b _ => rfl)
  (by
    intro xs H a h
    unfold decA at h
    split at h
    · cases h; exact ⟨rfl, rfl, rfl, rfl⟩
    · cases h)
  (by
    intro v H b h
    unfold decB at h
    split at h
    · cases h; exact ⟨rfl, fun _ _ _ h => (by cases h), rfl⟩
    · cases h)
  rfl k (fun k' _ => AllS.mem (l := X) trivial) (fun a => run_ok k a)
end cavilref09_letter

/-! cavil/cavilref09.Base -/
namespace cavilref09_Base
inductive St where
  | l1 (x0 : List UInt8) (x1 : Bool)
  | l2 (x0 : List UInt8) (x1 : Bool)
  | l3 (x0 : List UInt8) (x1 : Bool)
def St.lab : St → Nat
  | .l1 _ _ => 1
  | .l2 _ _ => 2
  | .l3 _ _ => 3
def St.fr : St → Fr
  | .l1 x0 x1 => [(0, .str x0), (10, .bool x1)]
  | .l2 x0 x1 => [(0, .str x0), (18, .bool x1)]
  | .l3 x0 x1 => [(0, .str x0), (26, .bool x1)]
def St.hp : St → Heap
  | .l1 x0 x1 => []
  | .l2 x0 x1 => []
  | .l3 x0 x1 => []
def b0 (k : Nat) (J : St → Option (Int)) (x0 : List UInt8) : Option (Int) :=
  bif (decide ((x0.length : Int) < 2)) then
    J (.l1 x0 true)
  else
    gk (inB 0 x0.length)
      (J (.l1 x0 ((byt x0 0) != 48)))
def b1 (k : Nat) (J : St → Option (Int)) (x0 : List UInt8) (x1 : Bool) : Option (Int) :=
  bif x1 then
    some 0
  else
    gk (inB 1 x0.length)
      (bif ((byt x0 1) == 120) then
        J (.l2 x0 true)
      else
        gk (inB 1 x0.length)
          (J (.l2 x0 ((byt x0 1) == 88))))
def b2 (k : Nat) (J : St → Option (Int)) (x0 : List UInt8) (x1 : Bool) : Option (Int) :=
  bif x1 then
    some 16
  else
    gk (inB 1 x0.length)
      (bif ((byt x0 1) == 98) then
        J (.l3 x0 true)
      else
        gk (inB 1 x0.length)
          (J (.l3 x0 ((byt x0 1) == 66))))
def b3 (k : Nat) (J : St → Option (Int)) (x0 : List UInt8) (x1 : Bool) : Option (Int) :=
  bif x1 then
    some 2
  else
    gk (inB 1 x0.length)
      (bif ((byt x0 1) == 111) then
        some 8
      else
        gk (inB 1 x0.length)
          (bif ((byt x0 1) == 79) then
            some 8
          else
            some 0))
def go : Nat → St → Option (Int)
  | 0, _ => none
  | k + 1, .l1 x0 x1 => b1 k (go k) x0 x1
  | k + 1, .l2 x0 x1 => b2 k (go k) x0 x1
  | k + 1, .l3 x0 x1 => b3 k (go k) x0 x1
def m : Nat → List UInt8 → Option (Int)
  | 0, _ => none
  | k + 1, x0 => b0 k (go k) x0
def anns : Anns := [(2, 1, [(0, 9, false), (10, 4, false)]), (5, 2, [(0, 9, false), (18, 4, false)]), (8, 3, [(0, 9, false), (26, 4, false)])]
noncomputable def code : ACode := codeOf Tryz.f28 anns
def rs : List ResultVar := [.tmp 2]
def decA : List AVal → Heap → Option ((List UInt8))
  | [.str x0], [] => some x0
  | _, _ => none
def encA (a : (List UInt8)) : List AVal × Heap := ([.str a], [])
def decB : AVal → Heap → Option (Int)
  | .int .i64 y0, [] => some y0
  | _, _ => none
def encB (b : Int) : Out := (.int .i64 b, [], [])
def encK : EncK (Int) := fun _ b K => K (encB b)
def X : List Ct := []
def ct : Ct := ⟨28, callRun cfg.tt [(9, false)] decA (fun k a => m k a) false encK⟩
theorem ok : FnOk Tryz.prog cfg 28 35 code rs := .of Tryz.func28 (by kernel_rfl) rfl rfl (by kernel_rfl) (by kernel_rfl) rfl
abbrev kend : KK (Int) := kEnd cfg.tt rs (kFin cfg.tt 0 false [3] [] [] decB)
noncomputable abbrev rn := run cfg X 35 0 code kend
theorem s0 (k : Nat) (J : Nat → Fr → Heap → Option (Int)) (x0 : List UInt8) : stepJ cfg X 35 0 code kend k J 0 (argFr 0 (encA x0).1) (encA x0).2 = b0 k (fun s => J s.lab s.fr s.hp) x0 := by kernel_rfl
theorem s1 (k : Nat) (J : Nat → Fr → Heap → Option (Int)) (x0 : List UInt8) (x1 : Bool) : stepJ cfg X 35 0 code kend k J (St.l1 x0 x1).lab (St.l1 x0 x1).fr (St.l1 x0 x1).hp = b1 k (fun s => J s.lab s.fr s.hp) x0 x1 := by kernel_rfl
theorem s2 (k : Nat) (J : Nat → Fr → Heap → Option (Int)) (x0 : List UInt8) (x1 : Bool) : stepJ cfg X 35 0 code kend k J (St.l2 x0 x1).lab (St.l2 x0 x1).fr (St.l2 x0 x1).hp = b2 k (fun s => J s.lab s.fr s.hp) x0 x1 := by kernel_rfl
theorem s3 (k : Nat) (J : Nat → Fr → Heap → Option (Int)) (x0 : List UInt8) (x1 : Bool) : stepJ cfg X 35 0 code kend k J (St.l3 x0 x1).lab (St.l3 x0 x1).fr (St.l3 x0 x1).hp = b3 k (fun s => J s.lab s.fr s.hp) x0 x1 := by kernel_rfl
theorem go_ok : ∀ (k : Nat) (s : St), rn k s.lab s.fr s.hp = go k s
  | 0, _ => rfl
  | k + 1, .l1 x0 x1 => by
    have h := s1 k (rn k) x0 x1
    rw [show (fun s : St => rn k s.lab s.fr s.hp) = go k from funext (go_ok k)] at h
    exact h
  | k + 1, .l2 x0 x1 => by
    have h := s2 k (rn k) x0 x1
    rw [show (fun s : St => rn k s.lab s.fr s.hp) = go k from funext (go_ok k)] at h
    exact h
  | k + 1, .l3 x0 x1 => by
    have h := s3 k (rn k) x0 x1
    rw [show (fun s : St => rn k s.lab s.fr s.hp) = go k from funext (go_ok k)] at h
    exact h
theorem run_ok : ∀ (k : Nat) (a : (List UInt8)), rn k 0 (argFr 0 (encA a).1) (encA a).2 = m k a
  | 0, _ => rfl
  | k + 1, x0 => by
    have h := s0 k (rn k) x0
    rw [show (fun s : St => rn k s.lab s.fr s.hp) = go k from funext (go_ok k)] at h
    exact h
theorem snd (k : Nat) : Snd Tryz.prog cfg k ct := fn_snd (X := X) cfgOk mixed ok (np := 0) (vps := []) (vws := []) (decA := decA) (encA := encA) (decB := decB) (encB := encB) (encK := encK) (fun _ b _ => rfl)
  (by
    intro xs H a h
    unfold decA at h
    split at h
    · cases h; exact ⟨rfl, rfl, rfl, rfl⟩
    · cases h)
  (by
    intro v H b h
    unfold decB at h
    split at h
    · cases h; exact ⟨rfl, fun _ _ _ h => (by cases h), rfl⟩
    · cases h)
  rfl k (fun k' _ => AllS.mem (l := X) trivial) (fun a => run_ok k a)
end cavilref09_Base

/-! cavil/cavilref09.Body -/
namespace cavilref09_Body
inductive St where
  | l1 (x0 : List UInt8) (x1 : Int) (x2 : Bool)
  | l2 (x0 : List UInt8) (x1 : Int) (x2 : Bool)
  | l3 (x0 : List UInt8) (x1 : Int)
  | l4 (x0 : List UInt8) (x1 : Int) (x2 : Bool) (x3 : Int)
  | l5 (x0 : List UInt8) (x1 : Int) (x2 : Bool) (x3 : Int) (x4 : Int) (x5 : Bool)
  | l6 (x0 : List UInt8) (x1 : Int) (x2 : Bool) (x3 : Int) (x4 : Bool) (x5 : Bool)
  | l7 (x0 : List UInt8) (x1 : Int) (x2 : Bool) (x3 : Int) (x4 : Bool)
def St.lab : St → Nat
  | .l1 _ _ _ => 1
  | .l2 _ _ _ => 2
  | .l3 _ _ => 3
  | .l4 _ _ _ _ => 4
  | .l5 _ _ _ _ _ _ => 5
  | .l6 _ _ _ _ _ _ => 6
  | .l7 _ _ _ _ _ => 7
def St.fr : St → Fr
  | .l1 x0 x1 x2 => [(0, .slice 0 1 .all), (1, .int .i64 x1), (16, .bool x2)]
  | .l2 x0 x1 x2 => [(0, .slice 0 1 .all), (1, .int .i64 x1), (43, .bool x2)]
  | .l3 x0 x1 => [(0, .slice 0 1 .all), (1, .int .i64 x1)]
  | .l4 x0 x1 x2 x3 => [(0, .slice 0 1 .all), (1, .int .i64 x1), (5, .bool x2), (6, .int .i64 x3)]
  | .l5 x0 x1 x2 x3 x4 x5 => [(0, .slice 0 1 .all), (1, .int .i64 x1), (5, .bool x2), (6, .int .i64 x3), (7, .int .u8 x4), (8, .bool x5)]
  | .l6 x0 x1 x2 x3 x4 x5 => [(0, .slice 0 1 .all), (1, .int .i64 x1), (5, .bool x2), (6, .int .i64 x3), (8, .bool x4), (103, .bool x5)]
  | .l7 x0 x1 x2 x3 x4 => [(0, .slice 0 1 .all), (1, .int .i64 x1), (5, .bool x2), (6, .int .i64 x3), (8, .bool x4)]
def St.hp : St → Heap
  | .l1 x0 x1 x2 => [.row 0 1 false 5 (.u8 x0)]
  | .l2 x0 x1 x2 => [.row 0 1 false 5 (.u8 x0)]
  | .l3 x0 x1 => [.row 0 1 false 5 (.u8 x0)]
  | .l4 x0 x1 x2 x3 => [.row 0 1 false 5 (.u8 x0)]
  | .l5 x0 x1 x2 x3 x4 x5 => [.row 0 1 false 5 (.u8 x0)]
  | .l6 x0 x1 x2 x3 x4 x5 => [.row 0 1 false 5 (.u8 x0)]
  | .l7 x0 x1 x2 x3 x4 => [.row 0 1 false 5 (.u8 x0)]
def b0 (k : Nat) (J : St → Option ((List UInt8))) (x0 : List UInt8) (x1 : Int) : Option ((List UInt8)) :=
  bif (decide (x1 < 0)) then
    J (.l1 x0 x1 true)
  else
    J (.l1 x0 x1 (decide (x1 ≥ (x0.length : Int))))
def b1 (k : Nat) (J : St → Option ((List UInt8))) (x0 : List UInt8) (x1 : Int) (x2 : Bool) : Option ((List UInt8)) :=
  bif x2 then
    some ([] : List UInt8)
  else
    gk (inB x1 x0.length)
      (bindO (cavilref09_digit.m k ((x0.getD x1.toNat 0).toNat : Int)) fun r1 =>
        bif (!r1) then
          gk (inB x1 x0.length)
            (bif (((x0.getD x1.toNat 0).toNat : Int) != 46) then
              J (.l2 x0 x1 true)
            else
              bif (decide ((wr .i64 (x1 + 1)) ≥ (x0.length : Int))) then
                J (.l2 x0 x1 true)
              else
                gk (inB (wr .i64 (x1 + 1)) x0.length)
                  (bindO (cavilref09_digit.m k ((x0.getD (wr .i64 (x1 + 1)).toNat 0).toNat : Int)) fun r2 =>
                    J (.l2 x0 x1 (!r2))))
        else
          J (.l3 x0 x1))
def b2 (k : Nat) (J : St → Option ((List UInt8))) (x0 : List UInt8) (x1 : Int) (x2 : Bool) : Option ((List UInt8)) :=
  bif x2 then
    some ([] : List UInt8)
  else
    J (.l3 x0 x1)
def b3 (k : Nat) (J : St → Option ((List UInt8))) (x0 : List UInt8) (x1 : Int) : Option ((List UInt8)) :=
  gk (cutB x1 (x0.length : Int) x0.length)
    (bindO (cavilref09_Base.m k (cut x0 x1 (x0.length : Int))) fun r1 =>
      J (.l4 x0 x1 (r1 == 16) x1))
def b4 (k : Nat) (J : St → Option ((List UInt8))) (x0 : List UInt8) (x1 : Int) (x2 : Bool) (x3 : Int) : Option ((List UInt8)) :=
  bif (decide (x3 < (x0.length : Int))) then
    gk (inB x3 x0.length)
      (bindO (cavilref09_letter.m k ((x0.getD x3.toNat 0).toNat : Int)) fun r1 =>
        bif r1 then
          J (.l5 x0 x1 x2 x3 ((x0.getD x3.toNat 0).toNat : Int) true)
        else
          bindO (cavilref09_digit.m k ((x0.getD x3.toNat 0).toNat : Int)) fun r2 =>
            bif r2 then
              J (.l5 x0 x1 x2 x3 ((x0.getD x3.toNat 0).toNat : Int) true)
            else
              bif (((x0.getD x3.toNat 0).toNat : Int) == 95) then
                J (.l5 x0 x1 x2 x3 ((x0.getD x3.toNat 0).toNat : Int) true)
              else
                J (.l5 x0 x1 x2 x3 ((x0.getD x3.toNat 0).toNat : Int) (((x0.getD x3.toNat 0).toNat : Int) == 46)))
  else
    gk (cutB x1 x3 x0.length)
      (some (cut x0 x1 x3))
def b5 (k : Nat) (J : St → Option ((List UInt8))) (x0 : List UInt8) (x1 : Int) (x2 : Bool) (x3 : Int) (x4 : Int) (x5 : Bool) : Option ((List UInt8)) :=
  bif (x4 == 43) then
    bif (!x2) then
      bif (decide (x3 > x1)) then
        gk (inB (wr .i64 (x3 - 1)) x0.length)
          (bif (((x0.getD (wr .i64 (x3 - 1)).toNat 0).toNat : Int) == 101) then
            J (.l6 x0 x1 x2 x3 x5 true)
          else
            gk (inB (wr .i64 (x3 - 1)) x0.length)
              (J (.l6 x0 x1 x2 x3 x5 (((x0.getD (wr .i64 (x3 - 1)).toNat 0).toNat : Int) == 69))))
      else
        J (.l6 x0 x1 x2 x3 x5 false)
    else
      J (.l6 x0 x1 x2 x3 x5 false)
  else
    bif (x4 == 45) then
      bif (!x2) then
        bif (decide (x3 > x1)) then
          gk (inB (wr .i64 (x3 - 1)) x0.length)
            (bif (((x0.getD (wr .i64 (x3 - 1)).toNat 0).toNat : Int) == 101) then
              J (.l6 x0 x1 x2 x3 x5 true)
            else
              gk (inB (wr .i64 (x3 - 1)) x0.length)
                (J (.l6 x0 x1 x2 x3 x5 (((x0.getD (wr .i64 (x3 - 1)).toNat 0).toNat : Int) == 69))))
        else
          J (.l6 x0 x1 x2 x3 x5 false)
      else
        J (.l6 x0 x1 x2 x3 x5 false)
    else
      J (.l6 x0 x1 x2 x3 x5 false)
def b6 (k : Nat) (J : St → Option ((List UInt8))) (x0 : List UInt8) (x1 : Int) (x2 : Bool) (x3 : Int) (x4 : Bool) (x5 : Bool) : Option ((List UInt8)) :=
  bif x5 then
    J (.l7 x0 x1 x2 x3 true)
  else
    J (.l7 x0 x1 x2 x3 x4)
def b7 (k : Nat) (J : St → Option ((List UInt8))) (x0 : List UInt8) (x1 : Int) (x2 : Bool) (x3 : Int) (x4 : Bool) : Option ((List UInt8)) :=
  bif (!x4) then
    gk (cutB x1 x3 x0.length)
      (some (cut x0 x1 x3))
  else
    J (.l4 x0 x1 x2 (wr .i64 (x3 + 1)))
def go : Nat → St → Option ((List UInt8))
  | 0, _ => none
  | k + 1, .l1 x0 x1 x2 => b1 k (go k) x0 x1 x2
  | k + 1, .l2 x0 x1 x2 => b2 k (go k) x0 x1 x2
  | k + 1, .l3 x0 x1 => b3 k (go k) x0 x1
  | k + 1, .l4 x0 x1 x2 x3 => b4 k (go k) x0 x1 x2 x3
  | k + 1, .l5 x0 x1 x2 x3 x4 x5 => b5 k (go k) x0 x1 x2 x3 x4 x5
  | k + 1, .l6 x0 x1 x2 x3 x4 x5 => b6 k (go k) x0 x1 x2 x3 x4 x5
  | k + 1, .l7 x0 x1 x2 x3 x4 => b7 k (go k) x0 x1 x2 x3 x4
def m : Nat → List UInt8 → Int → Option ((List UInt8))
  | 0, _, _ => none
  | k + 1, x0, x1 => b0 k (go k) x0 x1
def anns : Anns := [(2, 1, [(0, 22, false), (1, 3, false), (16, 4, false)]), (4, 3, [(0, 22, false), (1, 3, false)]), (6, 2, [(0, 22, false), (1, 3, false), (43, 4, false)]), (11, 4, [(0, 22, false), (1, 3, false), (5, 4, false), (6, 3, false)]), (15, 5, [(0, 22, false), (1, 3, false), (5, 4, false), (6, 3, false), (7, 5, false), (8, 4, false)]), (16, 7, [(0, 22, false), (1, 3, false), (5, 4, false), (6, 3, false), (8, 4, false)]), (17, 6, [(0, 22, false), (1, 3, false), (5, 4, false), (6, 3, false), (8, 4, false), (103, 4, false)])]
noncomputable def code : ACode := codeOf Tryz.f27 anns
def rs : List ResultVar := [.tmp 4]
def decA : List AVal → Heap → Option ((List UInt8) × Int)
  | [.slice 0 1 .all, .int .i64 x1], [.row 0 1 false 5 (.u8 x0)] => some (x0, x1)
  | _, _ => none
def encA (a : (List UInt8) × Int) : List AVal × Heap := ([.slice 0 1 .all, .int .i64 a.2], [.row 0 1 false 5 (.u8 a.1)])
def decB : AVal → Heap → Option ((List UInt8))
  | .str y0, [_] => some y0
  | _, _ => none
def encB (b : (List UInt8)) : Out := (.str b, [], [])
def encK : EncK ((List UInt8)) := fun _ b K => K (encB b)
def X : List Ct := [cavilref09_digit.ct, cavilref09_Base.ct, cavilref09_letter.ct]
def ct : Ct := ⟨27, callRun cfg.tt [(22, false), (3, false)] decA (fun k a => m k a.1 a.2) false encK⟩
theorem ok : FnOk Tryz.prog cfg 27 118 code rs := .of Tryz.func27 (by kernel_rfl) rfl rfl (by kernel_rfl) (by kernel_rfl) rfl
abbrev kend : KK ((List UInt8)) := kEnd cfg.tt rs (kFin cfg.tt 1 false [9] [] [0] decB)
noncomputable abbrev rn := run cfg X 118 1 code kend
theorem s0 (k : Nat) (J : Nat → Fr → Heap → Option ((List UInt8))) (x0 : List UInt8) (x1 : Int) : stepJ cfg X 118 1 code kend k J 0 (argFr 0 (encA (x0, x1)).1) (encA (x0, x1)).2 = b0 k (fun s => J s.lab s.fr s.hp) x0 x1 := by kernel_rfl
theorem s1 (k : Nat) (J : Nat → Fr → Heap → Option ((List UInt8))) (x0 : List UInt8) (x1 : Int) (x2 : Bool) : stepJ cfg X 118 1 code kend k J (St.l1 x0 x1 x2).lab (St.l1 x0 x1 x2).fr (St.l1 x0 x1 x2).hp = b1 k (fun s => J s.lab s.fr s.hp) x0 x1 x2 := by kernel_rfl
theorem s2 (k : Nat) (J : Nat → Fr → Heap → Option ((List UInt8))) (x0 : List UInt8) (x1 : Int) (x2 : Bool) : stepJ cfg X 118 1 code kend k J (St.l2 x0 x1 x2).lab (St.l2 x0 x1 x2).fr (St.l2 x0 x1 x2).hp = b2 k (fun s => J s.lab s.fr s.hp) x0 x1 x2 := by kernel_rfl
theorem s3 (k : Nat) (J : Nat → Fr → Heap → Option ((List UInt8))) (x0 : List UInt8) (x1 : Int) : stepJ cfg X 118 1 code kend k J (St.l3 x0 x1).lab (St.l3 x0 x1).fr (St.l3 x0 x1).hp = b3 k (fun s => J s.lab s.fr s.hp) x0 x1 := by kernel_rfl
theorem s4 (k : Nat) (J : Nat → Fr → Heap → Option ((List UInt8))) (x0 : List UInt8) (x1 : Int) (x2 : Bool) (x3 : Int) : stepJ cfg X 118 1 code kend k J (St.l4 x0 x1 x2 x3).lab (St.l4 x0 x1 x2 x3).fr (St.l4 x0 x1 x2 x3).hp = b4 k (fun s => J s.lab s.fr s.hp) x0 x1 x2 x3 := by kernel_rfl
theorem s5 (k : Nat) (J : Nat → Fr → Heap → Option ((List UInt8))) (x0 : List UInt8) (x1 : Int) (x2 : Bool) (x3 : Int) (x4 : Int) (x5 : Bool) : stepJ cfg X 118 1 code kend k J (St.l5 x0 x1 x2 x3 x4 x5).lab (St.l5 x0 x1 x2 x3 x4 x5).fr (St.l5 x0 x1 x2 x3 x4 x5).hp = b5 k (fun s => J s.lab s.fr s.hp) x0 x1 x2 x3 x4 x5 := by kernel_rfl
theorem s6 (k : Nat) (J : Nat → Fr → Heap → Option ((List UInt8))) (x0 : List UInt8) (x1 : Int) (x2 : Bool) (x3 : Int) (x4 : Bool) (x5 : Bool) : stepJ cfg X 118 1 code kend k J (St.l6 x0 x1 x2 x3 x4 x5).lab (St.l6 x0 x1 x2 x3 x4 x5).fr (St.l6 x0 x1 x2 x3 x4 x5).hp = b6 k (fun s => J s.lab s.fr s.hp) x0 x1 x2 x3 x4 x5 := by kernel_rfl
theorem s7 (k : Nat) (J : Nat → Fr → Heap → Option ((List UInt8))) (x0 : List UInt8) (x1 : Int) (x2 : Bool) (x3 : Int) (x4 : Bool) : stepJ cfg X 118 1 code kend k J (St.l7 x0 x1 x2 x3 x4).lab (St.l7 x0 x1 x2 x3 x4).fr (St.l7 x0 x1 x2 x3 x4).hp = b7 k (fun s => J s.lab s.fr s.hp) x0 x1 x2 x3 x4 := by kernel_rfl
theorem go_ok : ∀ (k : Nat) (s : St), rn k s.lab s.fr s.hp = go k s
  | 0, _ => rfl
  | k + 1, .l1 x0 x1 x2 => by
    have h := s1 k (rn k) x0 x1 x2
    rw [show (fun s : St => rn k s.lab s.fr s.hp) = go k from funext (go_ok k)] at h
    exact h
  | k + 1, .l2 x0 x1 x2 => by
    have h := s2 k (rn k) x0 x1 x2
    rw [show (fun s : St => rn k s.lab s.fr s.hp) = go k from funext (go_ok k)] at h
    exact h
  | k + 1, .l3 x0 x1 => by
    have h := s3 k (rn k) x0 x1
    rw [show (fun s : St => rn k s.lab s.fr s.hp) = go k from funext (go_ok k)] at h
    exact h
  | k + 1, .l4 x0 x1 x2 x3 => by
    have h := s4 k (rn k) x0 x1 x2 x3
    rw [show (fun s : St => rn k s.lab s.fr s.hp) = go k from funext (go_ok k)] at h
    exact h
  | k + 1, .l5 x0 x1 x2 x3 x4 x5 => by
    have h := s5 k (rn k) x0 x1 x2 x3 x4 x5
    rw [show (fun s : St => rn k s.lab s.fr s.hp) = go k from funext (go_ok k)] at h
    exact h
  | k + 1, .l6 x0 x1 x2 x3 x4 x5 => by
    have h := s6 k (rn k) x0 x1 x2 x3 x4 x5
    rw [show (fun s : St => rn k s.lab s.fr s.hp) = go k from funext (go_ok k)] at h
    exact h
  | k + 1, .l7 x0 x1 x2 x3 x4 => by
    have h := s7 k (rn k) x0 x1 x2 x3 x4
    rw [show (fun s : St => rn k s.lab s.fr s.hp) = go k from funext (go_ok k)] at h
    exact h
theorem run_ok : ∀ (k : Nat) (a : (List UInt8) × Int), rn k 0 (argFr 0 (encA a).1) (encA a).2 = m k a.1 a.2
  | 0, _ => rfl
  | k + 1, (x0, x1) => by
    have h := s0 k (rn k) x0 x1
    rw [show (fun s : St => rn k s.lab s.fr s.hp) = go k from funext (go_ok k)] at h
    exact h
theorem snd (k : Nat) : Snd Tryz.prog cfg k ct := fn_snd (X := X) cfgOk mixed ok (np := 1) (vps := []) (vws := [0]) (decA := decA) (encA := encA) (decB := decB) (encB := encB) (encK := encK) (fun _ b _ => rfl)
  (by
    intro xs H a h
    unfold decA at h
    split at h
    · cases h; exact ⟨rfl, rfl, rfl, rfl⟩
    · cases h)
  (by
    intro v H b h
    unfold decB at h
    split at h
    · cases h; exact ⟨rfl, fun _ _ _ h => (by cases h), rfl⟩
    · cases h)
  rfl k (fun k' _ => AllS.mem (l := X) ⟨cavilref09_digit.snd k', cavilref09_Base.snd k', cavilref09_letter.snd k', trivial⟩) (fun a => run_ok k a)
end cavilref09_Body

/-! cavil/number.spaced$1 -/
namespace number_spaced_1
def b0 (k : Nat) (x0 : Int) (x1 : Int) : Option (Bool × Int) :=
  bindO (number_digit.m k x0) fun r1 =>
    bif r1 then
      some (true, x1)
    else
      bif (x1 == 2) then
        bif (decide ((Go.bits .or .u8 x0 32) ≥ 97)) then
          some ((decide ((Go.bits .or .u8 x0 32) ≤ 102)), x1)
        else
          some (false, x1)
      else
        some (false, x1)
def m : Nat → Int → Int → Option (Bool × Int)
  | 0, _, _ => none
  | k + 1, x0, x1 => b0 k x0 x1
def anns : Anns := []
noncomputable def code : ACode := codeOf Tryz.f58 anns
def rs : List ResultVar := [.tmp 3]
def decA : List AVal → Heap → Option (Int × Int)
  | [.int .u8 x0, .ptr 0 1 []], [.var 0 3 (.int .i64 x1)] => some (x0, x1)
  | _, _ => none
def encA (a : Int × Int) : List AVal × Heap := ([.int .u8 a.1, .ptr 0 1 []], [.var 0 3 (.int .i64 a.2)])
def decB : AVal → Heap → Option (Bool × Int)
  | .bool y0, [.var 0 3 (.int .i64 y1)] => some (y0, y1)
  | _, _ => none
def encB (b : Bool × Int) : Out := (.bool b.1, [(0, 3, .int .i64 b.2)], [])
def encK : EncK (Bool × Int) := fun _ b K => K (encB b)
def X : List Ct := [number_digit.ct]
def ct : Ct := ⟨58, callRun cfg.tt [(5, false), (0, false)] decA (fun k a => m k a.1 a.2) false encK⟩
theorem ok : FnOk Tryz.prog cfg 58 20 code rs := .of Tryz.func58 (by kernel_rfl) rfl rfl (by kernel_rfl) (by kernel_rfl) rfl
abbrev kend : KK (Bool × Int) := kEnd cfg.tt rs (kFin cfg.tt 1 false [4] [0] [] decB)
noncomputable abbrev rn := run cfg X 20 1 code kend
theorem s0 (k : Nat) (J : Nat → Fr → Heap → Option (Bool × Int)) (x0 : Int) (x1 : Int) : stepJ cfg X 20 1 code kend k J 0 (argFr 0 (encA (x0, x1)).1) (encA (x0, x1)).2 = b0 k x0 x1 := by kernel_rfl
theorem run_ok : ∀ (k : Nat) (a : Int × Int), rn k 0 (argFr 0 (encA a).1) (encA a).2 = m k a.1 a.2
  | 0, _ => rfl
  | k + 1, (x0, x1) => by
    have h := s0 k (rn k) x0 x1
    exact h
theorem snd (k : Nat) : Snd Tryz.prog cfg k ct := fn_snd (X := X) cfgOk mixed ok (np := 1) (vps := [0]) (vws := []) (decA := decA) (encA := encA) (decB := decB) (encB := encB) (encK := encK) (fun _ b _ => rfl)
  (by
    intro xs H a h
    unfold decA at h
    split at h
    · cases h; exact ⟨rfl, rfl, rfl, rfl⟩
    · cases h)
  (by
    intro v H b h
    unfold decB at h
    split at h
    · cases h; exact ⟨rfl, (by intro j T u h; simp only [encB, List.mem_cons, List.not_mem_nil, or_false, Prod.mk.injEq] at h; rcases h with h <;> (obtain ⟨rfl, rfl, rfl⟩ := h; rfl)), rfl⟩
    · cases h)
  rfl k (fun k' _ => AllS.mem (l := X) ⟨number_digit.snd k', trivial⟩) (fun a => run_ok k a)
end number_spaced_1

/-! cavil/number.spaced -/
namespace number_spaced
inductive St where
  | l1 (x0 : Int) (x1 : List UInt8) (x2 : Int) (x3 : Int)
def St.lab : St → Nat
  | .l1 _ _ _ _ => 1
def St.fr : St → Fr
  | .l1 x0 x1 x2 x3 => [(0, .str x1), (3, .ptr 0 1 []), (5, .fn 58 .nil (.pair (.ptr 0 1 []) .nil)), (9, .int .i64 x2), (10, .int .i64 x3)]
def St.hp : St → Heap
  | .l1 x0 x1 x2 x3 => [.var 0 3 (.int .i64 x0)]
def b0 (k : Nat) (J : St → Option (Bool)) (x0 : List UInt8) (x1 : Int) : Option (Bool) :=
  J (.l1 x1 x0 (x0.length : Int) 0)
def b1 (k : Nat) (J : St → Option (Bool)) (x0 : Int) (x1 : List UInt8) (x2 : Int) (x3 : Int) : Option (Bool) :=
  bif (decide (x3 < x2)) then
    gk (inB x3 x1.length)
      (bif ((byt x1 x3) != 95) then
        J (.l1 x0 x1 x2 (wr .i64 (x3 + 1)))
      else
        bif ((wr .i64 (x3 + 1)) == (x1.length : Int)) then
          some false
        else
          gk (inB (wr .i64 (x3 + 1)) x1.length)
            (bindO (number_spaced_1.m k (byt x1 (wr .i64 (x3 + 1))) x0) fun r1 =>
              bif (!r1.1) then
                some false
              else
                bif (x3 != r1.2) then
                  bif (x3 == 0) then
                    some false
                  else
                    gk (inB (wr .i64 (x3 - 1)) x1.length)
                      (bindO (number_spaced_1.m k (byt x1 (wr .i64 (x3 - 1))) r1.2) fun r2 =>
                        bif (!r2.1) then
                          some false
                        else
                          bif (x3 == r2.2) then
                            bif (r2.2 == 0) then
                              some false
                            else
                              J (.l1 r2.2 x1 x2 (wr .i64 (x3 + 1)))
                          else
                            J (.l1 r2.2 x1 x2 (wr .i64 (x3 + 1))))
                else
                  bif (x3 == r1.2) then
                    bif (r1.2 == 0) then
                      some false
                    else
                      J (.l1 r1.2 x1 x2 (wr .i64 (x3 + 1)))
                  else
                    J (.l1 r1.2 x1 x2 (wr .i64 (x3 + 1)))))
  else
    some true
def go : Nat → St → Option (Bool)
  | 0, _ => none
  | k + 1, .l1 x0 x1 x2 x3 => b1 k (go k) x0 x1 x2 x3
def m : Nat → List UInt8 → Int → Option (Bool)
  | 0, _, _ => none
  | k + 1, x0, x1 => b0 k (go k) x0 x1
def anns : Anns := [(4, 1, [(0, 9, false), (3, 0, false), (5, 79, false), (9, 3, false), (10, 3, false)])]
noncomputable def code : ACode := codeOf Tryz.f31 anns
def rs : List ResultVar := [.tmp 4]
def decA : List AVal → Heap → Option ((List UInt8) × Int)
  | [.str x0, .int .i64 x1], [] => some (x0, x1)
  | _, _ => none
def encA (a : (List UInt8) × Int) : List AVal × Heap := ([.str a.1, .int .i64 a.2], [])
def decB : AVal → Heap → Option (Bool)
  | .bool y0, [] => some y0
  | _, _ => none
def encB (b : Bool) : Out := (.bool b, [], [])
def encK : EncK (Bool) := fun _ b K => K (encB b)
def X : List Ct := [number_spaced_1.ct]
def ct : Ct := ⟨31, callRun cfg.tt [(9, false), (3, false)] decA (fun k a => m k a.1 a.2) false encK⟩
theorem ok : FnOk Tryz.prog cfg 31 59 code rs := .of Tryz.func31 (by kernel_rfl) rfl rfl (by kernel_rfl) (by kernel_rfl) rfl
abbrev kend : KK (Bool) := kEnd cfg.tt rs (kFin cfg.tt 0 false [4] [] [] decB)
noncomputable abbrev rn := run cfg X 59 0 code kend
theorem s0 (k : Nat) (J : Nat → Fr → Heap → Option (Bool)) (x0 : List UInt8) (x1 : Int) : stepJ cfg X 59 0 code kend k J 0 (argFr 0 (encA (x0, x1)).1) (encA (x0, x1)).2 = b0 k (fun s => J s.lab s.fr s.hp) x0 x1 := by kernel_rfl
theorem s1 (k : Nat) (J : Nat → Fr → Heap → Option (Bool)) (x0 : Int) (x1 : List UInt8) (x2 : Int) (x3 : Int) : stepJ cfg X 59 0 code kend k J (St.l1 x0 x1 x2 x3).lab (St.l1 x0 x1 x2 x3).fr (St.l1 x0 x1 x2 x3).hp = b1 k (fun s => J s.lab s.fr s.hp) x0 x1 x2 x3 := by kernel_rfl
theorem go_ok : ∀ (k : Nat) (s : St), rn k s.lab s.fr s.hp = go k s
  | 0, _ => rfl
  | k + 1, .l1 x0 x1 x2 x3 => by
    have h := s1 k (rn k) x0 x1 x2 x3
    rw [show (fun s : St => rn k s.lab s.fr s.hp) = go k from funext (go_ok k)] at h
    exact h
theorem run_ok : ∀ (k : Nat) (a : (List UInt8) × Int), rn k 0 (argFr 0 (encA a).1) (encA a).2 = m k a.1 a.2
  | 0, _ => rfl
  | k + 1, (x0, x1) => by
    have h := s0 k (rn k) x0 x1
    rw [show (fun s : St => rn k s.lab s.fr s.hp) = go k from funext (go_ok k)] at h
    exact h
theorem snd (k : Nat) : Snd Tryz.prog cfg k ct := fn_snd (X := X) cfgOk mixed ok (np := 0) (vps := []) (vws := []) (decA := decA) (encA := encA) (decB := decB) (encB := encB) (encK := encK) (fun _ b _ => rfl)
  (by
    intro xs H a h
    unfold decA at h
    split at h
    · cases h; exact ⟨rfl, rfl, rfl, rfl⟩
    · cases h)
  (by
    intro v H b h
    unfold decB at h
    split at h
    · cases h; exact ⟨rfl, fun _ _ _ h => (by cases h), rfl⟩
    · cases h)
  rfl k (fun k' _ => AllS.mem (l := X) ⟨number_spaced_1.snd k', trivial⟩) (fun a => run_ok k a)
end number_spaced

/-! cavil/number.plain -/
namespace number_plain
def b0 (k : Nat) (x0 : List UInt8) : Option ((List UInt8)) :=
  gk (lib_replace.ok x0 ([95] : List UInt8) ([] : List UInt8))
    (some (Lib.replaceAll x0 ([95] : List UInt8) ([] : List UInt8)))
def m : Nat → List UInt8 → Option ((List UInt8))
  | 0, _ => none
  | k + 1, x0 => b0 k x0
def anns : Anns := []
noncomputable def code : ACode := codeOf Tryz.f33 anns
def rs : List ResultVar := [.tmp 2]
def decA : List AVal → Heap → Option ((List UInt8))
  | [.str x0], [] => some x0
  | _, _ => none
def encA (a : (List UInt8)) : List AVal × Heap := ([.str a], [])
def decB : AVal → Heap → Option ((List UInt8))
  | .str y0, [] => some y0
  | _, _ => none
def encB (b : (List UInt8)) : Out := (.str b, [], [])
def encK : EncK ((List UInt8)) := fun _ b K => K (encB b)
def X : List Ct := [lib_replace.ct]
def ct : Ct := ⟨33, callRun cfg.tt [(9, false)] decA (fun k a => m k a) false encK⟩
theorem ok : FnOk Tryz.prog cfg 33 5 code rs := .of Tryz.func33 (by kernel_rfl) rfl rfl (by kernel_rfl) (by kernel_rfl) rfl
abbrev kend : KK ((List UInt8)) := kEnd cfg.tt rs (kFin cfg.tt 0 false [9] [] [] decB)
noncomputable abbrev rn := run cfg X 5 0 code kend
theorem s0 (k : Nat) (J : Nat → Fr → Heap → Option ((List UInt8))) (x0 : List UInt8) : stepJ cfg X 5 0 code kend k J 0 (argFr 0 (encA x0).1) (encA x0).2 = b0 k x0 := by kernel_rfl
theorem run_ok : ∀ (k : Nat) (a : (List UInt8)), rn k 0 (argFr 0 (encA a).1) (encA a).2 = m k a
  | 0, _ => rfl
  | k + 1, x0 => by
    have h := s0 k (rn k) x0
    exact h
theorem snd (k : Nat) : Snd Tryz.prog cfg k ct := fn_snd (X := X) cfgOk mixed ok (np := 0) (vps := []) (vws := []) (decA := decA) (encA := encA) (decB := decB) (encB := encB) (encK := encK) (fun _ b _ => rfl)
  (by
    intro xs H a h
    unfold decA at h
    split at h
    · cases h; exact ⟨rfl, rfl, rfl, rfl⟩
    · cases h)
  (by
    intro v H b h
    unfold decB at h
    split at h
    · cases h; exact ⟨rfl, fun _ _ _ h => (by cases h), rfl⟩
    · cases h)
  rfl k (fun k' _ => AllS.mem (l := X) ⟨lib_replace.snd k', trivial⟩) (fun a => run_ok k a)
end number_plain

/-! cavil/number.digits -/
namespace number_digits
inductive St where
  | l1 (x0 : List UInt8) (x1 : Int) (x2 : Int)
def St.lab : St → Nat
  | .l1 _ _ _ => 1
def St.fr : St → Fr
  | .l1 x0 x1 x2 => [(6, .slice 0 1 .all), (7, .int .i64 x1), (8, .int .i64 x2)]
def St.hp : St → Heap
  | .l1 x0 x1 x2 => [.row 0 1 true 5 (.u8 x0)]
def b0 (k : Nat) (J : St → Option (Bool)) (x0 : List UInt8) : Option (Bool) :=
  J (.l1 x0 (x0.length : Int) 0)
def b1 (k : Nat) (J : St → Option (Bool)) (x0 : List UInt8) (x1 : Int) (x2 : Int) : Option (Bool) :=
  bif (decide (x2 < x1)) then
    gk (inB x2 x0.length)
      (bindO (number_digit.m k ((x0.getD x2.toNat 0).toNat : Int)) fun r1 =>
        bif (!r1) then
          some false
        else
          J (.l1 x0 x1 (wr .i64 (x2 + 1))))
  else
    some true
def go : Nat → St → Option (Bool)
  | 0, _ => none
  | k + 1, .l1 x0 x1 x2 => b1 k (go k) x0 x1 x2
def m : Nat → List UInt8 → Option (Bool)
  | 0, _ => none
  | k + 1, x0 => b0 k (go k) x0
def anns : Anns := [(3, 1, [(6, 22, false), (7, 3, false), (8, 3, false)])]
noncomputable def code : ACode := codeOf Tryz.f69 anns
def rs : List ResultVar := [.tmp 2]
def decA : List AVal → Heap → Option ((List UInt8))
  | [.str x0], [] => some x0
  | _, _ => none
def encA (a : (List UInt8)) : List AVal × Heap := ([.str a], [])
def decB : AVal → Heap → Option (Bool)
  | .bool y0, [] => some y0
  | _, _ => none
def encB (b : Bool) : Out := (.bool b, [], [])
def encK : EncK (Bool) := fun _ b K => K (encB b)
def X : List Ct := [number_digit.ct]
def ct : Ct := ⟨69, callRun cfg.tt [(9, false)] decA (fun k a => m k a) false encK⟩
theorem ok : FnOk Tryz.prog cfg 69 16 code rs := .of Tryz.func69 (by kernel_rfl) rfl rfl (by kernel_rfl) (by kernel_rfl) rfl
abbrev kend : KK (Bool) := kEnd cfg.tt rs (kFin cfg.tt 0 false [4] [] [] decB)
noncomputable abbrev rn := run cfg X 16 0 code kend
theorem s0 (k : Nat) (J : Nat → Fr → Heap → Option (Bool)) (x0 : List UInt8) : stepJ cfg X 16 0 code kend k J 0 (argFr 0 (encA x0).1) (encA x0).2 = b0 k (fun s => J s.lab s.fr s.hp) x0 := by kernel_rfl
theorem s1 (k : Nat) (J : Nat → Fr → Heap → Option (Bool)) (x0 : List UInt8) (x1 : Int) (x2 : Int) : stepJ cfg X 16 0 code kend k J (St.l1 x0 x1 x2).lab (St.l1 x0 x1 x2).fr (St.l1 x0 x1 x2).hp = b1 k (fun s => J s.lab s.fr s.hp) x0 x1 x2 := by kernel_rfl
theorem go_ok : ∀ (k : Nat) (s : St), rn k s.lab s.fr s.hp = go k s
  | 0, _ => rfl
  | k + 1, .l1 x0 x1 x2 => by
    have h := s1 k (rn k) x0 x1 x2
    rw [show (fun s : St => rn k s.lab s.fr s.hp) = go k from funext (go_ok k)] at h
    exact h
theorem run_ok : ∀ (k : Nat) (a : (List UInt8)), rn k 0 (argFr 0 (encA a).1) (encA a).2 = m k a
  | 0, _ => rfl
  | k + 1, x0 => by
    have h := s0 k (rn k) x0
    rw [show (fun s : St => rn k s.lab s.fr s.hp) = go k from funext (go_ok k)] at h
    exact h
theorem snd (k : Nat) : Snd Tryz.prog cfg k ct := fn_snd (X := X) cfgOk mixed ok (np := 0) (vps := []) (vws := []) (decA := decA) (encA := encA) (decB := decB) (encB := encB) (encK := encK) (fun _ b _ => rfl)
  (by
    intro xs H a h
    unfold decA at h
    split at h
    · cases h; exact ⟨rfl, rfl, rfl, rfl⟩
    · cases h)
  (by
    intro v H b h
    unfold decB at h
    split at h
    · cases h; exact ⟨rfl, fun _ _ _ h => (by cases h), rfl⟩
    · cases h)
  rfl k (fun k' _ => AllS.mem (l := X) ⟨number_digit.snd k', trivial⟩) (fun a => run_ok k a)
end number_digits

/-! cavil/number.parts -/
namespace number_parts
inductive St where
  | l1 (x0 : List UInt8) (x1 : List UInt8) (x2 : Int) (x3 : List UInt8)
  | l2 (x0 : List UInt8) (x1 : List UInt8) (x2 : Int)
  | l3 (x0 : List UInt8) (x1 : List UInt8) (x2 : Int) (x3 : Bool)
def St.lab : St → Nat
  | .l1 _ _ _ _ => 1
  | .l2 _ _ _ => 3
  | .l3 _ _ _ _ => 2
def St.fr : St → Fr
  | .l1 x0 x1 x2 x3 => [(4, .str x0), (6, .str x1), (7, .int .i64 x2), (8, .str x3)]
  | .l2 x0 x1 x2 => [(4, .str x0), (6, .str x1), (7, .int .i64 x2)]
  | .l3 x0 x1 x2 x3 => [(4, .str x0), (6, .str x1), (7, .int .i64 x2), (35, .bool x3)]
def St.hp : St → Heap
  | .l1 x0 x1 x2 x3 => []
  | .l2 x0 x1 x2 => []
  | .l3 x0 x1 x2 x3 => []
def b0 (k : Nat) (J : St → Option ((List UInt8) × (List UInt8) × (List UInt8) × Bool)) (x0 : List UInt8) : Option ((List UInt8) × (List UInt8) × (List UInt8) × Bool) :=
  bindO (number_exponent.m k x0) fun r1 =>
    bif (decide (r1 ≥ 0)) then
      gk (cutB 0 r1 x0.length)
        (gk (cutB (wr .i64 (r1 + 1)) (x0.length : Int) x0.length)
          (bindO (strings_TrimPrefix.m k (cut x0 (wr .i64 (r1 + 1)) (x0.length : Int)) ([45] : List UInt8)) fun r2 =>
            bif (r2 == (cut x0 (wr .i64 (r1 + 1)) (x0.length : Int))) then
              bindO (strings_TrimPrefix.m k (cut x0 (wr .i64 (r1 + 1)) (x0.length : Int)) ([43] : List UInt8)) fun r3 =>
                J (.l1 (cut x0 (wr .i64 (r1 + 1)) (x0.length : Int)) (cut x0 0 r1) r1 r3)
            else
              J (.l1 (cut x0 (wr .i64 (r1 + 1)) (x0.length : Int)) (cut x0 0 r1) r1 r2)))
    else
      J (.l2 ([] : List UInt8) x0 r1)
def b1 (k : Nat) (J : St → Option ((List UInt8) × (List UInt8) × (List UInt8) × Bool)) (x0 : List UInt8) (x1 : List UInt8) (x2 : Int) (x3 : List UInt8) : Option ((List UInt8) × (List UInt8) × (List UInt8) × Bool) :=
  bif (x3 == ([] : List UInt8)) then
    J (.l3 x0 x1 x2 true)
  else
    bindO (number_digits.m k x3) fun r1 =>
      J (.l3 x0 x1 x2 (!r1))
def b2 (k : Nat) (J : St → Option ((List UInt8) × (List UInt8) × (List UInt8) × Bool)) (x0 : List UInt8) (x1 : List UInt8) (x2 : Int) : Option ((List UInt8) × (List UInt8) × (List UInt8) × Bool) :=
  gk (lib_cut.ok x1)
    (bindO (number_digits.m k ((Lib.cut x1 ([46] : List UInt8)).1)) fun r1 =>
      bif r1 then
        bindO (number_digits.m k ((Lib.cut x1 ([46] : List UInt8)).2.1)) fun r2 =>
          bif r2 then
            gk (roomS ((Lib.cut x1 ([46] : List UInt8)).1) ((Lib.cut x1 ([46] : List UInt8)).2.1))
              (bif (!(((Lib.cut x1 ([46] : List UInt8)).1 ++ (Lib.cut x1 ([46] : List UInt8)).2.1) == ([] : List UInt8))) then
                bif (Lib.cut x1 ([46] : List UInt8)).2.2 then
                  some ((Lib.cut x1 ([46] : List UInt8)).1, (Lib.cut x1 ([46] : List UInt8)).2.1, x0, true)
                else
                  some ((Lib.cut x1 ([46] : List UInt8)).1, (Lib.cut x1 ([46] : List UInt8)).2.1, x0, (decide (x2 ≥ 0)))
              else
                some ((Lib.cut x1 ([46] : List UInt8)).1, (Lib.cut x1 ([46] : List UInt8)).2.1, x0, false))
          else
            some ((Lib.cut x1 ([46] : List UInt8)).1, (Lib.cut x1 ([46] : List UInt8)).2.1, x0, false)
      else
        some ((Lib.cut x1 ([46] : List UInt8)).1, (Lib.cut x1 ([46] : List UInt8)).2.1, x0, false))
def b3 (k : Nat) (J : St → Option ((List UInt8) × (List UInt8) × (List UInt8) × Bool)) (x0 : List UInt8) (x1 : List UInt8) (x2 : Int) (x3 : Bool) : Option ((List UInt8) × (List UInt8) × (List UInt8) × Bool) :=
  bif x3 then
    some (([] : List UInt8), ([] : List UInt8), ([] : List UInt8), false)
  else
    J (.l2 x0 x1 x2)
def go : Nat → St → Option ((List UInt8) × (List UInt8) × (List UInt8) × Bool)
  | 0, _ => none
  | k + 1, .l1 x0 x1 x2 x3 => b1 k (go k) x0 x1 x2 x3
  | k + 1, .l2 x0 x1 x2 => b2 k (go k) x0 x1 x2
  | k + 1, .l3 x0 x1 x2 x3 => b3 k (go k) x0 x1 x2 x3
def m : Nat → List UInt8 → Option ((List UInt8) × (List UInt8) × (List UInt8) × Bool)
  | 0, _ => none
  | k + 1, x0 => b0 k (go k) x0
def anns : Anns := [(3, 3, [(4, 9, false), (6, 9, false), (7, 3, false)]), (7, 1, [(4, 9, false), (6, 9, false), (7, 3, false), (8, 9, false)]), (9, 2, [(4, 9, false), (6, 9, false), (7, 3, false), (35, 4, false)])]
noncomputable def code : ACode := codeOf Tryz.f38 anns
def rs : List ResultVar := [.tmp 2, .tmp 3, .tmp 4, .tmp 5]
def decA : List AVal → Heap → Option ((List UInt8))
  | [.str x0], [] => some x0
  | _, _ => none
def encA (a : (List UInt8)) : List AVal × Heap := ([.str a], [])
def decB : AVal → Heap → Option ((List UInt8) × (List UInt8) × (List UInt8) × Bool)
  | .tup (.pair (.str y0) (.pair (.str y1) (.pair (.str y2) (.pair (.bool y3) .nil)))), [] => some (y0, y1, y2, y3)
  | _, _ => none
def encB (b : (List UInt8) × (List UInt8) × (List UInt8) × Bool) : Out := (.tup (.pair (.str b.1) (.pair (.str b.2.1) (.pair (.str b.2.2.1) (.pair (.bool b.2.2.2) .nil)))), [], [])
def encK : EncK ((List UInt8) × (List UInt8) × (List UInt8) × Bool) := fun _ b K => K (encB b)
def X : List Ct := [number_exponent.ct, strings_TrimPrefix.ct, number_digits.ct, lib_cut.ct]
def ct : Ct := ⟨38, callRun cfg.tt [(9, false)] decA (fun k a => m k a) false encK⟩
theorem ok : FnOk Tryz.prog cfg 38 64 code rs := .of Tryz.func38 (by kernel_rfl) rfl rfl (by kernel_rfl) (by kernel_rfl) rfl
abbrev kend : KK ((List UInt8) × (List UInt8) × (List UInt8) × Bool) := kEnd cfg.tt rs (kFin cfg.tt 0 false [9, 9, 9, 4] [] [] decB)
noncomputable abbrev rn := run cfg X 64 0 code kend
theorem s0 (k : Nat) (J : Nat → Fr → Heap → Option ((List UInt8) × (List UInt8) × (List UInt8) × Bool)) (x0 : List UInt8) : stepJ cfg X 64 0 code kend k J 0 (argFr 0 (encA x0).1) (encA x0).2 = b0 k (fun s => J s.lab s.fr s.hp) x0 := by kernel_rfl
theorem s1 (k : Nat) (J : Nat → Fr → Heap → Option ((List UInt8) × (List UInt8) × (List UInt8) × Bool)) (x0 : List UInt8) (x1 : List UInt8) (x2 : Int) (x3 : List UInt8) : stepJ cfg X 64 0 code kend k J (St.l1 x0 x1 x2 x3).lab (St.l1 x0 x1 x2 x3).fr (St.l1 x0 x1 x2 x3).hp = b1 k (fun s => J s.lab s.fr s.hp) x0 x1 x2 x3 := by kernel_rfl
theorem s2 (k : Nat) (J : Nat → Fr → Heap → Option ((List UInt8) × (List UInt8) × (List UInt8) × Bool)) (x0 : List UInt8) (x1 : List UInt8) (x2 : Int) : stepJ cfg X 64 0 code kend k J (St.l2 x0 x1 x2).lab (St.l2 x0 x1 x2).fr (St.l2 x0 x1 x2).hp = b2 k (fun s => J s.lab s.fr s.hp) x0 x1 x2 := by kernel_rfl
theorem s3 (k : Nat) (J : Nat → Fr → Heap → Option ((List UInt8) × (List UInt8) × (List UInt8) × Bool)) (x0 : List UInt8) (x1 : List UInt8) (x2 : Int) (x3 : Bool) : stepJ cfg X 64 0 code kend k J (St.l3 x0 x1 x2 x3).lab (St.l3 x0 x1 x2 x3).fr (St.l3 x0 x1 x2 x3).hp = b3 k (fun s => J s.lab s.fr s.hp) x0 x1 x2 x3 := by kernel_rfl
theorem go_ok : ∀ (k : Nat) (s : St), rn k s.lab s.fr s.hp = go k s
  | 0, _ => rfl
  | k + 1, .l1 x0 x1 x2 x3 => by
    have h := s1 k (rn k) x0 x1 x2 x3
    rw [show (fun s : St => rn k s.lab s.fr s.hp) = go k from funext (go_ok k)] at h
    exact h
  | k + 1, .l2 x0 x1 x2 => by
    have h := s2 k (rn k) x0 x1 x2
    rw [show (fun s : St => rn k s.lab s.fr s.hp) = go k from funext (go_ok k)] at h
    exact h
  | k + 1, .l3 x0 x1 x2 x3 => by
    have h := s3 k (rn k) x0 x1 x2 x3
    rw [show (fun s : St => rn k s.lab s.fr s.hp) = go k from funext (go_ok k)] at h
    exact h
theorem run_ok : ∀ (k : Nat) (a : (List UInt8)), rn k 0 (argFr 0 (encA a).1) (encA a).2 = m k a
  | 0, _ => rfl
  | k + 1, x0 => by
    have h := s0 k (rn k) x0
    rw [show (fun s : St => rn k s.lab s.fr s.hp) = go k from funext (go_ok k)] at h
    exact h
theorem snd (k : Nat) : Snd Tryz.prog cfg k ct := fn_snd (X := X) cfgOk mixed ok (np := 0) (vps := []) (vws := []) (decA := decA) (encA := encA) (decB := decB) (encB := encB) (encK := encK) (fun _ b _ => rfl)
  (by
    intro xs H a h
    unfold decA at h
    split at h
    · cases h; exact ⟨rfl, rfl, rfl, rfl⟩
    · cases h)
  (by
    intro v H b h
    unfold decB at h
    split at h
    · cases h; exact ⟨rfl, fun _ _ _ h => (by cases h), rfl⟩
    · cases h)
  rfl k (fun k' _ => AllS.mem (l := X) ⟨number_exponent.snd k', strings_TrimPrefix.snd k', number_digits.snd k', lib_cut.snd k', trivial⟩) (fun a => run_ok k a)
end number_parts

/-! cavil/number.power -/
namespace number_power
inductive St where
  | l1 (x0 : List UInt8) (x1 : Bool) (x2 : Int) (x3 : Int) (x4 : Int)
def St.lab : St → Nat
  | .l1 _ _ _ _ _ => 1
def St.fr : St → Fr
  | .l1 x0 x1 x2 x3 x4 => [(4, .bool x1), (5, .int .i64 x2), (18, .slice 0 1 .all), (19, .int .i64 x3), (20, .int .i64 x4)]
def St.hp : St → Heap
  | .l1 x0 x1 x2 x3 x4 => [.row 0 1 true 5 (.u8 x0)]
def b0 (k : Nat) (J : St → Option (Int × Er)) (x0 : List UInt8) : Option (Int × Er) :=
  bindO (strings_HasPrefix.m k x0 ([45] : List UInt8)) fun r1 =>
    bindO (strings_TrimPrefix.m k x0 ([45] : List UInt8)) fun r2 =>
      bindO (strings_TrimPrefix.m k r2 ([43] : List UInt8)) fun r3 =>
        bif (decide ((r3.length : Int) > 5)) then
          some (0, (.no 9))
        else
          J (.l1 r3 r1 0 (r3.length : Int) 0)
def b1 (k : Nat) (J : St → Option (Int × Er)) (x0 : List UInt8) (x1 : Bool) (x2 : Int) (x3 : Int) (x4 : Int) : Option (Int × Er) :=
  bif (decide (x4 < x3)) then
    gk (inB x4 x0.length)
      (J (.l1 x0 x1 (wr .i64 ((wr .i64 (10 * x2)) + (wr .i64 (wr .u8 (((x0.getD x4.toNat 0).toNat : Int) - 48))))) x3 (wr .i64 (x4 + 1))))
  else
    bif x1 then
      some ((wr .i64 (0 - x2)), .nil)
    else
      some (x2, .nil)
def go : Nat → St → Option (Int × Er)
  | 0, _ => none
  | k + 1, .l1 x0 x1 x2 x3 x4 => b1 k (go k) x0 x1 x2 x3 x4
def m : Nat → List UInt8 → Option (Int × Er)
  | 0, _ => none
  | k + 1, x0 => b0 k (go k) x0
def anns : Anns := [(9, 1, [(4, 4, false), (5, 3, false), (18, 22, false), (19, 3, false), (20, 3, false)])]
noncomputable def code : ACode := codeOf Tryz.f39 anns
def rs : List ResultVar := [.tmp 2, .tmp 3]
def decA : List AVal → Heap → Option ((List UInt8))
  | [.str x0], [] => some x0
  | _, _ => none
def encA (a : (List UInt8)) : List AVal × Heap := ([.str a], [])
def decB : AVal → Heap → Option (Int × Er)
  | .tup (.pair (.int .i64 y0) (.pair (.err y1) .nil)), [] => some (y0, y1)
  | _, _ => none
def encB (b : Int × Er) : Out := (.tup (.pair (.int .i64 b.1) (.pair (.err b.2) .nil)), [], [])
def encK : EncK (Int × Er) := fun _ b K => K (encB b)
def X : List Ct := [strings_HasPrefix.ct, strings_TrimPrefix.ct]
def ct : Ct := ⟨39, callRun cfg.tt [(9, false)] decA (fun k a => m k a) false encK⟩
theorem ok : FnOk Tryz.prog cfg 39 35 code rs := .of Tryz.func39 (by kernel_rfl) rfl rfl (by kernel_rfl) (by kernel_rfl) rfl
abbrev kend : KK (Int × Er) := kEnd cfg.tt rs (kFin cfg.tt 0 false [3, 24] [] [] decB)
noncomputable abbrev rn := run cfg X 35 0 code kend
theorem s0 (k : Nat) (J : Nat → Fr → Heap → Option (Int × Er)) (x0 : List UInt8) : stepJ cfg X 35 0 code kend k J 0 (argFr 0 (encA x0).1) (encA x0).2 = b0 k (fun s => J s.lab s.fr s.hp) x0 := by kernel_rfl
theorem s1 (k : Nat) (J : Nat → Fr → Heap → Option (Int × Er)) (x0 : List UInt8) (x1 : Bool) (x2 : Int) (x3 : Int) (x4 : Int) : stepJ cfg X 35 0 code kend k J (St.l1 x0 x1 x2 x3 x4).lab (St.l1 x0 x1 x2 x3 x4).fr (St.l1 x0 x1 x2 x3 x4).hp = b1 k (fun s => J s.lab s.fr s.hp) x0 x1 x2 x3 x4 := by kernel_rfl
theorem go_ok : ∀ (k : Nat) (s : St), rn k s.lab s.fr s.hp = go k s
  | 0, _ => rfl
  | k + 1, .l1 x0 x1 x2 x3 x4 => by
    have h := s1 k (rn k) x0 x1 x2 x3 x4
    rw [show (fun s : St => rn k s.lab s.fr s.hp) = go k from funext (go_ok k)] at h
    exact h
theorem run_ok : ∀ (k : Nat) (a : (List UInt8)), rn k 0 (argFr 0 (encA a).1) (encA a).2 = m k a
  | 0, _ => rfl
  | k + 1, x0 => by
    have h := s0 k (rn k) x0
    rw [show (fun s : St => rn k s.lab s.fr s.hp) = go k from funext (go_ok k)] at h
    exact h
theorem snd (k : Nat) : Snd Tryz.prog cfg k ct := fn_snd (X := X) cfgOk mixed ok (np := 0) (vps := []) (vws := []) (decA := decA) (encA := encA) (decB := decB) (encB := encB) (encK := encK) (fun _ b _ => rfl)
  (by
    intro xs H a h
    unfold decA at h
    split at h
    · cases h; exact ⟨rfl, rfl, rfl, rfl⟩
    · cases h)
  (by
    intro v H b h
    unfold decB at h
    split at h
    · cases h; exact ⟨rfl, fun _ _ _ h => (by cases h), rfl⟩
    · cases h)
  rfl k (fun k' _ => AllS.mem (l := X) ⟨strings_HasPrefix.snd k', strings_TrimPrefix.snd k', trivial⟩) (fun a => run_ok k a)
end number_power

/-! cavil/limb.made -/
namespace limb_made
def b0 (k : Nat) (x0 : Bool) (x1 : List Int) : Option (Bool × (List Int)) :=
  bif x0 then
    some ((!(x1 == ([0, 0, 0, 0, 0, 0, 0, 0] : List Int))), x1)
  else
    some (false, x1)
def m : Nat → Bool → List Int → Option (Bool × (List Int))
  | 0, _, _ => none
  | k + 1, x0, x1 => b0 k x0 x1
def anns : Anns := []
noncomputable def code : ACode := codeOf Tryz.f82 anns
def rs : List ResultVar := [.cell 4 35]
def decA : List AVal → Heap → Option (Bool × (List Int))
  | [.bool x0, .arr 8 (.int .u64 x1)], [] => some (x0, x1)
  | _, _ => none
def encA (a : Bool × (List Int)) : List AVal × Heap := ([.bool a.1, .arr 8 (.int .u64 a.2)], [])
def decB : AVal → Heap → Option (Bool × (List Int))
  | .agg (.pair (.bool y0) (.pair (.arr 8 (.int .u64 y1)) .nil)), [] => some (y0, y1)
  | _, _ => none
def encB (b : Bool × (List Int)) : Out := (.agg (.pair (.bool b.1) (.pair (.arr 8 (.int .u64 b.2)) .nil)), [], [])
def encK : EncK (Bool × (List Int)) := fun _ b K => K (encB b)
def X : List Ct := []
def ct : Ct := ⟨82, callRun cfg.tt [(4, false), (33, false)] decA (fun k a => m k a.1 a.2) false encK⟩
theorem ok : FnOk Tryz.prog cfg 82 13 code rs := .of Tryz.func82 (by kernel_rfl) rfl rfl (by kernel_rfl) (by kernel_rfl) rfl
abbrev kend : KK (Bool × (List Int)) := kEnd cfg.tt rs (kFin cfg.tt 0 false [35] [] [] decB)
noncomputable abbrev rn := run cfg X 13 0 code kend
theorem s0 (k : Nat) (J : Nat → Fr → Heap → Option (Bool × (List Int))) (x0 : Bool) (x1 : List Int) : stepJ cfg X 13 0 code kend k J 0 (argFr 0 (encA (x0, x1)).1) (encA (x0, x1)).2 = b0 k x0 x1 := by kernel_rfl
theorem run_ok : ∀ (k : Nat) (a : Bool × (List Int)), rn k 0 (argFr 0 (encA a).1) (encA a).2 = m k a.1 a.2
  | 0, _ => rfl
  | k + 1, (x0, x1) => by
    have h := s0 k (rn k) x0 x1
    exact h
theorem snd (k : Nat) : Snd Tryz.prog cfg k ct := fn_snd (X := X) cfgOk mixed ok (np := 0) (vps := []) (vws := []) (decA := decA) (encA := encA) (decB := decB) (encB := encB) (encK := encK) (fun _ b _ => rfl)
  (by
    intro xs H a h
    unfold decA at h
    split at h
    · cases h; exact ⟨rfl, rfl, rfl, rfl⟩
    · cases h)
  (by
    intro v H b h
    unfold decB at h
    split at h
    · cases h; exact ⟨rfl, fun _ _ _ h => (by cases h), rfl⟩
    · cases h)
  rfl k (fun k' _ => AllS.mem (l := X) trivial) (fun a => run_ok k a)
end limb_made

/-! cavil/limb.Canon -/
namespace limb_Canon
def b0 (k : Nat) (x0 : Bool) (x1 : List Int) : Option (Bool × (List Int)) :=
  bindO (limb_made.m k x0 x1) fun r1 =>
    some (r1.1, r1.2)
def m : Nat → Bool → List Int → Option (Bool × (List Int))
  | 0, _, _ => none
  | k + 1, x0, x1 => b0 k x0 x1
def anns : Anns := []
noncomputable def code : ACode := codeOf Tryz.f46 anns
def rs : List ResultVar := [.cell 2 35]
def decA : List AVal → Heap → Option (Bool × (List Int))
  | [.agg (.pair (.bool x0) (.pair (.arr 8 (.int .u64 x1)) .nil))], [] => some (x0, x1)
  | _, _ => none
def encA (a : Bool × (List Int)) : List AVal × Heap := ([.agg (.pair (.bool a.1) (.pair (.arr 8 (.int .u64 a.2)) .nil))], [])
def decB : AVal → Heap → Option (Bool × (List Int))
  | .agg (.pair (.bool y0) (.pair (.arr 8 (.int .u64 y1)) .nil)), [] => some (y0, y1)
  | _, _ => none
def encB (b : Bool × (List Int)) : Out := (.agg (.pair (.bool b.1) (.pair (.arr 8 (.int .u64 b.2)) .nil)), [], [])
def encK : EncK (Bool × (List Int)) := fun _ b K => K (encB b)
def X : List Ct := [limb_made.ct]
def ct : Ct := ⟨46, callRun cfg.tt [(35, false)] decA (fun k a => m k a.1 a.2) false encK⟩
theorem ok : FnOk Tryz.prog cfg 46 8 code rs := .of Tryz.func46 (by kernel_rfl) rfl rfl (by kernel_rfl) (by kernel_rfl) rfl
abbrev kend : KK (Bool × (List Int)) := kEnd cfg.tt rs (kFin cfg.tt 0 false [35] [] [] decB)
noncomputable abbrev rn := run cfg X 8 0 code kend
theorem s0 (k : Nat) (J : Nat → Fr → Heap → Option (Bool × (List Int))) (x0 : Bool) (x1 : List Int) : stepJ cfg X 8 0 code kend k J 0 (argFr 0 (encA (x0, x1)).1) (encA (x0, x1)).2 = b0 k x0 x1 := by kernel_rfl
theorem run_ok : ∀ (k : Nat) (a : Bool × (List Int)), rn k 0 (argFr 0 (encA a).1) (encA a).2 = m k a.1 a.2
  | 0, _ => rfl
  | k + 1, (x0, x1) => by
    have h := s0 k (rn k) x0 x1
    exact h
theorem snd (k : Nat) : Snd Tryz.prog cfg k ct := fn_snd (X := X) cfgOk mixed ok (np := 0) (vps := []) (vws := []) (decA := decA) (encA := encA) (decB := decB) (encB := encB) (encK := encK) (fun _ b _ => rfl)
  (by
    intro xs H a h
    unfold decA at h
    split at h
    · cases h; exact ⟨rfl, rfl, rfl, rfl⟩
    · cases h)
  (by
    intro v H b h
    unfold decB at h
    split at h
    · cases h; exact ⟨rfl, fun _ _ _ h => (by cases h), rfl⟩
    · cases h)
  rfl k (fun k' _ => AllS.mem (l := X) ⟨limb_made.snd k', trivial⟩) (fun a => run_ok k a)
end limb_Canon

/-! cavil/limb.Of -/
namespace limb_Of
def b0 (k : Nat) (x0 : Int) : Option (Bool × (List Int)) :=
  bif (decide (x0 < 0)) then
    some (true, ([(wr .u64 (0 - (wr .u64 x0))), 0, 0, 0, 0, 0, 0, 0] : List Int))
  else
    some (false, ([(wr .u64 x0), 0, 0, 0, 0, 0, 0, 0] : List Int))
def m : Nat → Int → Option (Bool × (List Int))
  | 0, _ => none
  | k + 1, x0 => b0 k x0
def anns : Anns := []
noncomputable def code : ACode := codeOf Tryz.f41 anns
def rs : List ResultVar := [.cell 2 35]
def decA : List AVal → Heap → Option (Int)
  | [.int .i64 x0], [] => some x0
  | _, _ => none
def encA (a : Int) : List AVal × Heap := ([.int .i64 a], [])
def decB : AVal → Heap → Option (Bool × (List Int))
  | .agg (.pair (.bool y0) (.pair (.arr 8 (.int .u64 y1)) .nil)), [] => some (y0, y1)
  | _, _ => none
def encB (b : Bool × (List Int)) : Out := (.agg (.pair (.bool b.1) (.pair (.arr 8 (.int .u64 b.2)) .nil)), [], [])
def encK : EncK (Bool × (List Int)) := fun _ b K => K (encB b)
def X : List Ct := []
def ct : Ct := ⟨41, callRun cfg.tt [(2, false)] decA (fun k a => m k a) false encK⟩
theorem ok : FnOk Tryz.prog cfg 41 14 code rs := .of Tryz.func41 (by kernel_rfl) rfl rfl (by kernel_rfl) (by kernel_rfl) rfl
abbrev kend : KK (Bool × (List Int)) := kEnd cfg.tt rs (kFin cfg.tt 0 false [35] [] [] decB)
noncomputable abbrev rn := run cfg X 14 0 code kend
theorem s0 (k : Nat) (J : Nat → Fr → Heap → Option (Bool × (List Int))) (x0 : Int) : stepJ cfg X 14 0 code kend k J 0 (argFr 0 (encA x0).1) (encA x0).2 = b0 k x0 := by kernel_rfl
theorem run_ok : ∀ (k : Nat) (a : Int), rn k 0 (argFr 0 (encA a).1) (encA a).2 = m k a
  | 0, _ => rfl
  | k + 1, x0 => by
    have h := s0 k (rn k) x0
    exact h
theorem snd (k : Nat) : Snd Tryz.prog cfg k ct := fn_snd (X := X) cfgOk mixed ok (np := 0) (vps := []) (vws := []) (decA := decA) (encA := encA) (decB := decB) (encB := encB) (encK := encK) (fun _ b _ => rfl)
  (by
    intro xs H a h
    unfold decA at h
    split at h
    · cases h; exact ⟨rfl, rfl, rfl, rfl⟩
    · cases h)
  (by
    intro v H b h
    unfold decB at h
    split at h
    · cases h; exact ⟨rfl, fun _ _ _ h => (by cases h), rfl⟩
    · cases h)
  rfl k (fun k' _ => AllS.mem (l := X) trivial) (fun a => run_ok k a)
end limb_Of

/-! cavil/limb.order -/
namespace limb_order
inductive St where
  | l1 (x0 : List Int) (x1 : List Int) (x2 : Int)
def St.lab : St → Nat
  | .l1 _ _ _ => 1
def St.fr : St → Fr
  | .l1 x0 x1 x2 => [(2, .ptr 0 1 []), (3, .ptr 1 1 []), (5, .int .i64 x2)]
def St.hp : St → Heap
  | .l1 x0 x1 x2 => [.var 0 33 (.arr 8 (.int .u64 x0)), .var 0 33 (.arr 8 (.int .u64 x1))]
def b0 (k : Nat) (J : St → Option (Int)) (x0 : List Int) (x1 : List Int) : Option (Int) :=
  J (.l1 x0 x1 7)
def b1 (k : Nat) (J : St → Option (Int)) (x0 : List Int) (x1 : List Int) (x2 : Int) : Option (Int) :=
  bif (decide (x2 ≥ 0)) then
    gk (inB x2 8)
      (gk (inB x2 8)
        (bif (decide ((x0.getD x2.toNat 0) < (x1.getD x2.toNat 0))) then
          some (-1)
        else
          gk (inB x2 8)
            (gk (inB x2 8)
              (bif (decide ((x0.getD x2.toNat 0) > (x1.getD x2.toNat 0))) then
                some 1
              else
                J (.l1 x0 x1 (wr .i64 (x2 - 1)))))))
  else
    some 0
def go : Nat → St → Option (Int)
  | 0, _ => none
  | k + 1, .l1 x0 x1 x2 => b1 k (go k) x0 x1 x2
def m : Nat → List Int → List Int → Option (Int)
  | 0, _, _ => none
  | k + 1, x0, x1 => b0 k (go k) x0 x1
def anns : Anns := [(3, 1, [(2, 0, false), (3, 0, false), (5, 3, false)])]
noncomputable def code : ACode := codeOf Tryz.f49 anns
def rs : List ResultVar := [.tmp 4]
def decA : List AVal → Heap → Option ((List Int) × (List Int))
  | [.arr 8 (.int .u64 x0), .arr 8 (.int .u64 x1)], [] => some (x0, x1)
  | _, _ => none
def encA (a : (List Int) × (List Int)) : List AVal × Heap := ([.arr 8 (.int .u64 a.1), .arr 8 (.int .u64 a.2)], [])
def decB : AVal → Heap → Option (Int)
  | .int .i64 y0, [] => some y0
  | _, _ => none
def encB (b : Int) : Out := (.int .i64 b, [], [])
def encK : EncK (Int) := fun _ b K => K (encB b)
def X : List Ct := []
def ct : Ct := ⟨49, callRun cfg.tt [(33, false), (33, false)] decA (fun k a => m k a.1 a.2) false encK⟩
theorem ok : FnOk Tryz.prog cfg 49 26 code rs := .of Tryz.func49 (by kernel_rfl) rfl rfl (by kernel_rfl) (by kernel_rfl) rfl
abbrev kend : KK (Int) := kEnd cfg.tt rs (kFin cfg.tt 0 false [3] [] [] decB)
noncomputable abbrev rn := run cfg X 26 0 code kend
theorem s0 (k : Nat) (J : Nat → Fr → Heap → Option (Int)) (x0 : List Int) (x1 : List Int) : stepJ cfg X 26 0 code kend k J 0 (argFr 0 (encA (x0, x1)).1) (encA (x0, x1)).2 = b0 k (fun s => J s.lab s.fr s.hp) x0 x1 := by kernel_rfl
theorem s1 (k : Nat) (J : Nat → Fr → Heap → Option (Int)) (x0 : List Int) (x1 : List Int) (x2 : Int) : stepJ cfg X 26 0 code kend k J (St.l1 x0 x1 x2).lab (St.l1 x0 x1 x2).fr (St.l1 x0 x1 x2).hp = b1 k (fun s => J s.lab s.fr s.hp) x0 x1 x2 := by kernel_rfl
theorem go_ok : ∀ (k : Nat) (s : St), rn k s.lab s.fr s.hp = go k s
  | 0, _ => rfl
  | k + 1, .l1 x0 x1 x2 => by
    have h := s1 k (rn k) x0 x1 x2
    rw [show (fun s : St => rn k s.lab s.fr s.hp) = go k from funext (go_ok k)] at h
    exact h
theorem run_ok : ∀ (k : Nat) (a : (List Int) × (List Int)), rn k 0 (argFr 0 (encA a).1) (encA a).2 = m k a.1 a.2
  | 0, _ => rfl
  | k + 1, (x0, x1) => by
    have h := s0 k (rn k) x0 x1
    rw [show (fun s : St => rn k s.lab s.fr s.hp) = go k from funext (go_ok k)] at h
    exact h
theorem snd (k : Nat) : Snd Tryz.prog cfg k ct := fn_snd (X := X) cfgOk mixed ok (np := 0) (vps := []) (vws := []) (decA := decA) (encA := encA) (decB := decB) (encB := encB) (encK := encK) (fun _ b _ => rfl)
  (by
    intro xs H a h
    unfold decA at h
    split at h
    · cases h; exact ⟨rfl, rfl, rfl, rfl⟩
    · cases h)
  (by
    intro v H b h
    unfold decB at h
    split at h
    · cases h; exact ⟨rfl, fun _ _ _ h => (by cases h), rfl⟩
    · cases h)
  rfl k (fun k' _ => AllS.mem (l := X) trivial) (fun a => run_ok k a)
end limb_order

/-! cavil/limb.Cmp -/
namespace limb_Cmp
inductive St where
  | l1 (x0 : Bool) (x1 : List Int) (x2 : Bool) (x3 : List Int) (x4 : Bool)
  | l2 (x0 : Bool) (x1 : List Int) (x2 : Bool) (x3 : List Int) (x4 : Bool)
def St.lab : St → Nat
  | .l1 _ _ _ _ _ => 1
  | .l2 _ _ _ _ _ => 2
def St.fr : St → Fr
  | .l1 x0 x1 x2 x3 x4 => [(2, .ptr 0 1 []), (3, .ptr 1 1 []), (9, .bool x4)]
  | .l2 x0 x1 x2 x3 x4 => [(2, .ptr 0 1 []), (3, .ptr 1 1 []), (17, .bool x4)]
def St.hp : St → Heap
  | .l1 x0 x1 x2 x3 x4 => [.var 0 35 (.agg (.pair (.bool x0) (.pair (.arr 8 (.int .u64 x1)) .nil))), .var 0 35 (.agg (.pair (.bool x2) (.pair (.arr 8 (.int .u64 x3)) .nil)))]
  | .l2 x0 x1 x2 x3 x4 => [.var 0 35 (.agg (.pair (.bool x0) (.pair (.arr 8 (.int .u64 x1)) .nil))), .var 0 35 (.agg (.pair (.bool x2) (.pair (.arr 8 (.int .u64 x3)) .nil)))]
def b0 (k : Nat) (J : St → Option (Int)) (x0 : Bool) (x1 : List Int) (x2 : Bool) (x3 : List Int) : Option (Int) :=
  bindO (limb_Canon.m k x0 x1) fun r1 =>
    bindO (limb_Canon.m k x2 x3) fun r2 =>
      bif r1.1 then
        J (.l1 r1.1 r1.2 r2.1 r2.2 (!r2.1))
      else
        J (.l1 r1.1 r1.2 r2.1 r2.2 false)
def b1 (k : Nat) (J : St → Option (Int)) (x0 : Bool) (x1 : List Int) (x2 : Bool) (x3 : List Int) (x4 : Bool) : Option (Int) :=
  bif x4 then
    some (-1)
  else
    bif (!x0) then
      J (.l2 x0 x1 x2 x3 x2)
    else
      J (.l2 x0 x1 x2 x3 false)
def b2 (k : Nat) (J : St → Option (Int)) (x0 : Bool) (x1 : List Int) (x2 : Bool) (x3 : List Int) (x4 : Bool) : Option (Int) :=
  bif x4 then
    some 1
  else
    bif x0 then
      bindO (limb_order.m k x3 x1) fun r1 =>
        some r1
    else
      bindO (limb_order.m k x1 x3) fun r2 =>
        some r2
def go : Nat → St → Option (Int)
  | 0, _ => none
  | k + 1, .l1 x0 x1 x2 x3 x4 => b1 k (go k) x0 x1 x2 x3 x4
  | k + 1, .l2 x0 x1 x2 x3 x4 => b2 k (go k) x0 x1 x2 x3 x4
def m : Nat → Bool → List Int → Bool → List Int → Option (Int)
  | 0, _, _, _, _ => none
  | k + 1, x0, x1, x2, x3 => b0 k (go k) x0 x1 x2 x3
def anns : Anns := [(3, 1, [(2, 0, false), (3, 0, false), (9, 4, false)]), (5, 2, [(2, 0, false), (3, 0, false), (17, 4, false)])]
noncomputable def code : ACode := codeOf Tryz.f20 anns
def rs : List ResultVar := [.tmp 4]
def decA : List AVal → Heap → Option (Bool × (List Int) × Bool × (List Int))
  | [.agg (.pair (.bool x0) (.pair (.arr 8 (.int .u64 x1)) .nil)), .agg (.pair (.bool x2) (.pair (.arr 8 (.int .u64 x3)) .nil))], [] => some (x0, x1, x2, x3)
  | _, _ => none
def encA (a : Bool × (List Int) × Bool × (List Int)) : List AVal × Heap := ([.agg (.pair (.bool a.1) (.pair (.arr 8 (.int .u64 a.2.1)) .nil)), .agg (.pair (.bool a.2.2.1) (.pair (.arr 8 (.int .u64 a.2.2.2)) .nil))], [])
def decB : AVal → Heap → Option (Int)
  | .int .i64 y0, [] => some y0
  | _, _ => none
def encB (b : Int) : Out := (.int .i64 b, [], [])
def encK : EncK (Int) := fun _ b K => K (encB b)
def X : List Ct := [limb_Canon.ct, limb_order.ct]
def ct : Ct := ⟨20, callRun cfg.tt [(35, false), (35, false)] decA (fun k a => m k a.1 a.2.1 a.2.2.1 a.2.2.2) false encK⟩
theorem ok : FnOk Tryz.prog cfg 20 38 code rs := .of Tryz.func20 (by kernel_rfl) rfl rfl (by kernel_rfl) (by kernel_rfl) rfl
abbrev kend : KK (Int) := kEnd cfg.tt rs (kFin cfg.tt 0 false [3] [] [] decB)
noncomputable abbrev rn := run cfg X 38 0 code kend
theorem s0 (k : Nat) (J : Nat → Fr → Heap → Option (Int)) (x0 : Bool) (x1 : List Int) (x2 : Bool) (x3 : List Int) : stepJ cfg X 38 0 code kend k J 0 (argFr 0 (encA (x0, x1, x2, x3)).1) (encA (x0, x1, x2, x3)).2 = b0 k (fun s => J s.lab s.fr s.hp) x0 x1 x2 x3 := by kernel_rfl
theorem s1 (k : Nat) (J : Nat → Fr → Heap → Option (Int)) (x0 : Bool) (x1 : List Int) (x2 : Bool) (x3 : List Int) (x4 : Bool) : stepJ cfg X 38 0 code kend k J (St.l1 x0 x1 x2 x3 x4).lab (St.l1 x0 x1 x2 x3 x4).fr (St.l1 x0 x1 x2 x3 x4).hp = b1 k (fun s => J s.lab s.fr s.hp) x0 x1 x2 x3 x4 := by kernel_rfl
theorem s2 (k : Nat) (J : Nat → Fr → Heap → Option (Int)) (x0 : Bool) (x1 : List Int) (x2 : Bool) (x3 : List Int) (x4 : Bool) : stepJ cfg X 38 0 code kend k J (St.l2 x0 x1 x2 x3 x4).lab (St.l2 x0 x1 x2 x3 x4).fr (St.l2 x0 x1 x2 x3 x4).hp = b2 k (fun s => J s.lab s.fr s.hp) x0 x1 x2 x3 x4 := by kernel_rfl
theorem go_ok : ∀ (k : Nat) (s : St), rn k s.lab s.fr s.hp = go k s
  | 0, _ => rfl
  | k + 1, .l1 x0 x1 x2 x3 x4 => by
    have h := s1 k (rn k) x0 x1 x2 x3 x4
    rw [show (fun s : St => rn k s.lab s.fr s.hp) = go k from funext (go_ok k)] at h
    exact h
  | k + 1, .l2 x0 x1 x2 x3 x4 => by
    have h := s2 k (rn k) x0 x1 x2 x3 x4
    rw [show (fun s : St => rn k s.lab s.fr s.hp) = go k from funext (go_ok k)] at h
    exact h
theorem run_ok : ∀ (k : Nat) (a : Bool × (List Int) × Bool × (List Int)), rn k 0 (argFr 0 (encA a).1) (encA a).2 = m k a.1 a.2.1 a.2.2.1 a.2.2.2
  | 0, _ => rfl
  | k + 1, (x0, x1, x2, x3) => by
    have h := s0 k (rn k) x0 x1 x2 x3
    rw [show (fun s : St => rn k s.lab s.fr s.hp) = go k from funext (go_ok k)] at h
    exact h
theorem snd (k : Nat) : Snd Tryz.prog cfg k ct := fn_snd (X := X) cfgOk mixed ok (np := 0) (vps := []) (vws := []) (decA := decA) (encA := encA) (decB := decB) (encB := encB) (encK := encK) (fun _ b _ => rfl)
  (by
    intro xs H a h
    unfold decA at h
    split at h
    · cases h; exact ⟨rfl, rfl, rfl, rfl⟩
    · cases h)
  (by
    intro v H b h
    unfold decB at h
    split at h
    · cases h; exact ⟨rfl, fun _ _ _ h => (by cases h), rfl⟩
    · cases h)
  rfl k (fun k' _ => AllS.mem (l := X) ⟨limb_Canon.snd k', limb_order.snd k', trivial⟩) (fun a => run_ok k a)
end limb_Cmp

/-! cavil/limb.length -/
namespace limb_length
inductive St where
  | l1 (x0 : List Int) (x1 : Int)
def St.lab : St → Nat
  | .l1 _ _ => 1
def St.fr : St → Fr
  | .l1 x0 x1 => [(1, .ptr 0 1 []), (3, .int .i64 x1)]
def St.hp : St → Heap
  | .l1 x0 x1 => [.var 0 33 (.arr 8 (.int .u64 x0))]
def b0 (k : Nat) (J : St → Option (Int)) (x0 : List Int) : Option (Int) :=
  J (.l1 x0 7)
def b1 (k : Nat) (J : St → Option (Int)) (x0 : List Int) (x1 : Int) : Option (Int) :=
  bif (decide (x1 ≥ 0)) then
    gk (inB x1 8)
      (bif ((x0.getD x1.toNat 0) != 0) then
        gk (inB x1 8)
          (bindO (bits_Len64.m k (x0.getD x1.toNat 0)) fun r1 =>
            some (wr .i64 ((wr .i64 (64 * x1)) + r1)))
      else
        J (.l1 x0 (wr .i64 (x1 - 1))))
  else
    some 0
def go : Nat → St → Option (Int)
  | 0, _ => none
  | k + 1, .l1 x0 x1 => b1 k (go k) x0 x1
def m : Nat → List Int → Option (Int)
  | 0, _ => none
  | k + 1, x0 => b0 k (go k) x0
def anns : Anns := [(3, 1, [(1, 0, false), (3, 3, false)])]
noncomputable def code : ACode := codeOf Tryz.f118 anns
def rs : List ResultVar := [.tmp 2]
def decA : List AVal → Heap → Option ((List Int))
  | [.arr 8 (.int .u64 x0)], [] => some x0
  | _, _ => none
def encA (a : (List Int)) : List AVal × Heap := ([.arr 8 (.int .u64 a)], [])
def decB : AVal → Heap → Option (Int)
  | .int .i64 y0, [] => some y0
  | _, _ => none
def encB (b : Int) : Out := (.int .i64 b, [], [])
def encK : EncK (Int) := fun _ b K => K (encB b)
def X : List Ct := [bits_Len64.ct]
def ct : Ct := ⟨118, callRun cfg.tt [(33, false)] decA (fun k a => m k a) false encK⟩
theorem ok : FnOk Tryz.prog cfg 118 19 code rs := .of Tryz.func118 (by kernel_rfl) rfl rfl (by kernel_rfl) (by kernel_rfl) rfl
abbrev kend : KK (Int) := kEnd cfg.tt rs (kFin cfg.tt 0 false [3] [] [] decB)
noncomputable abbrev rn := run cfg X 19 0 code kend
theorem s0 (k : Nat) (J : Nat → Fr → Heap → Option (Int)) (x0 : List Int) : stepJ cfg X 19 0 code kend k J 0 (argFr 0 (encA x0).1) (encA x0).2 = b0 k (fun s => J s.lab s.fr s.hp) x0 := by kernel_rfl
theorem s1 (k : Nat) (J : Nat → Fr → Heap → Option (Int)) (x0 : List Int) (x1 : Int) : stepJ cfg X 19 0 code kend k J (St.l1 x0 x1).lab (St.l1 x0 x1).fr (St.l1 x0 x1).hp = b1 k (fun s => J s.lab s.fr s.hp) x0 x1 := by kernel_rfl
theorem go_ok : ∀ (k : Nat) (s : St), rn k s.lab s.fr s.hp = go k s
  | 0, _ => rfl
  | k + 1, .l1 x0 x1 => by
    have h := s1 k (rn k) x0 x1
    rw [show (fun s : St => rn k s.lab s.fr s.hp) = go k from funext (go_ok k)] at h
    exact h
theorem run_ok : ∀ (k : Nat) (a : (List Int)), rn k 0 (argFr 0 (encA a).1) (encA a).2 = m k a
  | 0, _ => rfl
  | k + 1, x0 => by
    have h := s0 k (rn k) x0
    rw [show (fun s : St => rn k s.lab s.fr s.hp) = go k from funext (go_ok k)] at h
    exact h
theorem snd (k : Nat) : Snd Tryz.prog cfg k ct := fn_snd (X := X) cfgOk mixed ok (np := 0) (vps := []) (vws := []) (decA := decA) (encA := encA) (decB := decB) (encB := encB) (encK := encK) (fun _ b _ => rfl)
  (by
    intro xs H a h
    unfold decA at h
    split at h
    · cases h; exact ⟨rfl, rfl, rfl, rfl⟩
    · cases h)
  (by
    intro v H b h
    unfold decB at h
    split at h
    · cases h; exact ⟨rfl, fun _ _ _ h => (by cases h), rfl⟩
    · cases h)
  rfl k (fun k' _ => AllS.mem (l := X) ⟨bits_Len64.snd k', trivial⟩) (fun a => run_ok k a)
end limb_length

/-! cavil/limb.plus -/
namespace limb_plus
inductive St where
  | l1 (x0 : List Int) (x1 : List Int) (x2 : List Int) (x3 : List Int) (x4 : Int) (x5 : Int)
def St.lab : St → Nat
  | .l1 _ _ _ _ _ _ => 1
def St.fr : St → Fr
  | .l1 x0 x1 x2 x3 x4 x5 => [(2, .ptr 0 1 []), (3, .ptr 1 1 []), (4, .ptr 2 1 []), (6, .ptr 3 1 []), (7, .int .u64 x4), (9, .int .i64 x5)]
def St.hp : St → Heap
  | .l1 x0 x1 x2 x3 x4 x5 => [.var 0 33 (.arr 8 (.int .u64 x0)), .var 0 33 (.arr 8 (.int .u64 x1)), .var 0 33 (.arr 8 (.int .u64 x2)), .var 0 33 (.arr 8 (.int .u64 x3))]
def b0 (k : Nat) (J : St → Option ((List Int) × Bool)) (x0 : List Int) (x1 : List Int) : Option ((List Int) × Bool) :=
  J (.l1 x0 x1 (List.replicate 8 (0 : Int)) (List.replicate 8 (0 : Int)) 0 0)
def b1 (k : Nat) (J : St → Option ((List Int) × Bool)) (x0 : List Int) (x1 : List Int) (x2 : List Int) (x3 : List Int) (x4 : Int) (x5 : Int) : Option ((List Int) × Bool) :=
  bif (decide (x5 < 8)) then
    gk (inB x5 8)
      (gk (inB x5 8)
        (gk (decide (x4 ≤ 1))
          (gk (inB x5 8)
            (J (.l1 x0 x1 x2 (x3.set x5.toNat (((x0.getD x5.toNat 0) + (x1.getD x5.toNat 0) + x4) % 18446744073709551616)) (((x0.getD x5.toNat 0) + (x1.getD x5.toNat 0) + x4) / 18446744073709551616) (wr .i64 (x5 + 1)))))))
  else
    some (x3, (x4 == 0))
def go : Nat → St → Option ((List Int) × Bool)
  | 0, _ => none
  | k + 1, .l1 x0 x1 x2 x3 x4 x5 => b1 k (go k) x0 x1 x2 x3 x4 x5
def m : Nat → List Int → List Int → Option ((List Int) × Bool)
  | 0, _, _ => none
  | k + 1, x0, x1 => b0 k (go k) x0 x1
def anns : Anns := [(5, 1, [(2, 0, false), (3, 0, false), (4, 0, false), (6, 0, false), (7, 32, false), (9, 3, false)])]
noncomputable def code : ACode := codeOf Tryz.f88 anns
def rs : List ResultVar := [.cell 4 33, .tmp 5]
def decA : List AVal → Heap → Option ((List Int) × (List Int))
  | [.arr 8 (.int .u64 x0), .arr 8 (.int .u64 x1)], [] => some (x0, x1)
  | _, _ => none
def encA (a : (List Int) × (List Int)) : List AVal × Heap := ([.arr 8 (.int .u64 a.1), .arr 8 (.int .u64 a.2)], [])
def decB : AVal → Heap → Option ((List Int) × Bool)
  | .tup (.pair (.arr 8 (.int .u64 y0)) (.pair (.bool y1) .nil)), [] => some (y0, y1)
  | _, _ => none
def encB (b : (List Int) × Bool) : Out := (.tup (.pair (.arr 8 (.int .u64 b.1)) (.pair (.bool b.2) .nil)), [], [])
def encK : EncK ((List Int) × Bool) := fun _ b K => K (encB b)
def X : List Ct := [lib_add64.ct]
def ct : Ct := ⟨88, callRun cfg.tt [(33, false), (33, false)] decA (fun k a => m k a.1 a.2) false encK⟩
theorem ok : FnOk Tryz.prog cfg 88 29 code rs := .of Tryz.func88 (by kernel_rfl) rfl rfl (by kernel_rfl) (by kernel_rfl) rfl
abbrev kend : KK ((List Int) × Bool) := kEnd cfg.tt rs (kFin cfg.tt 0 false [33, 4] [] [] decB)
noncomputable abbrev rn := run cfg X 29 0 code kend
theorem s0 (k : Nat) (J : Nat → Fr → Heap → Option ((List Int) × Bool)) (x0 : List Int) (x1 : List Int) : stepJ cfg X 29 0 code kend k J 0 (argFr 0 (encA (x0, x1)).1) (encA (x0, x1)).2 = b0 k (fun s => J s.lab s.fr s.hp) x0 x1 := by kernel_rfl
theorem s1 (k : Nat) (J : Nat → Fr → Heap → Option ((List Int) × Bool)) (x0 : List Int) (x1 : List Int) (x2 : List Int) (x3 : List Int) (x4 : Int) (x5 : Int) : stepJ cfg X 29 0 code kend k J (St.l1 x0 x1 x2 x3 x4 x5).lab (St.l1 x0 x1 x2 x3 x4 x5).fr (St.l1 x0 x1 x2 x3 x4 x5).hp = b1 k (fun s => J s.lab s.fr s.hp) x0 x1 x2 x3 x4 x5 := by kernel_rfl
theorem go_ok : ∀ (k : Nat) (s : St), rn k s.lab s.fr s.hp = go k s
  | 0, _ => rfl
  | k + 1, .l1 x0 x1 x2 x3 x4 x5 => by
    have h := s1 k (rn k) x0 x1 x2 x3 x4 x5
    rw [show (fun s : St => rn k s.lab s.fr s.hp) = go k from funext (go_ok k)] at h
    exact h
theorem run_ok : ∀ (k : Nat) (a : (List Int) × (List Int)), rn k 0 (argFr 0 (encA a).1) (encA a).2 = m k a.1 a.2
  | 0, _ => rfl
  | k + 1, (x0, x1) => by
    have h := s0 k (rn k) x0 x1
    rw [show (fun s : St => rn k s.lab s.fr s.hp) = go k from funext (go_ok k)] at h
    exact h
theorem snd (k : Nat) : Snd Tryz.prog cfg k ct := fn_snd (X := X) cfgOk mixed ok (np := 0) (vps := []) (vws := []) (decA := decA) (encA := encA) (decB := decB) (encB := encB) (encK := encK) (fun _ b _ => rfl)
  (by
    intro xs H a h
    unfold decA at h
    split at h
    · cases h; exact ⟨rfl, rfl, rfl, rfl⟩
    · cases h)
  (by
    intro v H b h
    unfold decB at h
    split at h
    · cases h; exact ⟨rfl, fun _ _ _ h => (by cases h), rfl⟩
    · cases h)
  rfl k (fun k' _ => AllS.mem (l := X) ⟨lib_add64.snd k', trivial⟩) (fun a => run_ok k a)
end limb_plus

/-! cavil/limb.minus -/
namespace limb_minus
inductive St where
  | l1 (x0 : List Int) (x1 : List Int) (x2 : List Int) (x3 : List Int) (x4 : Int) (x5 : Int)
def St.lab : St → Nat
  | .l1 _ _ _ _ _ _ => 1
def St.fr : St → Fr
  | .l1 x0 x1 x2 x3 x4 x5 => [(2, .ptr 0 1 []), (3, .ptr 1 1 []), (4, .ptr 2 1 []), (5, .ptr 3 1 []), (6, .int .u64 x4), (8, .int .i64 x5)]
def St.hp : St → Heap
  | .l1 x0 x1 x2 x3 x4 x5 => [.var 0 33 (.arr 8 (.int .u64 x0)), .var 0 33 (.arr 8 (.int .u64 x1)), .var 0 33 (.arr 8 (.int .u64 x2)), .var 0 33 (.arr 8 (.int .u64 x3))]
def b0 (k : Nat) (J : St → Option ((List Int))) (x0 : List Int) (x1 : List Int) : Option ((List Int)) :=
  J (.l1 x0 x1 (List.replicate 8 (0 : Int)) (List.replicate 8 (0 : Int)) 0 0)
def b1 (k : Nat) (J : St → Option ((List Int))) (x0 : List Int) (x1 : List Int) (x2 : List Int) (x3 : List Int) (x4 : Int) (x5 : Int) : Option ((List Int)) :=
  bif (decide (x5 < 8)) then
    gk (inB x5 8)
      (gk (inB x5 8)
        (gk (decide (x4 ≤ 1))
          (gk (inB x5 8)
            (J (.l1 x0 x1 x2 (x3.set x5.toNat (((x0.getD x5.toNat 0) - (x1.getD x5.toNat 0) - x4) % 18446744073709551616)) (if (x0.getD x5.toNat 0) < (x1.getD x5.toNat 0) + x4 then 1 else 0) (wr .i64 (x5 + 1)))))))
  else
    some x3
def go : Nat → St → Option ((List Int))
  | 0, _ => none
  | k + 1, .l1 x0 x1 x2 x3 x4 x5 => b1 k (go k) x0 x1 x2 x3 x4 x5
def m : Nat → List Int → List Int → Option ((List Int))
  | 0, _, _ => none
  | k + 1, x0, x1 => b0 k (go k) x0 x1
def anns : Anns := [(5, 1, [(2, 0, false), (3, 0, false), (4, 0, false), (5, 0, false), (6, 32, false), (8, 3, false)])]
noncomputable def code : ACode := codeOf Tryz.f89 anns
def rs : List ResultVar := [.cell 4 33]
def decA : List AVal → Heap → Option ((List Int) × (List Int))
  | [.arr 8 (.int .u64 x0), .arr 8 (.int .u64 x1)], [] => some (x0, x1)
  | _, _ => none
def encA (a : (List Int) × (List Int)) : List AVal × Heap := ([.arr 8 (.int .u64 a.1), .arr 8 (.int .u64 a.2)], [])
def decB : AVal → Heap → Option ((List Int))
  | .arr 8 (.int .u64 y0), [] => some y0
  | _, _ => none
def encB (b : (List Int)) : Out := (.arr 8 (.int .u64 b), [], [])
def encK : EncK ((List Int)) := fun _ b K => K (encB b)
def X : List Ct := [lib_sub64.ct]
def ct : Ct := ⟨89, callRun cfg.tt [(33, false), (33, false)] decA (fun k a => m k a.1 a.2) false encK⟩
theorem ok : FnOk Tryz.prog cfg 89 26 code rs := .of Tryz.func89 (by kernel_rfl) rfl rfl (by kernel_rfl) (by kernel_rfl) rfl
abbrev kend : KK ((List Int)) := kEnd cfg.tt rs (kFin cfg.tt 0 false [33] [] [] decB)
noncomputable abbrev rn := run cfg X 26 0 code kend
theorem s0 (k : Nat) (J : Nat → Fr → Heap → Option ((List Int))) (x0 : List Int) (x1 : List Int) : stepJ cfg X 26 0 code kend k J 0 (argFr 0 (encA (x0, x1)).1) (encA (x0, x1)).2 = b0 k (fun s => J s.lab s.fr s.hp) x0 x1 := by kernel_rfl
theorem s1 (k : Nat) (J : Nat → Fr → Heap → Option ((List Int))) (x0 : List Int) (x1 : List Int) (x2 : List Int) (x3 : List Int) (x4 : Int) (x5 : Int) : stepJ cfg X 26 0 code kend k J (St.l1 x0 x1 x2 x3 x4 x5).lab (St.l1 x0 x1 x2 x3 x4 x5).fr (St.l1 x0 x1 x2 x3 x4 x5).hp = b1 k (fun s => J s.lab s.fr s.hp) x0 x1 x2 x3 x4 x5 := by kernel_rfl
theorem go_ok : ∀ (k : Nat) (s : St), rn k s.lab s.fr s.hp = go k s
  | 0, _ => rfl
  | k + 1, .l1 x0 x1 x2 x3 x4 x5 => by
    have h := s1 k (rn k) x0 x1 x2 x3 x4 x5
    rw [show (fun s : St => rn k s.lab s.fr s.hp) = go k from funext (go_ok k)] at h
    exact h
theorem run_ok : ∀ (k : Nat) (a : (List Int) × (List Int)), rn k 0 (argFr 0 (encA a).1) (encA a).2 = m k a.1 a.2
  | 0, _ => rfl
  | k + 1, (x0, x1) => by
    have h := s0 k (rn k) x0 x1
    rw [show (fun s : St => rn k s.lab s.fr s.hp) = go k from funext (go_ok k)] at h
    exact h
theorem snd (k : Nat) : Snd Tryz.prog cfg k ct := fn_snd (X := X) cfgOk mixed ok (np := 0) (vps := []) (vws := []) (decA := decA) (encA := encA) (decB := decB) (encB := encB) (encK := encK) (fun _ b _ => rfl)
  (by
    intro xs H a h
    unfold decA at h
    split at h
    · cases h; exact ⟨rfl, rfl, rfl, rfl⟩
    · cases h)
  (by
    intro v H b h
    unfold decB at h
    split at h
    · cases h; exact ⟨rfl, fun _ _ _ h => (by cases h), rfl⟩
    · cases h)
  rfl k (fun k' _ => AllS.mem (l := X) ⟨lib_sub64.snd k', trivial⟩) (fun a => run_ok k a)
end limb_minus

/-! cavil/limb.fit -/
namespace limb_fit
def b0 (k : Nat) (x0 : Bool) (x1 : List Int) (x2 : Bool) : Option (Bool × (List Int) × Er) :=
  bif (!x2) then
    some (false, (List.replicate 8 (0 : Int)), (.no 9))
  else
    bindO (limb_made.m k x0 x1) fun r1 =>
      some (r1.1, r1.2, .nil)
def m : Nat → Bool → List Int → Bool → Option (Bool × (List Int) × Er)
  | 0, _, _, _ => none
  | k + 1, x0, x1, x2 => b0 k x0 x1 x2
def anns : Anns := []
noncomputable def code : ACode := codeOf Tryz.f87 anns
def rs : List ResultVar := [.cell 6 35, .tmp 7]
def decA : List AVal → Heap → Option (Bool × (List Int) × Bool)
  | [.bool x0, .arr 8 (.int .u64 x1), .bool x2], [] => some (x0, x1, x2)
  | _, _ => none
def encA (a : Bool × (List Int) × Bool) : List AVal × Heap := ([.bool a.1, .arr 8 (.int .u64 a.2.1), .bool a.2.2], [])
def decB : AVal → Heap → Option (Bool × (List Int) × Er)
  | .tup (.pair (.agg (.pair (.bool y0) (.pair (.arr 8 (.int .u64 y1)) .nil))) (.pair (.err y2) .nil)), [] => some (y0, y1, y2)
  | _, _ => none
def encB (b : Bool × (List Int) × Er) : Out := (.tup (.pair (.agg (.pair (.bool b.1) (.pair (.arr 8 (.int .u64 b.2.1)) .nil))) (.pair (.err b.2.2) .nil)), [], [])
def encK : EncK (Bool × (List Int) × Er) := fun _ b K => K (encB b)
def X : List Ct := [limb_made.ct]
def ct : Ct := ⟨87, callRun cfg.tt [(4, false), (33, false), (4, false)] decA (fun k a => m k a.1 a.2.1 a.2.2) false encK⟩
theorem ok : FnOk Tryz.prog cfg 87 15 code rs := .of Tryz.func87 (by kernel_rfl) rfl rfl (by kernel_rfl) (by kernel_rfl) rfl
abbrev kend : KK (Bool × (List Int) × Er) := kEnd cfg.tt rs (kFin cfg.tt 0 false [35, 24] [] [] decB)
noncomputable abbrev rn := run cfg X 15 0 code kend
theorem s0 (k : Nat) (J : Nat → Fr → Heap → Option (Bool × (List Int) × Er)) (x0 : Bool) (x1 : List Int) (x2 : Bool) : stepJ cfg X 15 0 code kend k J 0 (argFr 0 (encA (x0, x1, x2)).1) (encA (x0, x1, x2)).2 = b0 k x0 x1 x2 := by kernel_rfl
theorem run_ok : ∀ (k : Nat) (a : Bool × (List Int) × Bool), rn k 0 (argFr 0 (encA a).1) (encA a).2 = m k a.1 a.2.1 a.2.2
  | 0, _ => rfl
  | k + 1, (x0, x1, x2) => by
    have h := s0 k (rn k) x0 x1 x2
    exact h
theorem snd (k : Nat) : Snd Tryz.prog cfg k ct := fn_snd (X := X) cfgOk mixed ok (np := 0) (vps := []) (vws := []) (decA := decA) (encA := encA) (decB := decB) (encB := encB) (encK := encK) (fun _ b _ => rfl)
  (by
    intro xs H a h
    unfold decA at h
    split at h
    · cases h; exact ⟨rfl, rfl, rfl, rfl⟩
    · cases h)
  (by
    intro v H b h
    unfold decB at h
    split at h
    · cases h; exact ⟨rfl, fun _ _ _ h => (by cases h), rfl⟩
    · cases h)
  rfl k (fun k' _ => AllS.mem (l := X) ⟨limb_made.snd k', trivial⟩) (fun a => run_ok k a)
end limb_fit

/-! cavil/limb.Add -/
namespace limb_Add
def b0 (k : Nat) (x0 : Bool) (x1 : List Int) (x2 : Bool) (x3 : List Int) : Option (Bool × (List Int) × Er) :=
  bif (x0 == x2) then
    bindO (limb_plus.m k x1 x3) fun r1 =>
      bindO (limb_fit.m k x0 r1.1 r1.2) fun r2 =>
        some (r2.1, r2.2.1, r2.2.2)
  else
    bindO (limb_order.m k x1 x3) fun r3 =>
      bif (decide (r3 ≥ 0)) then
        bindO (limb_minus.m k x1 x3) fun r4 =>
          bindO (limb_made.m k x0 r4) fun r5 =>
            some (r5.1, r5.2, .nil)
      else
        bindO (limb_minus.m k x3 x1) fun r6 =>
          bindO (limb_made.m k x2 r6) fun r7 =>
            some (r7.1, r7.2, .nil)
def m : Nat → Bool → List Int → Bool → List Int → Option (Bool × (List Int) × Er)
  | 0, _, _, _, _ => none
  | k + 1, x0, x1, x2, x3 => b0 k x0 x1 x2 x3
def anns : Anns := []
noncomputable def code : ACode := codeOf Tryz.f61 anns
def rs : List ResultVar := [.cell 4 35, .tmp 5]
def decA : List AVal → Heap → Option (Bool × (List Int) × Bool × (List Int))
  | [.agg (.pair (.bool x0) (.pair (.arr 8 (.int .u64 x1)) .nil)), .agg (.pair (.bool x2) (.pair (.arr 8 (.int .u64 x3)) .nil))], [] => some (x0, x1, x2, x3)
  | _, _ => none
def encA (a : Bool × (List Int) × Bool × (List Int)) : List AVal × Heap := ([.agg (.pair (.bool a.1) (.pair (.arr 8 (.int .u64 a.2.1)) .nil)), .agg (.pair (.bool a.2.2.1) (.pair (.arr 8 (.int .u64 a.2.2.2)) .nil))], [])
def decB : AVal → Heap → Option (Bool × (List Int) × Er)
  | .tup (.pair (.agg (.pair (.bool y0) (.pair (.arr 8 (.int .u64 y1)) .nil))) (.pair (.err y2) .nil)), [] => some (y0, y1, y2)
  | _, _ => none
def encB (b : Bool × (List Int) × Er) : Out := (.tup (.pair (.agg (.pair (.bool b.1) (.pair (.arr 8 (.int .u64 b.2.1)) .nil))) (.pair (.err b.2.2) .nil)), [], [])
def encK : EncK (Bool × (List Int) × Er) := fun _ b K => K (encB b)
def X : List Ct := [limb_plus.ct, limb_fit.ct, limb_order.ct, limb_minus.ct, limb_made.ct]
def ct : Ct := ⟨61, callRun cfg.tt [(35, false), (35, false)] decA (fun k a => m k a.1 a.2.1 a.2.2.1 a.2.2.2) false encK⟩
theorem ok : FnOk Tryz.prog cfg 61 50 code rs := .of Tryz.func61 (by kernel_rfl) rfl rfl (by kernel_rfl) (by kernel_rfl) rfl
abbrev kend : KK (Bool × (List Int) × Er) := kEnd cfg.tt rs (kFin cfg.tt 0 false [35, 24] [] [] decB)
noncomputable abbrev rn := run cfg X 50 0 code kend
theorem s0 (k : Nat) (J : Nat → Fr → Heap → Option (Bool × (List Int) × Er)) (x0 : Bool) (x1 : List Int) (x2 : Bool) (x3 : List Int) : stepJ cfg X 50 0 code kend k J 0 (argFr 0 (encA (x0, x1, x2, x3)).1) (encA (x0, x1, x2, x3)).2 = b0 k x0 x1 x2 x3 := by kernel_rfl
theorem run_ok : ∀ (k : Nat) (a : Bool × (List Int) × Bool × (List Int)), rn k 0 (argFr 0 (encA a).1) (encA a).2 = m k a.1 a.2.1 a.2.2.1 a.2.2.2
  | 0, _ => rfl
  | k + 1, (x0, x1, x2, x3) => by
    have h := s0 k (rn k) x0 x1 x2 x3
    exact h
theorem snd (k : Nat) : Snd Tryz.prog cfg k ct := fn_snd (X := X) cfgOk mixed ok (np := 0) (vps := []) (vws := []) (decA := decA) (encA := encA) (decB := decB) (encB := encB) (encK := encK) (fun _ b _ => rfl)
  (by
    intro xs H a h
    unfold decA at h
    split at h
    · cases h; exact ⟨rfl, rfl, rfl, rfl⟩
    · cases h)
  (by
    intro v H b h
    unfold decB at h
    split at h
    · cases h; exact ⟨rfl, fun _ _ _ h => (by cases h), rfl⟩
    · cases h)
  rfl k (fun k' _ => AllS.mem (l := X) ⟨limb_plus.snd k', limb_fit.snd k', limb_order.snd k', limb_minus.snd k', limb_made.snd k', trivial⟩) (fun a => run_ok k a)
end limb_Add

/-! cavil/limb.Mul -/
namespace limb_Mul
inductive St where
  | l1 (x0 : Bool) (x1 : List Int) (x2 : Bool) (x3 : List Int) (x4 : Bool) (x5 : List Int) (x6 : List Int) (x7 : Bool) (x8 : List Int) (x9 : Int)
  | l2 (x0 : Bool) (x1 : List Int) (x2 : Bool) (x3 : List Int) (x4 : Bool) (x5 : List Int) (x6 : List Int) (x7 : Bool) (x8 : Int) (x9 : Int) (x10 : Int) (x11 : List Int) (x12 : Int) (x13 : List Int) (x14 : Int)
  | l3 (x0 : Bool) (x1 : List Int) (x2 : Bool) (x3 : List Int) (x4 : Bool) (x5 : List Int) (x6 : List Int) (x7 : Bool) (x8 : Int) (x9 : Int) (x10 : List Int) (x11 : Int) (x12 : List Int) (x13 : Int)
def St.lab : St → Nat
  | .l1 _ _ _ _ _ _ _ _ _ _ => 1
  | .l2 _ _ _ _ _ _ _ _ _ _ _ _ _ _ _ => 2
  | .l3 _ _ _ _ _ _ _ _ _ _ _ _ _ _ => 3
def St.fr : St → Fr
  | .l1 x0 x1 x2 x3 x4 x5 x6 x7 x8 x9 => [(2, .ptr 0 1 []), (3, .ptr 1 1 []), (4, .ptr 2 1 []), (6, .ptr 3 1 []), (7, .bool x7), (17, .arr 8 (.int .u64 x8)), (18, .int .i64 x9)]
  | .l2 x0 x1 x2 x3 x4 x5 x6 x7 x8 x9 x10 x11 x12 x13 x14 => [(2, .ptr 0 1 []), (3, .ptr 1 1 []), (4, .ptr 2 1 []), (6, .ptr 3 1 []), (7, .bool x7), (8, .int .i64 x8), (9, .int .u64 x9), (10, .int .u64 x10), (17, .arr 8 (.int .u64 x11)), (18, .int .i64 x12), (23, .arr 8 (.int .u64 x13)), (24, .int .i64 x14)]
  | .l3 x0 x1 x2 x3 x4 x5 x6 x7 x8 x9 x10 x11 x12 x13 => [(2, .ptr 0 1 []), (3, .ptr 1 1 []), (4, .ptr 2 1 []), (6, .ptr 3 1 []), (7, .bool x7), (8, .int .i64 x8), (9, .int .u64 x9), (17, .arr 8 (.int .u64 x10)), (18, .int .i64 x11), (23, .arr 8 (.int .u64 x12)), (24, .int .i64 x13)]
def St.hp : St → Heap
  | .l1 x0 x1 x2 x3 x4 x5 x6 x7 x8 x9 => [.var 0 35 (.agg (.pair (.bool x0) (.pair (.arr 8 (.int .u64 x1)) .nil))), .var 0 35 (.agg (.pair (.bool x2) (.pair (.arr 8 (.int .u64 x3)) .nil))), .var 0 35 (.agg (.pair (.bool x4) (.pair (.arr 8 (.int .u64 x5)) .nil))), .var 0 33 (.arr 8 (.int .u64 x6))]
  | .l2 x0 x1 x2 x3 x4 x5 x6 x7 x8 x9 x10 x11 x12 x13 x14 => [.var 0 35 (.agg (.pair (.bool x0) (.pair (.arr 8 (.int .u64 x1)) .nil))), .var 0 35 (.agg (.pair (.bool x2) (.pair (.arr 8 (.int .u64 x3)) .nil))), .var 0 35 (.agg (.pair (.bool x4) (.pair (.arr 8 (.int .u64 x5)) .nil))), .var 0 33 (.arr 8 (.int .u64 x6))]
  | .l3 x0 x1 x2 x3 x4 x5 x6 x7 x8 x9 x10 x11 x12 x13 => [.var 0 35 (.agg (.pair (.bool x0) (.pair (.arr 8 (.int .u64 x1)) .nil))), .var 0 35 (.agg (.pair (.bool x2) (.pair (.arr 8 (.int .u64 x3)) .nil))), .var 0 35 (.agg (.pair (.bool x4) (.pair (.arr 8 (.int .u64 x5)) .nil))), .var 0 33 (.arr 8 (.int .u64 x6))]
def b0 (k : Nat) (J : St → Option (Bool × (List Int) × Er)) (x0 : Bool) (x1 : List Int) (x2 : Bool) (x3 : List Int) : Option (Bool × (List Int) × Er) :=
  J (.l1 x0 x1 x2 x3 false (List.replicate 8 (0 : Int)) (List.replicate 8 (0 : Int)) true x1 0)
def b1 (k : Nat) (J : St → Option (Bool × (List Int) × Er)) (x0 : Bool) (x1 : List Int) (x2 : Bool) (x3 : List Int) (x4 : Bool) (x5 : List Int) (x6 : List Int) (x7 : Bool) (x8 : List Int) (x9 : Int) : Option (Bool × (List Int) × Er) :=
  bif (decide (x9 < 8)) then
    gk (inB x9 8)
      (J (.l2 x0 x1 x2 x3 x4 x5 x6 x7 x9 (x8.getD x9.toNat 0) 0 x8 x9 x3 0))
  else
    bindO (limb_fit.m k (!(x0 == x2)) x6 x7) fun r1 =>
      some (r1.1, r1.2.1, r1.2.2)
def b2 (k : Nat) (J : St → Option (Bool × (List Int) × Er)) (x0 : Bool) (x1 : List Int) (x2 : Bool) (x3 : List Int) (x4 : Bool) (x5 : List Int) (x6 : List Int) (x7 : Bool) (x8 : Int) (x9 : Int) (x10 : Int) (x11 : List Int) (x12 : Int) (x13 : List Int) (x14 : Int) : Option (Bool × (List Int) × Er) :=
  bif (decide (x14 < 8)) then
    gk (inB x14 8)
      (bindO (bits_Mul64.m k x9 (x13.getD x14.toNat 0)) fun r1 =>
        bif (decide ((wr .i64 (x8 + x14)) ≥ 8)) then
          bif x7 then
            bif (r1.1 == 0) then
              bif (r1.2 == 0) then
                J (.l3 x0 x1 x2 x3 x4 x5 x6 (x10 == 0) x8 x9 x11 x12 x13 x14)
              else
                J (.l3 x0 x1 x2 x3 x4 x5 x6 false x8 x9 x11 x12 x13 x14)
            else
              J (.l3 x0 x1 x2 x3 x4 x5 x6 false x8 x9 x11 x12 x13 x14)
          else
            J (.l3 x0 x1 x2 x3 x4 x5 x6 false x8 x9 x11 x12 x13 x14)
        else
          gk (decide (0 ≤ 1))
            (gk (inB (wr .i64 (x8 + x14)) 8)
              (gk (decide (0 ≤ 1))
                (gk (inB (wr .i64 (x8 + x14)) 8)
                  (J (.l2 x0 x1 x2 x3 x4 x5 (x6.set (wr .i64 (x8 + x14)).toNat (((x6.getD (wr .i64 (x8 + x14)).toNat 0) + ((r1.2 + x10 + 0) % 18446744073709551616) + 0) % 18446744073709551616)) x7 x8 x9 (wr .u64 ((wr .u64 (r1.1 + ((r1.2 + x10 + 0) / 18446744073709551616))) + (((x6.getD (wr .i64 (x8 + x14)).toNat 0) + ((r1.2 + x10 + 0) % 18446744073709551616) + 0) / 18446744073709551616))) x11 x12 x13 (wr .i64 (x14 + 1))))))))
  else
    bif x7 then
      J (.l1 x0 x1 x2 x3 x4 x5 x6 (x10 == 0) x11 (wr .i64 (x12 + 1)))
    else
      J (.l1 x0 x1 x2 x3 x4 x5 x6 false x11 (wr .i64 (x12 + 1)))
def b3 (k : Nat) (J : St → Option (Bool × (List Int) × Er)) (x0 : Bool) (x1 : List Int) (x2 : Bool) (x3 : List Int) (x4 : Bool) (x5 : List Int) (x6 : List Int) (x7 : Bool) (x8 : Int) (x9 : Int) (x10 : List Int) (x11 : Int) (x12 : List Int) (x13 : Int) : Option (Bool × (List Int) × Er) :=
  J (.l2 x0 x1 x2 x3 x4 x5 x6 x7 x8 x9 0 x10 x11 x12 (wr .i64 (x13 + 1)))
def go : Nat → St → Option (Bool × (List Int) × Er)
  | 0, _ => none
  | k + 1, .l1 x0 x1 x2 x3 x4 x5 x6 x7 x8 x9 => b1 k (go k) x0 x1 x2 x3 x4 x5 x6 x7 x8 x9
  | k + 1, .l2 x0 x1 x2 x3 x4 x5 x6 x7 x8 x9 x10 x11 x12 x13 x14 => b2 k (go k) x0 x1 x2 x3 x4 x5 x6 x7 x8 x9 x10 x11 x12 x13 x14
  | k + 1, .l3 x0 x1 x2 x3 x4 x5 x6 x7 x8 x9 x10 x11 x12 x13 => b3 k (go k) x0 x1 x2 x3 x4 x5 x6 x7 x8 x9 x10 x11 x12 x13
def m : Nat → Bool → List Int → Bool → List Int → Option (Bool × (List Int) × Er)
  | 0, _, _, _, _ => none
  | k + 1, x0, x1, x2, x3 => b0 k (go k) x0 x1 x2 x3
def anns : Anns := [(5, 1, [(2, 0, false), (3, 0, false), (4, 0, false), (6, 0, false), (7, 4, false), (17, 33, false), (18, 3, false)]), (13, 2, [(2, 0, false), (3, 0, false), (4, 0, false), (6, 0, false), (7, 4, false), (8, 3, false), (9, 32, false), (10, 32, false), (17, 33, false), (18, 3, false), (23, 33, false), (24, 3, false)]), (21, 3, [(2, 0, false), (3, 0, false), (4, 0, false), (6, 0, false), (7, 4, false), (8, 3, false), (9, 32, false), (17, 33, false), (18, 3, false), (23, 33, false), (24, 3, false)])]
noncomputable def code : ACode := codeOf Tryz.f60 anns
def rs : List ResultVar := [.cell 4 35, .tmp 5]
def decA : List AVal → Heap → Option (Bool × (List Int) × Bool × (List Int))
  | [.agg (.pair (.bool x0) (.pair (.arr 8 (.int .u64 x1)) .nil)), .agg (.pair (.bool x2) (.pair (.arr 8 (.int .u64 x3)) .nil))], [] => some (x0, x1, x2, x3)
  | _, _ => none
def encA (a : Bool × (List Int) × Bool × (List Int)) : List AVal × Heap := ([.agg (.pair (.bool a.1) (.pair (.arr 8 (.int .u64 a.2.1)) .nil)), .agg (.pair (.bool a.2.2.1) (.pair (.arr 8 (.int .u64 a.2.2.2)) .nil))], [])
def decB : AVal → Heap → Option (Bool × (List Int) × Er)
  | .tup (.pair (.agg (.pair (.bool y0) (.pair (.arr 8 (.int .u64 y1)) .nil))) (.pair (.err y2) .nil)), [] => some (y0, y1, y2)
  | _, _ => none
def encB (b : Bool × (List Int) × Er) : Out := (.tup (.pair (.agg (.pair (.bool b.1) (.pair (.arr 8 (.int .u64 b.2.1)) .nil))) (.pair (.err b.2.2) .nil)), [], [])
def encK : EncK (Bool × (List Int) × Er) := fun _ b K => K (encB b)
def X : List Ct := [limb_fit.ct, bits_Mul64.ct, lib_add64.ct]
def ct : Ct := ⟨60, callRun cfg.tt [(35, false), (35, false)] decA (fun k a => m k a.1 a.2.1 a.2.2.1 a.2.2.2) false encK⟩
theorem ok : FnOk Tryz.prog cfg 60 94 code rs := .of Tryz.func60 (by kernel_rfl) rfl rfl (by kernel_rfl) (by kernel_rfl) rfl
abbrev kend : KK (Bool × (List Int) × Er) := kEnd cfg.tt rs (kFin cfg.tt 0 false [35, 24] [] [] decB)
noncomputable abbrev rn := run cfg X 94 0 code kend
theorem s0 (k : Nat) (J : Nat → Fr → Heap → Option (Bool × (List Int) × Er)) (x0 : Bool) (x1 : List Int) (x2 : Bool) (x3 : List Int) : stepJ cfg X 94 0 code kend k J 0 (argFr 0 (encA (x0, x1, x2, x3)).1) (encA (x0, x1, x2, x3)).2 = b0 k (fun s => J s.lab s.fr s.hp) x0 x1 x2 x3 := by kernel_rfl
theorem s1 (k : Nat) (J : Nat → Fr → Heap → Option (Bool × (List Int) × Er)) (x0 : Bool) (x1 : List Int) (x2 : Bool) (x3 : List Int) (x4 : Bool) (x5 : List Int) (x6 : List Int) (x7 : Bool) (x8 : List Int) (x9 : Int) : stepJ cfg X 94 0 code kend k J (St.l1 x0 x1 x2 x3 x4 x5 x6 x7 x8 x9).lab (St.l1 x0 x1 x2 x3 x4 x5 x6 x7 x8 x9).fr (St.l1 x0 x1 x2 x3 x4 x5 x6 x7 x8 x9).hp = b1 k (fun s => J s.lab s.fr s.hp) x0 x1 x2 x3 x4 x5 x6 x7 x8 x9 := by kernel_rfl
theorem s2 (k : Nat) (J : Nat → Fr → Heap → Option (Bool × (List Int) × Er)) (x0 : Bool) (x1 : List Int) (x2 : Bool) (x3 : List Int) (x4 : Bool) (x5 : List Int) (x6 : List Int) (x7 : Bool) (x8 : Int) (x9 : Int) (x10 : Int) (x11 : List Int) (x12 : Int) (x13 : List Int) (x14 : Int) : stepJ cfg X 94 0 code kend k J (St.l2 x0 x1 x2 x3 x4 x5 x6 x7 x8 x9 x10 x11 x12 x13 x14).lab (St.l2 x0 x1 x2 x3 x4 x5 x6 x7 x8 x9 x10 x11 x12 x13 x14).fr (St.l2 x0 x1 x2 x3 x4 x5 x6 x7 x8 x9 x10 x11 x12 x13 x14).hp = b2 k (fun s => J s.lab s.fr s.hp) x0 x1 x2 x3 x4 x5 x6 x7 x8 x9 x10 x11 x12 x13 x14 := by kernel_rfl
theorem s3 (k : Nat) (J : Nat → Fr → Heap → Option (Bool × (List Int) × Er)) (x0 : Bool) (x1 : List Int) (x2 : Bool) (x3 : List Int) (x4 : Bool) (x5 : List Int) (x6 : List Int) (x7 : Bool) (x8 : Int) (x9 : Int) (x10 : List Int) (x11 : Int) (x12 : List Int) (x13 : Int) : stepJ cfg X 94 0 code kend k J (St.l3 x0 x1 x2 x3 x4 x5 x6 x7 x8 x9 x10 x11 x12 x13).lab (St.l3 x0 x1 x2 x3 x4 x5 x6 x7 x8 x9 x10 x11 x12 x13).fr (St.l3 x0 x1 x2 x3 x4 x5 x6 x7 x8 x9 x10 x11 x12 x13).hp = b3 k (fun s => J s.lab s.fr s.hp) x0 x1 x2 x3 x4 x5 x6 x7 x8 x9 x10 x11 x12 x13 := by kernel_rfl
theorem go_ok : ∀ (k : Nat) (s : St), rn k s.lab s.fr s.hp = go k s
  | 0, _ => rfl
  | k + 1, .l1 x0 x1 x2 x3 x4 x5 x6 x7 x8 x9 => by
    have h := s1 k (rn k) x0 x1 x2 x3 x4 x5 x6 x7 x8 x9
    rw [show (fun s : St => rn k s.lab s.fr s.hp) = go k from funext (go_ok k)] at h
    exact h
  | k + 1, .l2 x0 x1 x2 x3 x4 x5 x6 x7 x8 x9 x10 x11 x12 x13 x14 => by
    have h := s2 k (rn k) x0 x1 x2 x3 x4 x5 x6 x7 x8 x9 x10 x11 x12 x13 x14
    rw [show (fun s : St => rn k s.lab s.fr s.hp) = go k from funext (go_ok k)] at h
    exact h
  | k + 1, .l3 x0 x1 x2 x3 x4 x5 x6 x7 x8 x9 x10 x11 x12 x13 => by
    have h := s3 k (rn k) x0 x1 x2 x3 x4 x5 x6 x7 x8 x9 x10 x11 x12 x13
    rw [show (fun s : St => rn k s.lab s.fr s.hp) = go k from funext (go_ok k)] at h
    exact h
theorem run_ok : ∀ (k : Nat) (a : Bool × (List Int) × Bool × (List Int)), rn k 0 (argFr 0 (encA a).1) (encA a).2 = m k a.1 a.2.1 a.2.2.1 a.2.2.2
  | 0, _ => rfl
  | k + 1, (x0, x1, x2, x3) => by
    have h := s0 k (rn k) x0 x1 x2 x3
    rw [show (fun s : St => rn k s.lab s.fr s.hp) = go k from funext (go_ok k)] at h
    exact h
theorem snd (k : Nat) : Snd Tryz.prog cfg k ct := fn_snd (X := X) cfgOk mixed ok (np := 0) (vps := []) (vws := []) (decA := decA) (encA := encA) (decB := decB) (encB := encB) (encK := encK) (fun _ b _ => rfl)
  (by
    intro xs H a h
    unfold decA at h
    split at h
    · cases h; exact ⟨rfl, rfl, rfl, rfl⟩
    · cases h)
  (by
    intro v H b h
    unfold decB at h
    split at h
    · cases h; exact ⟨rfl, fun _ _ _ h => (by cases h), rfl⟩
    · cases h)
  rfl k (fun k' _ => AllS.mem (l := X) ⟨limb_fit.snd k', bits_Mul64.snd k', lib_add64.snd k', trivial⟩) (fun a => run_ok k a)
end limb_Mul

/-! cavil/limb.up -/
namespace limb_up
inductive St where
  | l1 (x0 : List Int) (x1 : List Int) (x2 : List Int) (x3 : Int) (x4 : Int)
  | l2 (x0 : List Int) (x1 : List Int) (x2 : List Int) (x3 : Int) (x4 : Int) (x5 : Bool)
def St.lab : St → Nat
  | .l1 _ _ _ _ _ => 1
  | .l2 _ _ _ _ _ _ => 2
def St.fr : St → Fr
  | .l1 x0 x1 x2 x3 x4 => [(1, .int .i64 x3), (2, .ptr 0 1 []), (4, .ptr 1 1 []), (5, .ptr 2 1 []), (6, .int .i64 x4)]
  | .l2 x0 x1 x2 x3 x4 x5 => [(1, .int .i64 x3), (2, .ptr 0 1 []), (4, .ptr 1 1 []), (5, .ptr 2 1 []), (6, .int .i64 x4), (32, .bool x5)]
def St.hp : St → Heap
  | .l1 x0 x1 x2 x3 x4 => [.var 0 33 (.arr 8 (.int .u64 x0)), .var 0 33 (.arr 8 (.int .u64 x1)), .var 0 33 (.arr 8 (.int .u64 x2))]
  | .l2 x0 x1 x2 x3 x4 x5 => [.var 0 33 (.arr 8 (.int .u64 x0)), .var 0 33 (.arr 8 (.int .u64 x1)), .var 0 33 (.arr 8 (.int .u64 x2))]
def b0 (k : Nat) (J : St → Option ((List Int))) (x0 : List Int) (x1 : Int) : Option ((List Int)) :=
  J (.l1 x0 (List.replicate 8 (0 : Int)) (List.replicate 8 (0 : Int)) x1 7)
def b1 (k : Nat) (J : St → Option ((List Int))) (x0 : List Int) (x1 : List Int) (x2 : List Int) (x3 : Int) (x4 : Int) : Option ((List Int)) :=
  bif (decide (x4 ≥ (quoI .i64 x3 64))) then
    gk (inB (wr .i64 (x4 - (quoI .i64 x3 64))) 8)
      (gk (nn (remI x3 64))
        (gk (inB x4 8)
          (bif (decide ((remI x3 64) > 0)) then
            J (.l2 x0 x1 (x2.set x4.toNat (shlI .u64 (x0.getD (wr .i64 (x4 - (quoI .i64 x3 64))).toNat 0) (remI x3 64))) x3 x4 (decide (x4 > (quoI .i64 x3 64))))
          else
            J (.l2 x0 x1 (x2.set x4.toNat (shlI .u64 (x0.getD (wr .i64 (x4 - (quoI .i64 x3 64))).toNat 0) (remI x3 64))) x3 x4 false))))
  else
    some x2
def b2 (k : Nat) (J : St → Option ((List Int))) (x0 : List Int) (x1 : List Int) (x2 : List Int) (x3 : Int) (x4 : Int) (x5 : Bool) : Option ((List Int)) :=
  bif x5 then
    gk (inB x4 8)
      (gk (inB (wr .i64 ((wr .i64 (x4 - (quoI .i64 x3 64))) - 1)) 8)
        (gk (nn (wr .i64 (64 - (remI x3 64))))
          (gk (inB x4 8)
            (J (.l1 x0 x1 (x2.set x4.toNat (Go.bits .or .u64 (x2.getD x4.toNat 0) (shrI .u64 (x0.getD (wr .i64 ((wr .i64 (x4 - (quoI .i64 x3 64))) - 1)).toNat 0) (wr .i64 (64 - (remI x3 64)))))) x3 (wr .i64 (x4 - 1)))))))
  else
    J (.l1 x0 x1 x2 x3 (wr .i64 (x4 - 1)))
def go : Nat → St → Option ((List Int))
  | 0, _ => none
  | k + 1, .l1 x0 x1 x2 x3 x4 => b1 k (go k) x0 x1 x2 x3 x4
  | k + 1, .l2 x0 x1 x2 x3 x4 x5 => b2 k (go k) x0 x1 x2 x3 x4 x5
def m : Nat → List Int → Int → Option ((List Int))
  | 0, _, _ => none
  | k + 1, x0, x1 => b0 k (go k) x0 x1
def anns : Anns := [(4, 1, [(1, 3, false), (2, 0, false), (4, 0, false), (5, 0, false), (6, 3, false)]), (9, 2, [(1, 3, false), (2, 0, false), (4, 0, false), (5, 0, false), (6, 3, false), (32, 4, false)])]
noncomputable def code : ACode := codeOf Tryz.f119 anns
def rs : List ResultVar := [.cell 4 33]
def decA : List AVal → Heap → Option ((List Int) × Int)
  | [.arr 8 (.int .u64 x0), .int .i64 x1], [] => some (x0, x1)
  | _, _ => none
def encA (a : (List Int) × Int) : List AVal × Heap := ([.arr 8 (.int .u64 a.1), .int .i64 a.2], [])
def decB : AVal → Heap → Option ((List Int))
  | .arr 8 (.int .u64 y0), [] => some y0
  | _, _ => none
def encB (b : (List Int)) : Out := (.arr 8 (.int .u64 b), [], [])
def encK : EncK ((List Int)) := fun _ b K => K (encB b)
def X : List Ct := []
def ct : Ct := ⟨119, callRun cfg.tt [(33, false), (3, false)] decA (fun k a => m k a.1 a.2) false encK⟩
theorem ok : FnOk Tryz.prog cfg 119 50 code rs := .of Tryz.func119 (by kernel_rfl) rfl rfl (by kernel_rfl) (by kernel_rfl) rfl
abbrev kend : KK ((List Int)) := kEnd cfg.tt rs (kFin cfg.tt 0 false [33] [] [] decB)
noncomputable abbrev rn := run cfg X 50 0 code kend
theorem s0 (k : Nat) (J : Nat → Fr → Heap → Option ((List Int))) (x0 : List Int) (x1 : Int) : stepJ cfg X 50 0 code kend k J 0 (argFr 0 (encA (x0, x1)).1) (encA (x0, x1)).2 = b0 k (fun s => J s.lab s.fr s.hp) x0 x1 := by kernel_rfl
theorem s1 (k : Nat) (J : Nat → Fr → Heap → Option ((List Int))) (x0 : List Int) (x1 : List Int) (x2 : List Int) (x3 : Int) (x4 : Int) : stepJ cfg X 50 0 code kend k J (St.l1 x0 x1 x2 x3 x4).lab (St.l1 x0 x1 x2 x3 x4).fr (St.l1 x0 x1 x2 x3 x4).hp = b1 k (fun s => J s.lab s.fr s.hp) x0 x1 x2 x3 x4 := by kernel_rfl
theorem s2 (k : Nat) (J : Nat → Fr → Heap → Option ((List Int))) (x0 : List Int) (x1 : List Int) (x2 : List Int) (x3 : Int) (x4 : Int) (x5 : Bool) : stepJ cfg X 50 0 code kend k J (St.l2 x0 x1 x2 x3 x4 x5).lab (St.l2 x0 x1 x2 x3 x4 x5).fr (St.l2 x0 x1 x2 x3 x4 x5).hp = b2 k (fun s => J s.lab s.fr s.hp) x0 x1 x2 x3 x4 x5 := by kernel_rfl
theorem go_ok : ∀ (k : Nat) (s : St), rn k s.lab s.fr s.hp = go k s
  | 0, _ => rfl
  | k + 1, .l1 x0 x1 x2 x3 x4 => by
    have h := s1 k (rn k) x0 x1 x2 x3 x4
    rw [show (fun s : St => rn k s.lab s.fr s.hp) = go k from funext (go_ok k)] at h
    exact h
  | k + 1, .l2 x0 x1 x2 x3 x4 x5 => by
    have h := s2 k (rn k) x0 x1 x2 x3 x4 x5
    rw [show (fun s : St => rn k s.lab s.fr s.hp) = go k from funext (go_ok k)] at h
    exact h
theorem run_ok : ∀ (k : Nat) (a : (List Int) × Int), rn k 0 (argFr 0 (encA a).1) (encA a).2 = m k a.1 a.2
  | 0, _ => rfl
  | k + 1, (x0, x1) => by
    have h := s0 k (rn k) x0 x1
    rw [show (fun s : St => rn k s.lab s.fr s.hp) = go k from funext (go_ok k)] at h
    exact h
theorem snd (k : Nat) : Snd Tryz.prog cfg k ct := fn_snd (X := X) cfgOk mixed ok (np := 0) (vps := []) (vws := []) (decA := decA) (encA := encA) (decB := decB) (encB := encB) (encK := encK) (fun _ b _ => rfl)
  (by
    intro xs H a h
    unfold decA at h
    split at h
    · cases h; exact ⟨rfl, rfl, rfl, rfl⟩
    · cases h)
  (by
    intro v H b h
    unfold decB at h
    split at h
    · cases h; exact ⟨rfl, fun _ _ _ h => (by cases h), rfl⟩
    · cases h)
  rfl k (fun k' _ => AllS.mem (l := X) trivial) (fun a => run_ok k a)
end limb_up

/-! cavil/limb.part -/
namespace limb_part
inductive St where
  | l1 (x0 : List Int) (x1 : List Int) (x2 : List Int) (x3 : Int)
def St.lab : St → Nat
  | .l1 _ _ _ _ => 1
def St.fr : St → Fr
  | .l1 x0 x1 x2 x3 => [(3, .ptr 0 1 []), (4, .ptr 1 1 []), (5, .ptr 2 1 []), (6, .int .i64 x3)]
def St.hp : St → Heap
  | .l1 x0 x1 x2 x3 => [.var 0 33 (.arr 8 (.int .u64 x0)), .var 0 33 (.arr 8 (.int .u64 x1)), .var 0 33 (.arr 8 (.int .u64 x2))]
def b0 (k : Nat) (J : St → Option ((List Int) × (List Int))) (x0 : List Int) (x1 : List Int) : Option ((List Int) × (List Int)) :=
  bindO (limb_length.m k x0) fun r1 =>
    bindO (limb_length.m k x1) fun r2 =>
      J (.l1 x1 (List.replicate 8 (0 : Int)) x0 (wr .i64 (r1 - r2)))
def b1 (k : Nat) (J : St → Option ((List Int) × (List Int))) (x0 : List Int) (x1 : List Int) (x2 : List Int) (x3 : Int) : Option ((List Int) × (List Int)) :=
  bif (decide (x3 ≥ 0)) then
    bindO (limb_up.m k x0 x3) fun r1 =>
      bindO (limb_order.m k r1 x2) fun r2 =>
        bif (decide (r2 ≤ 0)) then
          bindO (limb_minus.m k x2 r1) fun r3 =>
            gk (inB (quoI .i64 x3 64) 8)
              (gk (nn (remI x3 64))
                (gk (inB (quoI .i64 x3 64) 8)
                  (J (.l1 x0 (x1.set (quoI .i64 x3 64).toNat (Go.bits .or .u64 (x1.getD (quoI .i64 x3 64).toNat 0) (shlI .u64 1 (remI x3 64)))) r3 (wr .i64 (x3 - 1))))))
        else
          J (.l1 x0 x1 x2 (wr .i64 (x3 - 1)))
  else
    some (x1, x2)
def go : Nat → St → Option ((List Int) × (List Int))
  | 0, _ => none
  | k + 1, .l1 x0 x1 x2 x3 => b1 k (go k) x0 x1 x2 x3
def m : Nat → List Int → List Int → Option ((List Int) × (List Int))
  | 0, _, _ => none
  | k + 1, x0, x1 => b0 k (go k) x0 x1
def anns : Anns := [(4, 1, [(3, 0, false), (4, 0, false), (5, 0, false), (6, 3, false)])]
noncomputable def code : ACode := codeOf Tryz.f97 anns
def rs : List ResultVar := [.cell 4 33, .cell 5 33]
def decA : List AVal → Heap → Option ((List Int) × (List Int))
  | [.arr 8 (.int .u64 x0), .arr 8 (.int .u64 x1)], [] => some (x0, x1)
  | _, _ => none
def encA (a : (List Int) × (List Int)) : List AVal × Heap := ([.arr 8 (.int .u64 a.1), .arr 8 (.int .u64 a.2)], [])
def decB : AVal → Heap → Option ((List Int) × (List Int))
  | .tup (.pair (.arr 8 (.int .u64 y0)) (.pair (.arr 8 (.int .u64 y1)) .nil)), [] => some (y0, y1)
  | _, _ => none
def encB (b : (List Int) × (List Int)) : Out := (.tup (.pair (.arr 8 (.int .u64 b.1)) (.pair (.arr 8 (.int .u64 b.2)) .nil)), [], [])
def encK : EncK ((List Int) × (List Int)) := fun _ b K => K (encB b)
def X : List Ct := [limb_length.ct, limb_up.ct, limb_order.ct, limb_minus.ct]
def ct : Ct := ⟨97, callRun cfg.tt [(33, false), (33, false)] decA (fun k a => m k a.1 a.2) false encK⟩
theorem ok : FnOk Tryz.prog cfg 97 39 code rs := .of Tryz.func97 (by kernel_rfl) rfl rfl (by kernel_rfl) (by kernel_rfl) rfl
abbrev kend : KK ((List Int) × (List Int)) := kEnd cfg.tt rs (kFin cfg.tt 0 false [33, 33] [] [] decB)
noncomputable abbrev rn := run cfg X 39 0 code kend
theorem s0 (k : Nat) (J : Nat → Fr → Heap → Option ((List Int) × (List Int))) (x0 : List Int) (x1 : List Int) : stepJ cfg X 39 0 code kend k J 0 (argFr 0 (encA (x0, x1)).1) (encA (x0, x1)).2 = b0 k (fun s => J s.lab s.fr s.hp) x0 x1 := by kernel_rfl
theorem s1 (k : Nat) (J : Nat → Fr → Heap → Option ((List Int) × (List Int))) (x0 : List Int) (x1 : List Int) (x2 : List Int) (x3 : Int) : stepJ cfg X 39 0 code kend k J (St.l1 x0 x1 x2 x3).lab (St.l1 x0 x1 x2 x3).fr (St.l1 x0 x1 x2 x3).hp = b1 k (fun s => J s.lab s.fr s.hp) x0 x1 x2 x3 := by kernel_rfl
theorem go_ok : ∀ (k : Nat) (s : St), rn k s.lab s.fr s.hp = go k s
  | 0, _ => rfl
  | k + 1, .l1 x0 x1 x2 x3 => by
    have h := s1 k (rn k) x0 x1 x2 x3
    rw [show (fun s : St => rn k s.lab s.fr s.hp) = go k from funext (go_ok k)] at h
    exact h
theorem run_ok : ∀ (k : Nat) (a : (List Int) × (List Int)), rn k 0 (argFr 0 (encA a).1) (encA a).2 = m k a.1 a.2
  | 0, _ => rfl
  | k + 1, (x0, x1) => by
    have h := s0 k (rn k) x0 x1
    rw [show (fun s : St => rn k s.lab s.fr s.hp) = go k from funext (go_ok k)] at h
    exact h
theorem snd (k : Nat) : Snd Tryz.prog cfg k ct := fn_snd (X := X) cfgOk mixed ok (np := 0) (vps := []) (vws := []) (decA := decA) (encA := encA) (decB := decB) (encB := encB) (encK := encK) (fun _ b _ => rfl)
  (by
    intro xs H a h
    unfold decA at h
    split at h
    · cases h; exact ⟨rfl, rfl, rfl, rfl⟩
    · cases h)
  (by
    intro v H b h
    unfold decB at h
    split at h
    · cases h; exact ⟨rfl, fun _ _ _ h => (by cases h), rfl⟩
    · cases h)
  rfl k (fun k' _ => AllS.mem (l := X) ⟨limb_length.snd k', limb_up.snd k', limb_order.snd k', limb_minus.snd k', trivial⟩) (fun a => run_ok k a)
end limb_part

/-! cavil/limb.Div -/
namespace limb_Div
def b0 (k : Nat) (x0 : Bool) (x1 : List Int) (x2 : Bool) (x3 : List Int) : Option (Bool × (List Int) × Bool × (List Int) × Er) :=
  bif (x3 == ([0, 0, 0, 0, 0, 0, 0, 0] : List Int)) then
    some (false, (List.replicate 8 (0 : Int)), false, (List.replicate 8 (0 : Int)), (.no 10))
  else
    bindO (limb_part.m k x1 x3) fun r1 =>
      bindO (limb_made.m k (!(x0 == x2)) r1.1) fun r2 =>
        bindO (limb_made.m k x0 r1.2) fun r3 =>
          some (r2.1, r2.2, r3.1, r3.2, .nil)
def m : Nat → Bool → List Int → Bool → List Int → Option (Bool × (List Int) × Bool × (List Int) × Er)
  | 0, _, _, _, _ => none
  | k + 1, x0, x1, x2, x3 => b0 k x0 x1 x2 x3
def anns : Anns := []
noncomputable def code : ACode := codeOf Tryz.f73 anns
def rs : List ResultVar := [.cell 4 35, .cell 5 35, .tmp 6]
def decA : List AVal → Heap → Option (Bool × (List Int) × Bool × (List Int))
  | [.agg (.pair (.bool x0) (.pair (.arr 8 (.int .u64 x1)) .nil)), .agg (.pair (.bool x2) (.pair (.arr 8 (.int .u64 x3)) .nil))], [] => some (x0, x1, x2, x3)
  | _, _ => none
def encA (a : Bool × (List Int) × Bool × (List Int)) : List AVal × Heap := ([.agg (.pair (.bool a.1) (.pair (.arr 8 (.int .u64 a.2.1)) .nil)), .agg (.pair (.bool a.2.2.1) (.pair (.arr 8 (.int .u64 a.2.2.2)) .nil))], [])
def decB : AVal → Heap → Option (Bool × (List Int) × Bool × (List Int) × Er)
  | .tup (.pair (.agg (.pair (.bool y0) (.pair (.arr 8 (.int .u64 y1)) .nil))) (.pair (.agg (.pair (.bool y2) (.pair (.arr 8 (.int .u64 y3)) .nil))) (.pair (.err y4) .nil))), [] => some (y0, y1, y2, y3, y4)
  | _, _ => none
def encB (b : Bool × (List Int) × Bool × (List Int) × Er) : Out := (.tup (.pair (.agg (.pair (.bool b.1) (.pair (.arr 8 (.int .u64 b.2.1)) .nil))) (.pair (.agg (.pair (.bool b.2.2.1) (.pair (.arr 8 (.int .u64 b.2.2.2.1)) .nil))) (.pair (.err b.2.2.2.2) .nil))), [], [])
def encK : EncK (Bool × (List Int) × Bool × (List Int) × Er) := fun _ b K => K (encB b)
def X : List Ct := [limb_part.ct, limb_made.ct]
def ct : Ct := ⟨73, callRun cfg.tt [(35, false), (35, false)] decA (fun k a => m k a.1 a.2.1 a.2.2.1 a.2.2.2) false encK⟩
theorem ok : FnOk Tryz.prog cfg 73 35 code rs := .of Tryz.func73 (by kernel_rfl) rfl rfl (by kernel_rfl) (by kernel_rfl) rfl
abbrev kend : KK (Bool × (List Int) × Bool × (List Int) × Er) := kEnd cfg.tt rs (kFin cfg.tt 0 false [35, 35, 24] [] [] decB)
noncomputable abbrev rn := run cfg X 35 0 code kend
theorem s0 (k : Nat) (J : Nat → Fr → Heap → Option (Bool × (List Int) × Bool × (List Int) × Er)) (x0 : Bool) (x1 : List Int) (x2 : Bool) (x3 : List Int) : stepJ cfg X 35 0 code kend k J 0 (argFr 0 (encA (x0, x1, x2, x3)).1) (encA (x0, x1, x2, x3)).2 = b0 k x0 x1 x2 x3 := by kernel_rfl
theorem run_ok : ∀ (k : Nat) (a : Bool × (List Int) × Bool × (List Int)), rn k 0 (argFr 0 (encA a).1) (encA a).2 = m k a.1 a.2.1 a.2.2.1 a.2.2.2
  | 0, _ => rfl
  | k + 1, (x0, x1, x2, x3) => by
    have h := s0 k (rn k) x0 x1 x2 x3
    exact h
theorem snd (k : Nat) : Snd Tryz.prog cfg k ct := fn_snd (X := X) cfgOk mixed ok (np := 0) (vps := []) (vws := []) (decA := decA) (encA := encA) (decB := decB) (encB := encB) (encK := encK) (fun _ b _ => rfl)
  (by
    intro xs H a h
    unfold decA at h
    split at h
    · cases h; exact ⟨rfl, rfl, rfl, rfl⟩
    · cases h)
  (by
    intro v H b h
    unfold decB at h
    split at h
    · cases h; exact ⟨rfl, fun _ _ _ h => (by cases h), rfl⟩
    · cases h)
  rfl k (fun k' _ => AllS.mem (l := X) ⟨limb_part.snd k', limb_made.snd k', trivial⟩) (fun a => run_ok k a)
end limb_Div

/-! cavil/limb.Gcd -/
namespace limb_Gcd
inductive St where
  | l1 (x0 : Bool) (x1 : List Int) (x2 : List Int) (x3 : List Int)
def St.lab : St → Nat
  | .l1 _ _ _ _ => 1
def St.fr : St → Fr
  | .l1 x0 x1 x2 x3 => [(4, .ptr 0 1 []), (5, .ptr 1 1 []), (6, .ptr 2 1 [])]
def St.hp : St → Heap
  | .l1 x0 x1 x2 x3 => [.var 0 35 (.agg (.pair (.bool x0) (.pair (.arr 8 (.int .u64 x1)) .nil))), .var 0 33 (.arr 8 (.int .u64 x2)), .var 0 33 (.arr 8 (.int .u64 x3))]
def b0 (k : Nat) (J : St → Option (Bool × (List Int))) (x0 : Bool) (x1 : List Int) (x2 : Bool) (x3 : List Int) : Option (Bool × (List Int)) :=
  J (.l1 false (List.replicate 8 (0 : Int)) x1 x3)
def b1 (k : Nat) (J : St → Option (Bool × (List Int))) (x0 : Bool) (x1 : List Int) (x2 : List Int) (x3 : List Int) : Option (Bool × (List Int)) :=
  bif (!(x3 == ([0, 0, 0, 0, 0, 0, 0, 0] : List Int))) then
    bindO (limb_part.m k x2 x3) fun r1 =>
      J (.l1 x0 x1 x3 r1.2)
  else
    bindO (limb_made.m k false x2) fun r2 =>
      some (r2.1, r2.2)
def go : Nat → St → Option (Bool × (List Int))
  | 0, _ => none
  | k + 1, .l1 x0 x1 x2 x3 => b1 k (go k) x0 x1 x2 x3
def m : Nat → Bool → List Int → Bool → List Int → Option (Bool × (List Int))
  | 0, _, _, _, _ => none
  | k + 1, x0, x1, x2, x3 => b0 k (go k) x0 x1 x2 x3
def anns : Anns := [(3, 1, [(4, 0, false), (5, 0, false), (6, 0, false)])]
noncomputable def code : ACode := codeOf Tryz.f72 anns
def rs : List ResultVar := [.cell 4 35]
def decA : List AVal → Heap → Option (Bool × (List Int) × Bool × (List Int))
  | [.agg (.pair (.bool x0) (.pair (.arr 8 (.int .u64 x1)) .nil)), .agg (.pair (.bool x2) (.pair (.arr 8 (.int .u64 x3)) .nil))], [] => some (x0, x1, x2, x3)
  | _, _ => none
def encA (a : Bool × (List Int) × Bool × (List Int)) : List AVal × Heap := ([.agg (.pair (.bool a.1) (.pair (.arr 8 (.int .u64 a.2.1)) .nil)), .agg (.pair (.bool a.2.2.1) (.pair (.arr 8 (.int .u64 a.2.2.2)) .nil))], [])
def decB : AVal → Heap → Option (Bool × (List Int))
  | .agg (.pair (.bool y0) (.pair (.arr 8 (.int .u64 y1)) .nil)), [] => some (y0, y1)
  | _, _ => none
def encB (b : Bool × (List Int)) : Out := (.agg (.pair (.bool b.1) (.pair (.arr 8 (.int .u64 b.2)) .nil)), [], [])
def encK : EncK (Bool × (List Int)) := fun _ b K => K (encB b)
def X : List Ct := [limb_part.ct, limb_made.ct]
def ct : Ct := ⟨72, callRun cfg.tt [(35, false), (35, false)] decA (fun k a => m k a.1 a.2.1 a.2.2.1 a.2.2.2) false encK⟩
theorem ok : FnOk Tryz.prog cfg 72 26 code rs := .of Tryz.func72 (by kernel_rfl) rfl rfl (by kernel_rfl) (by kernel_rfl) rfl
abbrev kend : KK (Bool × (List Int)) := kEnd cfg.tt rs (kFin cfg.tt 0 false [35] [] [] decB)
noncomputable abbrev rn := run cfg X 26 0 code kend
theorem s0 (k : Nat) (J : Nat → Fr → Heap → Option (Bool × (List Int))) (x0 : Bool) (x1 : List Int) (x2 : Bool) (x3 : List Int) : stepJ cfg X 26 0 code kend k J 0 (argFr 0 (encA (x0, x1, x2, x3)).1) (encA (x0, x1, x2, x3)).2 = b0 k (fun s => J s.lab s.fr s.hp) x0 x1 x2 x3 := by kernel_rfl
theorem s1 (k : Nat) (J : Nat → Fr → Heap → Option (Bool × (List Int))) (x0 : Bool) (x1 : List Int) (x2 : List Int) (x3 : List Int) : stepJ cfg X 26 0 code kend k J (St.l1 x0 x1 x2 x3).lab (St.l1 x0 x1 x2 x3).fr (St.l1 x0 x1 x2 x3).hp = b1 k (fun s => J s.lab s.fr s.hp) x0 x1 x2 x3 := by kernel_rfl
theorem go_ok : ∀ (k : Nat) (s : St), rn k s.lab s.fr s.hp = go k s
  | 0, _ => rfl
  | k + 1, .l1 x0 x1 x2 x3 => by
    have h := s1 k (rn k) x0 x1 x2 x3
    rw [show (fun s : St => rn k s.lab s.fr s.hp) = go k from funext (go_ok k)] at h
    exact h
theorem run_ok : ∀ (k : Nat) (a : Bool × (List Int) × Bool × (List Int)), rn k 0 (argFr 0 (encA a).1) (encA a).2 = m k a.1 a.2.1 a.2.2.1 a.2.2.2
  | 0, _ => rfl
  | k + 1, (x0, x1, x2, x3) => by
    have h := s0 k (rn k) x0 x1 x2 x3
    rw [show (fun s : St => rn k s.lab s.fr s.hp) = go k from funext (go_ok k)] at h
    exact h
theorem snd (k : Nat) : Snd Tryz.prog cfg k ct := fn_snd (X := X) cfgOk mixed ok (np := 0) (vps := []) (vws := []) (decA := decA) (encA := encA) (decB := decB) (encB := encB) (encK := encK) (fun _ b _ => rfl)
  (by
    intro xs H a h
    unfold decA at h
    split at h
    · cases h; exact ⟨rfl, rfl, rfl, rfl⟩
    · cases h)
  (by
    intro v H b h
    unfold decB at h
    split at h
    · cases h; exact ⟨rfl, fun _ _ _ h => (by cases h), rfl⟩
    · cases h)
  rfl k (fun k' _ => AllS.mem (l := X) ⟨limb_part.snd k', limb_made.snd k', trivial⟩) (fun a => run_ok k a)
end limb_Gcd

/-! cavil/limb.Neg -/
namespace limb_Neg
def b0 (k : Nat) (x0 : Bool) (x1 : List Int) : Option (Bool × (List Int)) :=
  bindO (limb_made.m k (!x0) x1) fun r1 =>
    some (r1.1, r1.2)
def m : Nat → Bool → List Int → Option (Bool × (List Int))
  | 0, _, _ => none
  | k + 1, x0, x1 => b0 k x0 x1
def anns : Anns := []
noncomputable def code : ACode := codeOf Tryz.f74 anns
def rs : List ResultVar := [.cell 2 35]
def decA : List AVal → Heap → Option (Bool × (List Int))
  | [.agg (.pair (.bool x0) (.pair (.arr 8 (.int .u64 x1)) .nil))], [] => some (x0, x1)
  | _, _ => none
def encA (a : Bool × (List Int)) : List AVal × Heap := ([.agg (.pair (.bool a.1) (.pair (.arr 8 (.int .u64 a.2)) .nil))], [])
def decB : AVal → Heap → Option (Bool × (List Int))
  | .agg (.pair (.bool y0) (.pair (.arr 8 (.int .u64 y1)) .nil)), [] => some (y0, y1)
  | _, _ => none
def encB (b : Bool × (List Int)) : Out := (.agg (.pair (.bool b.1) (.pair (.arr 8 (.int .u64 b.2)) .nil)), [], [])
def encK : EncK (Bool × (List Int)) := fun _ b K => K (encB b)
def X : List Ct := [limb_made.ct]
def ct : Ct := ⟨74, callRun cfg.tt [(35, false)] decA (fun k a => m k a.1 a.2) false encK⟩
theorem ok : FnOk Tryz.prog cfg 74 9 code rs := .of Tryz.func74 (by kernel_rfl) rfl rfl (by kernel_rfl) (by kernel_rfl) rfl
abbrev kend : KK (Bool × (List Int)) := kEnd cfg.tt rs (kFin cfg.tt 0 false [35] [] [] decB)
noncomputable abbrev rn := run cfg X 9 0 code kend
theorem s0 (k : Nat) (J : Nat → Fr → Heap → Option (Bool × (List Int))) (x0 : Bool) (x1 : List Int) : stepJ cfg X 9 0 code kend k J 0 (argFr 0 (encA (x0, x1)).1) (encA (x0, x1)).2 = b0 k x0 x1 := by kernel_rfl
theorem run_ok : ∀ (k : Nat) (a : Bool × (List Int)), rn k 0 (argFr 0 (encA a).1) (encA a).2 = m k a.1 a.2
  | 0, _ => rfl
  | k + 1, (x0, x1) => by
    have h := s0 k (rn k) x0 x1
    exact h
theorem snd (k : Nat) : Snd Tryz.prog cfg k ct := fn_snd (X := X) cfgOk mixed ok (np := 0) (vps := []) (vws := []) (decA := decA) (encA := encA) (decB := decB) (encB := encB) (encK := encK) (fun _ b _ => rfl)
  (by
    intro xs H a h
    unfold decA at h
    split at h
    · cases h; exact ⟨rfl, rfl, rfl, rfl⟩
    · cases h)
  (by
    intro v H b h
    unfold decB at h
    split at h
    · cases h; exact ⟨rfl, fun _ _ _ h => (by cases h), rfl⟩
    · cases h)
  rfl k (fun k' _ => AllS.mem (l := X) ⟨limb_made.snd k', trivial⟩) (fun a => run_ok k a)
end limb_Neg

/-! cavil/limb.digit -/
namespace limb_digit
inductive St where
  | l1 (x0 : List Int) (x1 : List Int) (x2 : Int) (x3 : Int)
def St.lab : St → Nat
  | .l1 _ _ _ _ => 1
def St.fr : St → Fr
  | .l1 x0 x1 x2 x3 => [(1, .ptr 0 1 []), (2, .ptr 1 1 []), (4, .int .u64 x2), (5, .int .i64 x3)]
def St.hp : St → Heap
  | .l1 x0 x1 x2 x3 => [.var 0 33 (.arr 8 (.int .u64 x0)), .var 0 33 (.arr 8 (.int .u64 x1))]
def b0 (k : Nat) (J : St → Option ((List Int) × Int)) (x0 : List Int) : Option ((List Int) × Int) :=
  J (.l1 x0 (List.replicate 8 (0 : Int)) 0 7)
def b1 (k : Nat) (J : St → Option ((List Int) × Int)) (x0 : List Int) (x1 : List Int) (x2 : Int) (x3 : Int) : Option ((List Int) × Int) :=
  bif (decide (x3 ≥ 0)) then
    gk (inB x3 8)
      (bindO (bits_Div64.m k x2 (x0.getD x3.toNat 0) 10) fun r1 =>
        gk (inB x3 8)
          (J (.l1 (x0.set x3.toNat r1.1) x1 r1.2 (wr .i64 (x3 - 1)))))
  else
    some (x0, (wr .u8 x2))
def go : Nat → St → Option ((List Int) × Int)
  | 0, _ => none
  | k + 1, .l1 x0 x1 x2 x3 => b1 k (go k) x0 x1 x2 x3
def m : Nat → List Int → Option ((List Int) × Int)
  | 0, _ => none
  | k + 1, x0 => b0 k (go k) x0
def anns : Anns := [(4, 1, [(1, 0, false), (2, 0, false), (4, 32, false), (5, 3, false)])]
noncomputable def code : ACode := codeOf Tryz.f47 anns
def rs : List ResultVar := [.cell 2 33, .tmp 3]
def decA : List AVal → Heap → Option ((List Int))
  | [.arr 8 (.int .u64 x0)], [] => some x0
  | _, _ => none
def encA (a : (List Int)) : List AVal × Heap := ([.arr 8 (.int .u64 a)], [])
def decB : AVal → Heap → Option ((List Int) × Int)
  | .tup (.pair (.arr 8 (.int .u64 y0)) (.pair (.int .u8 y1) .nil)), [] => some (y0, y1)
  | _, _ => none
def encB (b : (List Int) × Int) : Out := (.tup (.pair (.arr 8 (.int .u64 b.1)) (.pair (.int .u8 b.2) .nil)), [], [])
def encK : EncK ((List Int) × Int) := fun _ b K => K (encB b)
def X : List Ct := [bits_Div64.ct]
def ct : Ct := ⟨47, callRun cfg.tt [(33, false)] decA (fun k a => m k a) false encK⟩
theorem ok : FnOk Tryz.prog cfg 47 23 code rs := .of Tryz.func47 (by kernel_rfl) rfl rfl (by kernel_rfl) (by kernel_rfl) rfl
abbrev kend : KK ((List Int) × Int) := kEnd cfg.tt rs (kFin cfg.tt 0 false [33, 5] [] [] decB)
noncomputable abbrev rn := run cfg X 23 0 code kend
theorem s0 (k : Nat) (J : Nat → Fr → Heap → Option ((List Int) × Int)) (x0 : List Int) : stepJ cfg X 23 0 code kend k J 0 (argFr 0 (encA x0).1) (encA x0).2 = b0 k (fun s => J s.lab s.fr s.hp) x0 := by kernel_rfl
theorem s1 (k : Nat) (J : Nat → Fr → Heap → Option ((List Int) × Int)) (x0 : List Int) (x1 : List Int) (x2 : Int) (x3 : Int) : stepJ cfg X 23 0 code kend k J (St.l1 x0 x1 x2 x3).lab (St.l1 x0 x1 x2 x3).fr (St.l1 x0 x1 x2 x3).hp = b1 k (fun s => J s.lab s.fr s.hp) x0 x1 x2 x3 := by kernel_rfl
theorem go_ok : ∀ (k : Nat) (s : St), rn k s.lab s.fr s.hp = go k s
  | 0, _ => rfl
  | k + 1, .l1 x0 x1 x2 x3 => by
    have h := s1 k (rn k) x0 x1 x2 x3
    rw [show (fun s : St => rn k s.lab s.fr s.hp) = go k from funext (go_ok k)] at h
    exact h
theorem run_ok : ∀ (k : Nat) (a : (List Int)), rn k 0 (argFr 0 (encA a).1) (encA a).2 = m k a
  | 0, _ => rfl
  | k + 1, x0 => by
    have h := s0 k (rn k) x0
    rw [show (fun s : St => rn k s.lab s.fr s.hp) = go k from funext (go_ok k)] at h
    exact h
theorem snd (k : Nat) : Snd Tryz.prog cfg k ct := fn_snd (X := X) cfgOk mixed ok (np := 0) (vps := []) (vws := []) (decA := decA) (encA := encA) (decB := decB) (encB := encB) (encK := encK) (fun _ b _ => rfl)
  (by
    intro xs H a h
    unfold decA at h
    split at h
    · cases h; exact ⟨rfl, rfl, rfl, rfl⟩
    · cases h)
  (by
    intro v H b h
    unfold decB at h
    split at h
    · cases h; exact ⟨rfl, fun _ _ _ h => (by cases h), rfl⟩
    · cases h)
  rfl k (fun k' _ => AllS.mem (l := X) ⟨bits_Div64.snd k', trivial⟩) (fun a => run_ok k a)
end limb_digit

/-! cavil/limb.Text -/
namespace limb_Text
inductive St where
  | l1 (x0 : Bool) (x1 : List Int) (x2 : List UInt8) (x3 : List Int)
  | l2 (x0 : Bool) (x1 : List Int) (x2 : List UInt8) (x3 : List Int) (x4 : Bool)
def St.lab : St → Nat
  | .l1 _ _ _ _ => 1
  | .l2 _ _ _ _ _ => 2
def St.fr : St → Fr
  | .l1 x0 x1 x2 x3 => [(1, .ptr 0 1 []), (3, .slice 1 1 .all), (4, .ptr 2 1 [])]
  | .l2 x0 x1 x2 x3 x4 => [(1, .ptr 0 1 []), (3, .slice 1 1 .all), (4, .ptr 2 1 []), (17, .bool x4)]
def St.hp : St → Heap
  | .l1 x0 x1 x2 x3 => [.var 0 35 (.agg (.pair (.bool x0) (.pair (.arr 8 (.int .u64 x1)) .nil))), .row 0 1 true 5 (.u8 x2), .var 0 33 (.arr 8 (.int .u64 x3))]
  | .l2 x0 x1 x2 x3 x4 => [.var 0 35 (.agg (.pair (.bool x0) (.pair (.arr 8 (.int .u64 x1)) .nil))), .row 0 1 true 5 (.u8 x2), .var 0 33 (.arr 8 (.int .u64 x3))]
def b0 (k : Nat) (J : St → Option ((List UInt8))) (x0 : Bool) (x1 : List Int) : Option ((List UInt8)) :=
  bindO (limb_Canon.m k x0 x1) fun r1 =>
    J (.l1 r1.1 r1.2 [] r1.2)
def b1 (k : Nat) (J : St → Option ((List UInt8))) (x0 : Bool) (x1 : List Int) (x2 : List UInt8) (x3 : List Int) : Option ((List UInt8)) :=
  bif (!(x3 == ([0, 0, 0, 0, 0, 0, 0, 0] : List Int))) then
    J (.l2 x0 x1 x2 x3 true)
  else
    J (.l2 x0 x1 x2 x3 ((x2.length : Int) == 0))
def b2 (k : Nat) (J : St → Option ((List UInt8))) (x0 : Bool) (x1 : List Int) (x2 : List UInt8) (x3 : List Int) (x4 : Bool) : Option ((List UInt8)) :=
  bif x4 then
    bindO (limb_digit.m k x3) fun r1 =>
      gk (room (x2 ++ ([toU8 (wr .u8 (48 + r1.2))] : List UInt8)).length)
        (J (.l1 x0 x1 (x2 ++ ([toU8 (wr .u8 (48 + r1.2))] : List UInt8)) r1.1))
  else
    bif x0 then
      gk (room (x2 ++ ([45] : List UInt8)).length)
        (bindO (slices_Reverse_byte_byte.m k (x2 ++ ([45] : List UInt8))) fun r2 =>
          some r2)
    else
      bindO (slices_Reverse_byte_byte.m k x2) fun r3 =>
        some r3
def go : Nat → St → Option ((List UInt8))
  | 0, _ => none
  | k + 1, .l1 x0 x1 x2 x3 => b1 k (go k) x0 x1 x2 x3
  | k + 1, .l2 x0 x1 x2 x3 x4 => b2 k (go k) x0 x1 x2 x3 x4
def m : Nat → Bool → List Int → Option ((List UInt8))
  | 0, _, _ => none
  | k + 1, x0, x1 => b0 k (go k) x0 x1
def anns : Anns := [(5, 1, [(1, 0, false), (3, 22, false), (4, 0, false)]), (7, 2, [(1, 0, false), (3, 22, false), (4, 0, false), (17, 4, false)])]
noncomputable def code : ACode := codeOf Tryz.f19 anns
def rs : List ResultVar := [.tmp 2]
def decA : List AVal → Heap → Option (Bool × (List Int))
  | [.agg (.pair (.bool x0) (.pair (.arr 8 (.int .u64 x1)) .nil))], [] => some (x0, x1)
  | _, _ => none
def encA (a : Bool × (List Int)) : List AVal × Heap := ([.agg (.pair (.bool a.1) (.pair (.arr 8 (.int .u64 a.2)) .nil))], [])
def decB : AVal → Heap → Option ((List UInt8))
  | .str y0, [] => some y0
  | _, _ => none
def encB (b : (List UInt8)) : Out := (.str b, [], [])
def encK : EncK ((List UInt8)) := fun _ b K => K (encB b)
def X : List Ct := [limb_Canon.ct, limb_digit.ct, slices_Reverse_byte_byte.ct]
def ct : Ct := ⟨19, callRun cfg.tt [(35, false)] decA (fun k a => m k a.1 a.2) false encK⟩
theorem ok : FnOk Tryz.prog cfg 19 38 code rs := .of Tryz.func19 (by kernel_rfl) rfl rfl (by kernel_rfl) (by kernel_rfl) rfl
abbrev kend : KK ((List UInt8)) := kEnd cfg.tt rs (kFin cfg.tt 0 false [9] [] [] decB)
noncomputable abbrev rn := run cfg X 38 0 code kend
theorem s0 (k : Nat) (J : Nat → Fr → Heap → Option ((List UInt8))) (x0 : Bool) (x1 : List Int) : stepJ cfg X 38 0 code kend k J 0 (argFr 0 (encA (x0, x1)).1) (encA (x0, x1)).2 = b0 k (fun s => J s.lab s.fr s.hp) x0 x1 := by kernel_rfl
theorem s1 (k : Nat) (J : Nat → Fr → Heap → Option ((List UInt8))) (x0 : Bool) (x1 : List Int) (x2 : List UInt8) (x3 : List Int) : stepJ cfg X 38 0 code kend k J (St.l1 x0 x1 x2 x3).lab (St.l1 x0 x1 x2 x3).fr (St.l1 x0 x1 x2 x3).hp = b1 k (fun s => J s.lab s.fr s.hp) x0 x1 x2 x3 := by kernel_rfl
theorem s2 (k : Nat) (J : Nat → Fr → Heap → Option ((List UInt8))) (x0 : Bool) (x1 : List Int) (x2 : List UInt8) (x3 : List Int) (x4 : Bool) : stepJ cfg X 38 0 code kend k J (St.l2 x0 x1 x2 x3 x4).lab (St.l2 x0 x1 x2 x3 x4).fr (St.l2 x0 x1 x2 x3 x4).hp = b2 k (fun s => J s.lab s.fr s.hp) x0 x1 x2 x3 x4 := by kernel_rfl
theorem go_ok : ∀ (k : Nat) (s : St), rn k s.lab s.fr s.hp = go k s
  | 0, _ => rfl
  | k + 1, .l1 x0 x1 x2 x3 => by
    have h := s1 k (rn k) x0 x1 x2 x3
    rw [show (fun s : St => rn k s.lab s.fr s.hp) = go k from funext (go_ok k)] at h
    exact h
  | k + 1, .l2 x0 x1 x2 x3 x4 => by
    have h := s2 k (rn k) x0 x1 x2 x3 x4
    rw [show (fun s : St => rn k s.lab s.fr s.hp) = go k from funext (go_ok k)] at h
    exact h
theorem run_ok : ∀ (k : Nat) (a : Bool × (List Int)), rn k 0 (argFr 0 (encA a).1) (encA a).2 = m k a.1 a.2
  | 0, _ => rfl
  | k + 1, (x0, x1) => by
    have h := s0 k (rn k) x0 x1
    rw [show (fun s : St => rn k s.lab s.fr s.hp) = go k from funext (go_ok k)] at h
    exact h
theorem snd (k : Nat) : Snd Tryz.prog cfg k ct := fn_snd (X := X) cfgOk mixed ok (np := 0) (vps := []) (vws := []) (decA := decA) (encA := encA) (decB := decB) (encB := encB) (encK := encK) (fun _ b _ => rfl)
  (by
    intro xs H a h
    unfold decA at h
    split at h
    · cases h; exact ⟨rfl, rfl, rfl, rfl⟩
    · cases h)
  (by
    intro v H b h
    unfold decB at h
    split at h
    · cases h; exact ⟨rfl, fun _ _ _ h => (by cases h), rfl⟩
    · cases h)
  rfl k (fun k' _ => AllS.mem (l := X) ⟨limb_Canon.snd k', limb_digit.snd k', slices_Reverse_byte_byte.snd k', trivial⟩) (fun a => run_ok k a)
end limb_Text

/-! cavil/limb.value -/
namespace limb_value
inductive St where
  | l1 (x0 : Int) (x1 : Bool)
  | l2 (x0 : Int) (x1 : Bool)
def St.lab : St → Nat
  | .l1 _ _ => 1
  | .l2 _ _ => 2
def St.fr : St → Fr
  | .l1 x0 x1 => [(0, .int .u8 x0), (3, .bool x1)]
  | .l2 x0 x1 => [(0, .int .u8 x0), (13, .bool x1)]
def St.hp : St → Heap
  | .l1 x0 x1 => []
  | .l2 x0 x1 => []
def b0 (k : Nat) (J : St → Option (Int)) (x0 : Int) : Option (Int) :=
  bif (decide (x0 ≥ 48)) then
    J (.l1 x0 (decide (x0 ≤ 57)))
  else
    J (.l1 x0 false)
def b1 (k : Nat) (J : St → Option (Int)) (x0 : Int) (x1 : Bool) : Option (Int) :=
  bif x1 then
    some (wr .i64 (wr .u8 (x0 - 48)))
  else
    bif (decide (x0 ≥ 97)) then
      J (.l2 x0 (decide (x0 ≤ 102)))
    else
      J (.l2 x0 false)
def b2 (k : Nat) (J : St → Option (Int)) (x0 : Int) (x1 : Bool) : Option (Int) :=
  bif x1 then
    some (wr .i64 ((wr .i64 (wr .u8 (x0 - 97))) + 10))
  else
    bif (decide (x0 ≥ 65)) then
      bif (decide (x0 ≤ 70)) then
        some (wr .i64 ((wr .i64 (wr .u8 (x0 - 65))) + 10))
      else
        some 99
    else
      some 99
def go : Nat → St → Option (Int)
  | 0, _ => none
  | k + 1, .l1 x0 x1 => b1 k (go k) x0 x1
  | k + 1, .l2 x0 x1 => b2 k (go k) x0 x1
def m : Nat → Int → Option (Int)
  | 0, _ => none
  | k + 1, x0 => b0 k (go k) x0
def anns : Anns := [(2, 1, [(0, 5, false), (3, 4, false)]), (4, 2, [(0, 5, false), (13, 4, false)])]
noncomputable def code : ACode := codeOf Tryz.f59 anns
def rs : List ResultVar := [.tmp 2]
def decA : List AVal → Heap → Option (Int)
  | [.int .u8 x0], [] => some x0
  | _, _ => none
def encA (a : Int) : List AVal × Heap := ([.int .u8 a], [])
def decB : AVal → Heap → Option (Int)
  | .int .i64 y0, [] => some y0
  | _, _ => none
def encB (b : Int) : Out := (.int .i64 b, [], [])
def encK : EncK (Int) := fun _ b K => K (encB b)
def X : List Ct := []
def ct : Ct := ⟨59, callRun cfg.tt [(5, false)] decA (fun k a => m k a) false encK⟩
theorem ok : FnOk Tryz.prog cfg 59 35 code rs := .of Tryz.func59 (by kernel_rfl) rfl rfl (by kernel_rfl) (by kernel_rfl) rfl
abbrev kend : KK (Int) := kEnd cfg.tt rs (kFin cfg.tt 0 false [3] [] [] decB)
noncomputable abbrev rn := run cfg X 35 0 code kend
theorem s0 (k : Nat) (J : Nat → Fr → Heap → Option (Int)) (x0 : Int) : stepJ cfg X 35 0 code kend k J 0 (argFr 0 (encA x0).1) (encA x0).2 = b0 k (fun s => J s.lab s.fr s.hp) x0 := by kernel_rfl
theorem s1 (k : Nat) (J : Nat → Fr → Heap → Option (Int)) (x0 : Int) (x1 : Bool) : stepJ cfg X 35 0 code kend k J (St.l1 x0 x1).lab (St.l1 x0 x1).fr (St.l1 x0 x1).hp = b1 k (fun s => J s.lab s.fr s.hp) x0 x1 := by kernel_rfl
theorem s2 (k : Nat) (J : Nat → Fr → Heap → Option (Int)) (x0 : Int) (x1 : Bool) : stepJ cfg X 35 0 code kend k J (St.l2 x0 x1).lab (St.l2 x0 x1).fr (St.l2 x0 x1).hp = b2 k (fun s => J s.lab s.fr s.hp) x0 x1 := by kernel_rfl
theorem go_ok : ∀ (k : Nat) (s : St), rn k s.lab s.fr s.hp = go k s
  | 0, _ => rfl
  | k + 1, .l1 x0 x1 => by
    have h := s1 k (rn k) x0 x1
    rw [show (fun s : St => rn k s.lab s.fr s.hp) = go k from funext (go_ok k)] at h
    exact h
  | k + 1, .l2 x0 x1 => by
    have h := s2 k (rn k) x0 x1
    rw [show (fun s : St => rn k s.lab s.fr s.hp) = go k from funext (go_ok k)] at h
    exact h
theorem run_ok : ∀ (k : Nat) (a : Int), rn k 0 (argFr 0 (encA a).1) (encA a).2 = m k a
  | 0, _ => rfl
  | k + 1, x0 => by
    have h := s0 k (rn k) x0
    rw [show (fun s : St => rn k s.lab s.fr s.hp) = go k from funext (go_ok k)] at h
    exact h
theorem snd (k : Nat) : Snd Tryz.prog cfg k ct := fn_snd (X := X) cfgOk mixed ok (np := 0) (vps := []) (vws := []) (decA := decA) (encA := encA) (decB := decB) (encB := encB) (encK := encK) (fun _ b _ => rfl)
  (by
    intro xs H a h
    unfold decA at h
    split at h
    · cases h; exact ⟨rfl, rfl, rfl, rfl⟩
    · cases h)
  (by
    intro v H b h
    unfold decB at h
    split at h
    · cases h; exact ⟨rfl, fun _ _ _ h => (by cases h), rfl⟩
    · cases h)
  rfl k (fun k' _ => AllS.mem (l := X) trivial) (fun a => run_ok k a)
end limb_value

/-! cavil/limb.Parse -/
namespace limb_Parse
inductive St where
  | l1 (x0 : Bool) (x1 : List Int) (x2 : List UInt8) (x3 : Int) (x4 : Bool)
  | l2 (x0 : Bool) (x1 : List Int) (x2 : List UInt8) (x3 : List UInt8) (x4 : Int) (x5 : Int) (x6 : Int)
  | l3 (x0 : Bool) (x1 : List Int) (x2 : Bool) (x3 : List Int) (x4 : List UInt8) (x5 : Int) (x6 : Int) (x7 : Int)
  | l4 (x0 : Bool) (x1 : List Int) (x2 : Bool) (x3 : List Int) (x4 : Bool) (x5 : List Int) (x6 : List UInt8) (x7 : Int) (x8 : Er) (x9 : Int) (x10 : Int)
def St.lab : St → Nat
  | .l1 _ _ _ _ _ => 1
  | .l2 _ _ _ _ _ _ _ => 2
  | .l3 _ _ _ _ _ _ _ _ => 3
  | .l4 _ _ _ _ _ _ _ _ _ _ _ => 4
def St.fr : St → Fr
  | .l1 x0 x1 x2 x3 x4 => [(0, .str x2), (1, .int .i64 x3), (4, .ptr 0 1 []), (13, .bool x4)]
  | .l2 x0 x1 x2 x3 x4 x5 x6 => [(0, .str x3), (1, .int .i64 x4), (4, .ptr 0 1 []), (36, .slice 1 1 .all), (37, .int .i64 x5), (38, .int .i64 x6)]
  | .l3 x0 x1 x2 x3 x4 x5 x6 x7 => [(1, .int .i64 x5), (4, .ptr 0 1 []), (8, .ptr 1 1 []), (50, .slice 2 1 .all), (51, .int .i64 x6), (52, .int .i64 x7)]
  | .l4 x0 x1 x2 x3 x4 x5 x6 x7 x8 x9 x10 => [(1, .int .i64 x7), (4, .ptr 0 1 []), (8, .ptr 1 1 []), (11, .ptr 2 1 []), (12, .err x8), (50, .slice 3 1 .all), (51, .int .i64 x9), (52, .int .i64 x10)]
def St.hp : St → Heap
  | .l1 x0 x1 x2 x3 x4 => [.var 0 35 (.agg (.pair (.bool x0) (.pair (.arr 8 (.int .u64 x1)) .nil)))]
  | .l2 x0 x1 x2 x3 x4 x5 x6 => [.var 0 35 (.agg (.pair (.bool x0) (.pair (.arr 8 (.int .u64 x1)) .nil))), .row 0 1 true 5 (.u8 x2)]
  | .l3 x0 x1 x2 x3 x4 x5 x6 x7 => [.var 0 35 (.agg (.pair (.bool x0) (.pair (.arr 8 (.int .u64 x1)) .nil))), .var 0 35 (.agg (.pair (.bool x2) (.pair (.arr 8 (.int .u64 x3)) .nil))), .row 0 1 true 5 (.u8 x4)]
  | .l4 x0 x1 x2 x3 x4 x5 x6 x7 x8 x9 x10 => [.var 0 35 (.agg (.pair (.bool x0) (.pair (.arr 8 (.int .u64 x1)) .nil))), .var 0 35 (.agg (.pair (.bool x2) (.pair (.arr 8 (.int .u64 x3)) .nil))), .var 0 35 (.agg (.pair (.bool x4) (.pair (.arr 8 (.int .u64 x5)) .nil))), .row 0 1 true 5 (.u8 x6)]
def b0 (k : Nat) (J : St → Option (Bool × (List Int) × Er)) (x0 : List UInt8) (x1 : Int) : Option (Bool × (List Int) × Er) :=
  bif (x1 != 2) then
    bif (x1 != 8) then
      bif (x1 != 10) then
        J (.l1 false (List.replicate 8 (0 : Int)) x0 x1 (x1 != 16))
      else
        J (.l1 false (List.replicate 8 (0 : Int)) x0 x1 false)
    else
      J (.l1 false (List.replicate 8 (0 : Int)) x0 x1 false)
  else
    J (.l1 false (List.replicate 8 (0 : Int)) x0 x1 false)
def b1 (k : Nat) (J : St → Option (Bool × (List Int) × Er)) (x0 : Bool) (x1 : List Int) (x2 : List UInt8) (x3 : Int) (x4 : Bool) : Option (Bool × (List Int) × Er) :=
  bif x4 then
    some (false, (List.replicate 8 (0 : Int)), (.no 1))
  else
    bif (x2 == ([] : List UInt8)) then
      some (false, (List.replicate 8 (0 : Int)), (.no 12))
    else
      J (.l2 x0 x1 x2 x2 x3 (x2.length : Int) 0)
def b2 (k : Nat) (J : St → Option (Bool × (List Int) × Er)) (x0 : Bool) (x1 : List Int) (x2 : List UInt8) (x3 : List UInt8) (x4 : Int) (x5 : Int) (x6 : Int) : Option (Bool × (List Int) × Er) :=
  bif (decide (x6 < x5)) then
    gk (inB x6 x2.length)
      (bindO (limb_value.m k ((x2.getD x6.toNat 0).toNat : Int)) fun r1 =>
        bif (decide (r1 ≥ x4)) then
          some (false, (List.replicate 8 (0 : Int)), (.no 13))
        else
          J (.l2 x0 x1 x2 x3 x4 x5 (wr .i64 (x6 + 1))))
  else
    J (.l3 x0 x1 false (List.replicate 8 (0 : Int)) x3 x4 (x3.length : Int) 0)
def b3 (k : Nat) (J : St → Option (Bool × (List Int) × Er)) (x0 : Bool) (x1 : List Int) (x2 : Bool) (x3 : List Int) (x4 : List UInt8) (x5 : Int) (x6 : Int) (x7 : Int) : Option (Bool × (List Int) × Er) :=
  bif (decide (x7 < x6)) then
    gk (inB x7 x4.length)
      (bindO (limb_Of.m k x5) fun r1 =>
        bindO (limb_Mul.m k x2 x3 r1.1 r1.2) fun r2 =>
          bif r2.2.2.isNil then
            bindO (limb_value.m k ((x4.getD x7.toNat 0).toNat : Int)) fun r3 =>
              bindO (limb_Of.m k r3) fun r4 =>
                bindO (limb_Add.m k r2.1 r2.2.1 r4.1 r4.2) fun r5 =>
                  J (.l4 x0 x1 x2 x3 r5.1 r5.2.1 x4 x5 r5.2.2 x6 x7)
          else
            J (.l4 x0 x1 x2 x3 r2.1 r2.2.1 x4 x5 r2.2.2 x6 x7))
  else
    some (x2, x3, .nil)
def b4 (k : Nat) (J : St → Option (Bool × (List Int) × Er)) (x0 : Bool) (x1 : List Int) (x2 : Bool) (x3 : List Int) (x4 : Bool) (x5 : List Int) (x6 : List UInt8) (x7 : Int) (x8 : Er) (x9 : Int) (x10 : Int) : Option (Bool × (List Int) × Er) :=
  bif (!x8.isNil) then
    some (false, (List.replicate 8 (0 : Int)), x8)
  else
    J (.l3 x0 x1 x4 x5 x6 x7 x9 (wr .i64 (x10 + 1)))
def go : Nat → St → Option (Bool × (List Int) × Er)
  | 0, _ => none
  | k + 1, .l1 x0 x1 x2 x3 x4 => b1 k (go k) x0 x1 x2 x3 x4
  | k + 1, .l2 x0 x1 x2 x3 x4 x5 x6 => b2 k (go k) x0 x1 x2 x3 x4 x5 x6
  | k + 1, .l3 x0 x1 x2 x3 x4 x5 x6 x7 => b3 k (go k) x0 x1 x2 x3 x4 x5 x6 x7
  | k + 1, .l4 x0 x1 x2 x3 x4 x5 x6 x7 x8 x9 x10 => b4 k (go k) x0 x1 x2 x3 x4 x5 x6 x7 x8 x9 x10
def m : Nat → List UInt8 → Int → Option (Bool × (List Int) × Er)
  | 0, _, _ => none
  | k + 1, x0, x1 => b0 k (go k) x0 x1
def anns : Anns := [(2, 1, [(0, 9, false), (1, 3, false), (4, 0, false), (13, 4, false)]), (8, 2, [(0, 9, false), (1, 3, false), (4, 0, false), (36, 22, false), (37, 3, false), (38, 3, false)]), (18, 3, [(1, 3, false), (4, 0, false), (8, 0, false), (50, 22, false), (51, 3, false), (52, 3, false)]), (24, 4, [(1, 3, false), (4, 0, false), (8, 0, false), (11, 0, false), (12, 24, false), (50, 22, false), (51, 3, false), (52, 3, false)])]
noncomputable def code : ACode := codeOf Tryz.f32 anns
def rs : List ResultVar := [.cell 4 35, .tmp 5]
def decA : List AVal → Heap → Option ((List UInt8) × Int)
  | [.str x0, .int .i64 x1], [] => some (x0, x1)
  | _, _ => none
def encA (a : (List UInt8) × Int) : List AVal × Heap := ([.str a.1, .int .i64 a.2], [])
def decB : AVal → Heap → Option (Bool × (List Int) × Er)
  | .tup (.pair (.agg (.pair (.bool y0) (.pair (.arr 8 (.int .u64 y1)) .nil))) (.pair (.err y2) .nil)), [] => some (y0, y1, y2)
  | _, _ => none
def encB (b : Bool × (List Int) × Er) : Out := (.tup (.pair (.agg (.pair (.bool b.1) (.pair (.arr 8 (.int .u64 b.2.1)) .nil))) (.pair (.err b.2.2) .nil)), [], [])
def encK : EncK (Bool × (List Int) × Er) := fun _ b K => K (encB b)
def X : List Ct := [limb_value.ct, limb_Of.ct, limb_Mul.ct, limb_Add.ct]
def ct : Ct := ⟨32, callRun cfg.tt [(9, false), (3, false)] decA (fun k a => m k a.1 a.2) false encK⟩
theorem ok : FnOk Tryz.prog cfg 32 80 code rs := .of Tryz.func32 (by kernel_rfl) rfl rfl (by kernel_rfl) (by kernel_rfl) rfl
abbrev kend : KK (Bool × (List Int) × Er) := kEnd cfg.tt rs (kFin cfg.tt 0 false [35, 24] [] [] decB)
noncomputable abbrev rn := run cfg X 80 0 code kend
theorem s0 (k : Nat) (J : Nat → Fr → Heap → Option (Bool × (List Int) × Er)) (x0 : List UInt8) (x1 : Int) : stepJ cfg X 80 0 code kend k J 0 (argFr 0 (encA (x0, x1)).1) (encA (x0, x1)).2 = b0 k (fun s => J s.lab s.fr s.hp) x0 x1 := by kernel_rfl
theorem s1 (k : Nat) (J : Nat → Fr → Heap → Option (Bool × (List Int) × Er)) (x0 : Bool) (x1 : List Int) (x2 : List UInt8) (x3 : Int) (x4 : Bool) : stepJ cfg X 80 0 code kend k J (St.l1 x0 x1 x2 x3 x4).lab (St.l1 x0 x1 x2 x3 x4).fr (St.l1 x0 x1 x2 x3 x4).hp = b1 k (fun s => J s.lab s.fr s.hp) x0 x1 x2 x3 x4 := by kernel_rfl
theorem s2 (k : Nat) (J : Nat → Fr → Heap → Option (Bool × (List Int) × Er)) (x0 : Bool) (x1 : List Int) (x2 : List UInt8) (x3 : List UInt8) (x4 : Int) (x5 : Int) (x6 : Int) : stepJ cfg X 80 0 code kend k J (St.l2 x0 x1 x2 x3 x4 x5 x6).lab (St.l2 x0 x1 x2 x3 x4 x5 x6).fr (St.l2 x0 x1 x2 x3 x4 x5 x6).hp = b2 k (fun s => J s.lab s.fr s.hp) x0 x1 x2 x3 x4 x5 x6 := by kernel_rfl
theorem s3 (k : Nat) (J : Nat → Fr → Heap → Option (Bool × (List Int) × Er)) (x0 : Bool) (x1 : List Int) (x2 : Bool) (x3 : List Int) (x4 : List UInt8) (x5 : Int) (x6 : Int) (x7 : Int) : stepJ cfg X 80 0 code kend k J (St.l3 x0 x1 x2 x3 x4 x5 x6 x7).lab (St.l3 x0 x1 x2 x3 x4 x5 x6 x7).fr (St.l3 x0 x1 x2 x3 x4 x5 x6 x7).hp = b3 k (fun s => J s.lab s.fr s.hp) x0 x1 x2 x3 x4 x5 x6 x7 := by kernel_rfl
theorem s4 (k : Nat) (J : Nat → Fr → Heap → Option (Bool × (List Int) × Er)) (x0 : Bool) (x1 : List Int) (x2 : Bool) (x3 : List Int) (x4 : Bool) (x5 : List Int) (x6 : List UInt8) (x7 : Int) (x8 : Er) (x9 : Int) (x10 : Int) : stepJ cfg X 80 0 code kend k J (St.l4 x0 x1 x2 x3 x4 x5 x6 x7 x8 x9 x10).lab (St.l4 x0 x1 x2 x3 x4 x5 x6 x7 x8 x9 x10).fr (St.l4 x0 x1 x2 x3 x4 x5 x6 x7 x8 x9 x10).hp = b4 k (fun s => J s.lab s.fr s.hp) x0 x1 x2 x3 x4 x5 x6 x7 x8 x9 x10 := by kernel_rfl
theorem go_ok : ∀ (k : Nat) (s : St), rn k s.lab s.fr s.hp = go k s
  | 0, _ => rfl
  | k + 1, .l1 x0 x1 x2 x3 x4 => by
    have h := s1 k (rn k) x0 x1 x2 x3 x4
    rw [show (fun s : St => rn k s.lab s.fr s.hp) = go k from funext (go_ok k)] at h
    exact h
  | k + 1, .l2 x0 x1 x2 x3 x4 x5 x6 => by
    have h := s2 k (rn k) x0 x1 x2 x3 x4 x5 x6
    rw [show (fun s : St => rn k s.lab s.fr s.hp) = go k from funext (go_ok k)] at h
    exact h
  | k + 1, .l3 x0 x1 x2 x3 x4 x5 x6 x7 => by
    have h := s3 k (rn k) x0 x1 x2 x3 x4 x5 x6 x7
    rw [show (fun s : St => rn k s.lab s.fr s.hp) = go k from funext (go_ok k)] at h
    exact h
  | k + 1, .l4 x0 x1 x2 x3 x4 x5 x6 x7 x8 x9 x10 => by
    have h := s4 k (rn k) x0 x1 x2 x3 x4 x5 x6 x7 x8 x9 x10
    rw [show (fun s : St => rn k s.lab s.fr s.hp) = go k from funext (go_ok k)] at h
    exact h
theorem run_ok : ∀ (k : Nat) (a : (List UInt8) × Int), rn k 0 (argFr 0 (encA a).1) (encA a).2 = m k a.1 a.2
  | 0, _ => rfl
  | k + 1, (x0, x1) => by
    have h := s0 k (rn k) x0 x1
    rw [show (fun s : St => rn k s.lab s.fr s.hp) = go k from funext (go_ok k)] at h
    exact h
theorem snd (k : Nat) : Snd Tryz.prog cfg k ct := fn_snd (X := X) cfgOk mixed ok (np := 0) (vps := []) (vws := []) (decA := decA) (encA := encA) (decB := decB) (encB := encB) (encK := encK) (fun _ b _ => rfl)
  (by
    intro xs H a h
    unfold decA at h
    split at h
    · cases h; exact ⟨rfl, rfl, rfl, rfl⟩
    · cases h)
  (by
    intro v H b h
    unfold decB at h
    split at h
    · cases h; exact ⟨rfl, fun _ _ _ h => (by cases h), rfl⟩
    · cases h)
  rfl k (fun k' _ => AllS.mem (l := X) ⟨limb_value.snd k', limb_Of.snd k', limb_Mul.snd k', limb_Add.snd k', trivial⟩) (fun a => run_ok k a)
end limb_Parse

/-! (*cavil/ratio.failed).keep -/
namespace ratio_failed_keep
def b0 (k : Nat) (x0 : Er) (x1 : Bool) (x2 : List Int) (x3 : Er) : Option (Bool × (List Int) × Er) :=
  bif x0.isNil then
    bif (!x3.isNil) then
      some (x1, x2, x3)
    else
      some (x1, x2, x0)
  else
    some (x1, x2, x0)
def m : Nat → Er → Bool → List Int → Er → Option (Bool × (List Int) × Er)
  | 0, _, _, _, _ => none
  | k + 1, x0, x1, x2, x3 => b0 k x0 x1 x2 x3
def anns : Anns := []
noncomputable def code : ACode := codeOf Tryz.f120 anns
def rs : List ResultVar := [.cell 6 35]
def decA : List AVal → Heap → Option (Er × Bool × (List Int) × Er)
  | [.ptr 0 1 [.f 0], .agg (.pair (.bool x1) (.pair (.arr 8 (.int .u64 x2)) .nil)), .err x3], [.var 0 157 (.agg (.pair (.agg (.pair (.err x0) .nil)) .nil))] => some (x0, x1, x2, x3)
  | _, _ => none
def encA (a : Er × Bool × (List Int) × Er) : List AVal × Heap := ([.ptr 0 1 [.f 0], .agg (.pair (.bool a.2.1) (.pair (.arr 8 (.int .u64 a.2.2.1)) .nil)), .err a.2.2.2], [.var 0 157 (.agg (.pair (.agg (.pair (.err a.1) .nil)) .nil))])
def decB : AVal → Heap → Option (Bool × (List Int) × Er)
  | .agg (.pair (.bool y0) (.pair (.arr 8 (.int .u64 y1)) .nil)), [.var 0 157 (.agg (.pair (.agg (.pair (.err y2) .nil)) .nil))] => some (y0, y1, y2)
  | _, _ => none
def encB (b : Bool × (List Int) × Er) : Out := (.agg (.pair (.bool b.1) (.pair (.arr 8 (.int .u64 b.2.1)) .nil)), [(0, 157, .agg (.pair (.agg (.pair (.err b.2.2) .nil)) .nil))], [])
def encK : EncK (Bool × (List Int) × Er) := fun _ b K => K (encB b)
def X : List Ct := []
def ct : Ct := ⟨120, callRun cfg.tt [(0, false), (35, false), (24, false)] decA (fun k a => m k a.1 a.2.1 a.2.2.1 a.2.2.2) false encK⟩
theorem ok : FnOk Tryz.prog cfg 120 21 code rs := .of Tryz.func120 (by kernel_rfl) rfl rfl (by kernel_rfl) (by kernel_rfl) rfl
abbrev kend : KK (Bool × (List Int) × Er) := kEnd cfg.tt rs (kFin cfg.tt 1 false [35] [0] [] decB)
noncomputable abbrev rn := run cfg X 21 1 code kend
theorem s0 (k : Nat) (J : Nat → Fr → Heap → Option (Bool × (List Int) × Er)) (x0 : Er) (x1 : Bool) (x2 : List Int) (x3 : Er) : stepJ cfg X 21 1 code kend k J 0 (argFr 0 (encA (x0, x1, x2, x3)).1) (encA (x0, x1, x2, x3)).2 = b0 k x0 x1 x2 x3 := by kernel_rfl
theorem run_ok : ∀ (k : Nat) (a : Er × Bool × (List Int) × Er), rn k 0 (argFr 0 (encA a).1) (encA a).2 = m k a.1 a.2.1 a.2.2.1 a.2.2.2
  | 0, _ => rfl
  | k + 1, (x0, x1, x2, x3) => by
    have h := s0 k (rn k) x0 x1 x2 x3
    exact h
theorem snd (k : Nat) : Snd Tryz.prog cfg k ct := fn_snd (X := X) cfgOk mixed ok (np := 1) (vps := [0]) (vws := []) (decA := decA) (encA := encA) (decB := decB) (encB := encB) (encK := encK) (fun _ b _ => rfl)
  (by
    intro xs H a h
    unfold decA at h
    split at h
    · cases h; exact ⟨rfl, rfl, rfl, rfl⟩
    · cases h)
  (by
    intro v H b h
    unfold decB at h
    split at h
    · cases h; exact ⟨rfl, (by intro j T u h; simp only [encB, List.mem_cons, List.not_mem_nil, or_false, Prod.mk.injEq] at h; rcases h with h <;> (obtain ⟨rfl, rfl, rfl⟩ := h; rfl)), rfl⟩
    · cases h)
  rfl k (fun k' _ => AllS.mem (l := X) trivial) (fun a => run_ok k a)
end ratio_failed_keep

/-! (*cavil/ratio.sums).mul -/
namespace ratio_sums_mul
def b0 (k : Nat) (x0 : Er) (x1 : Bool) (x2 : List Int) (x3 : Bool) (x4 : List Int) : Option (Bool × (List Int) × Er) :=
  bindO (limb_Mul.m k x1 x2 x3 x4) fun r1 =>
    bindO (ratio_failed_keep.m k x0 r1.1 r1.2.1 r1.2.2) fun r2 =>
      some (r2.1, r2.2.1, r2.2.2)
def m : Nat → Er → Bool → List Int → Bool → List Int → Option (Bool × (List Int) × Er)
  | 0, _, _, _, _, _ => none
  | k + 1, x0, x1, x2, x3, x4 => b0 k x0 x1 x2 x3 x4
def anns : Anns := []
noncomputable def code : ACode := codeOf Tryz.f99 anns
def rs : List ResultVar := [.cell 6 35]
def decA : List AVal → Heap → Option (Er × Bool × (List Int) × Bool × (List Int))
  | [.ptr 0 1 [], .agg (.pair (.bool x1) (.pair (.arr 8 (.int .u64 x2)) .nil)), .agg (.pair (.bool x3) (.pair (.arr 8 (.int .u64 x4)) .nil))], [.var 0 157 (.agg (.pair (.agg (.pair (.err x0) .nil)) .nil))] => some (x0, x1, x2, x3, x4)
  | _, _ => none
def encA (a : Er × Bool × (List Int) × Bool × (List Int)) : List AVal × Heap := ([.ptr 0 1 [], .agg (.pair (.bool a.2.1) (.pair (.arr 8 (.int .u64 a.2.2.1)) .nil)), .agg (.pair (.bool a.2.2.2.1) (.pair (.arr 8 (.int .u64 a.2.2.2.2)) .nil))], [.var 0 157 (.agg (.pair (.agg (.pair (.err a.1) .nil)) .nil))])
def decB : AVal → Heap → Option (Bool × (List Int) × Er)
  | .agg (.pair (.bool y0) (.pair (.arr 8 (.int .u64 y1)) .nil)), [.var 0 157 (.agg (.pair (.agg (.pair (.err y2) .nil)) .nil))] => some (y0, y1, y2)
  | _, _ => none
def encB (b : Bool × (List Int) × Er) : Out := (.agg (.pair (.bool b.1) (.pair (.arr 8 (.int .u64 b.2.1)) .nil)), [(0, 157, .agg (.pair (.agg (.pair (.err b.2.2) .nil)) .nil))], [])
def encK : EncK (Bool × (List Int) × Er) := fun _ b K => K (encB b)
def X : List Ct := [limb_Mul.ct, ratio_failed_keep.ct]
def ct : Ct := ⟨99, callRun cfg.tt [(135, false), (35, false), (35, false)] decA (fun k a => m k a.1 a.2.1 a.2.2.1 a.2.2.2.1 a.2.2.2.2) false encK⟩
theorem ok : FnOk Tryz.prog cfg 99 16 code rs := .of Tryz.func99 (by kernel_rfl) rfl rfl (by kernel_rfl) (by kernel_rfl) rfl
abbrev kend : KK (Bool × (List Int) × Er) := kEnd cfg.tt rs (kFin cfg.tt 1 false [35] [0] [] decB)
noncomputable abbrev rn := run cfg X 16 1 code kend
theorem s0 (k : Nat) (J : Nat → Fr → Heap → Option (Bool × (List Int) × Er)) (x0 : Er) (x1 : Bool) (x2 : List Int) (x3 : Bool) (x4 : List Int) : stepJ cfg X 16 1 code kend k J 0 (argFr 0 (encA (x0, x1, x2, x3, x4)).1) (encA (x0, x1, x2, x3, x4)).2 = b0 k x0 x1 x2 x3 x4 := by kernel_rfl
theorem run_ok : ∀ (k : Nat) (a : Er × Bool × (List Int) × Bool × (List Int)), rn k 0 (argFr 0 (encA a).1) (encA a).2 = m k a.1 a.2.1 a.2.2.1 a.2.2.2.1 a.2.2.2.2
  | 0, _ => rfl
  | k + 1, (x0, x1, x2, x3, x4) => by
    have h := s0 k (rn k) x0 x1 x2 x3 x4
    exact h
theorem snd (k : Nat) : Snd Tryz.prog cfg k ct := fn_snd (X := X) cfgOk mixed ok (np := 1) (vps := [0]) (vws := []) (decA := decA) (encA := encA) (decB := decB) (encB := encB) (encK := encK) (fun _ b _ => rfl)
  (by
    intro xs H a h
    unfold decA at h
    split at h
    · cases h; exact ⟨rfl, rfl, rfl, rfl⟩
    · cases h)
  (by
    intro v H b h
    unfold decB at h
    split at h
    · cases h; exact ⟨rfl, (by intro j T u h; simp only [encB, List.mem_cons, List.not_mem_nil, or_false, Prod.mk.injEq] at h; rcases h with h <;> (obtain ⟨rfl, rfl, rfl⟩ := h; rfl)), rfl⟩
    · cases h)
  rfl k (fun k' _ => AllS.mem (l := X) ⟨limb_Mul.snd k', ratio_failed_keep.snd k', trivial⟩) (fun a => run_ok k a)
end ratio_sums_mul
end Go.Proofs.YtaakccdfgejgpaaGreatDoor
