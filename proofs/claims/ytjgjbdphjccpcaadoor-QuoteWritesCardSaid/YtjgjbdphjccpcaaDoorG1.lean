/-
  Functions of the program as Lean functions with fuel; their contracts. Written by a program of this session.
-/
import Derived.Test.YtjgjbdphjccpcaaDoorGLib
namespace Go.Proofs.YtjgjbdphjccpcaaDoor
open Go Abs
set_option linter.unusedVariables false
set_option maxRecDepth 100000
/-! cavil/quote.simple -/
namespace quote_simple
def b0 (k : Nat) (x0 : Int) (x1 : Int) : Option (Int) :=
  bif (x0 == 97) then
    some 7
  else
    bif (x0 == 98) then
      some 8
    else
      bif (x0 == 102) then
        some 12
      else
        bif (x0 == 110) then
          some 10
        else
          bif (x0 == 114) then
            some 13
          else
            bif (x0 == 116) then
              some 9
            else
              bif (x0 == 118) then
                some 11
              else
                bif (x0 == 92) then
                  bif (x0 == 92) then
                    some x0
                  else
                    some 0
                else
                  bif (x0 == x1) then
                    some x0
                  else
                    some 0
def m : Nat → Int → Int → Option (Int)
  | 0, _, _ => none
  | k + 1, x0, x1 => b0 k x0 x1
def anns : Anns := []
noncomputable def code : ACode := codeOf Tryd.f30 anns
def rs : List ResultVar := [.tmp 4]
def decA : List AVal → Heap → Option (Int × Int)
  | [.int .u8 x0, .int .u8 x1], [] => some (x0, x1)
  | _, _ => none
def encA (a : Int × Int) : List AVal × Heap := ([.int .u8 a.1, .int .u8 a.2], [])
def decB : AVal → Heap → Option (Int)
  | .int .u8 y0, [] => some y0
  | _, _ => none
def encB (b : Int) : Out := (.int .u8 b, [], [])
def X : List Ct := []
def ct : Ct := ⟨30, callRun cfg.tt [(5, false), (5, false)] decA (fun k a => m k a.1 a.2) false encB⟩
theorem ok : FnOk Tryd.prog cfg 30 25 code rs := .of Tryd.func30 (by kernel_rfl) rfl rfl (by kernel_rfl) (by kernel_rfl) rfl
abbrev kend : KK (Int) := kEnd cfg.tt rs (kFin cfg.tt 0 false [5] [] [] decB)
noncomputable abbrev rn := run cfg X 25 0 code kend
theorem s0 (k : Nat) (J : Nat → Fr → Heap → Option (Int)) (x0 : Int) (x1 : Int) : stepJ cfg X 25 0 code kend k J 0 (argFr 0 (encA (x0, x1)).1) (encA (x0, x1)).2 = b0 k x0 x1 := by kernel_rfl
theorem run_ok : ∀ (k : Nat) (a : Int × Int), rn k 0 (argFr 0 (encA a).1) (encA a).2 = m k a.1 a.2
  | 0, _ => rfl
  | k + 1, (x0, x1) => by
    have h := s0 k (rn k) x0 x1
    exact h
theorem snd (k : Nat) : Snd Tryd.prog cfg k ct := fn_snd (X := X) cfgOk mixed ok (np := 0) (vps := []) (vws := []) (decA := decA) (encA := encA) (decB := decB) (encB := encB)
  (by
    intro xs H a h
    unfold decA at h
    split at h
    · cases h; exact ⟨rfl, rfl, rfl, rfl⟩
    · cases h)
  (by
    intro v H b h
    unfold decB at h
    split at h
    · cases h; exact ⟨rfl, fun _ _ _ h => (by cases h), rfl⟩
    · cases h)
  rfl k (fun k' _ => AllS.mem (l := X) trivial) (fun a => run_ok k a)
end quote_simple

/-! cavil/utf.lead -/
namespace utf_lead
inductive St where
  | l1 (x0 : Int) (x1 : Bool)
  | l2 (x0 : Int) (x1 : Bool)
def St.lab : St → Nat
  | .l1 _ _ => 1
  | .l2 _ _ => 2
def St.fr : St → Fr
  | .l1 x0 x1 => [(0, .int .u8 x0), (9, .bool x1)]
  | .l2 x0 x1 => [(0, .int .u8 x0), (19, .bool x1)]
def St.hp : St → Heap
  | .l1 x0 x1 => []
  | .l2 x0 x1 => []
def b0 (k : Nat) (J : St → Option (Int × Int)) (x0 : Int) : Option (Int × Int) :=
  bif (decide (x0 < 128)) then
    some (1, (wr .i32 x0))
  else
    bif (decide (x0 ≥ 192)) then
      J (.l1 x0 (decide (x0 < 224)))
    else
      J (.l1 x0 false)
def b1 (k : Nat) (J : St → Option (Int × Int)) (x0 : Int) (x1 : Bool) : Option (Int × Int) :=
  bif x1 then
    some (2, (wr .i32 (Go.bits .and .u8 x0 31)))
  else
    bif (decide (x0 ≥ 224)) then
      J (.l2 x0 (decide (x0 < 240)))
    else
      J (.l2 x0 false)
def b2 (k : Nat) (J : St → Option (Int × Int)) (x0 : Int) (x1 : Bool) : Option (Int × Int) :=
  bif x1 then
    some (3, (wr .i32 (Go.bits .and .u8 x0 15)))
  else
    bif (decide (x0 ≥ 240)) then
      bif (decide (x0 < 248)) then
        some (4, (wr .i32 (Go.bits .and .u8 x0 7)))
      else
        some (0, 0)
    else
      some (0, 0)
def go : Nat → St → Option (Int × Int)
  | 0, _ => none
  | k + 1, .l1 x0 x1 => b1 k (go k) x0 x1
  | k + 1, .l2 x0 x1 => b2 k (go k) x0 x1
def m : Nat → Int → Option (Int × Int)
  | 0, _ => none
  | k + 1, x0 => b0 k (go k) x0
def anns : Anns := [(4, 1, [(0, 5, false), (9, 4, false)]), (6, 2, [(0, 5, false), (19, 4, false)])]
noncomputable def code : ACode := codeOf Tryd.f34 anns
def rs : List ResultVar := [.tmp 2, .tmp 3]
def decA : List AVal → Heap → Option (Int)
  | [.int .u8 x0], [] => some x0
  | _, _ => none
def encA (a : Int) : List AVal × Heap := ([.int .u8 a], [])
def decB : AVal → Heap → Option (Int × Int)
  | .tup (.pair (.int .i64 y0) (.pair (.int .i32 y1) .nil)), [] => some (y0, y1)
  | _, _ => none
def encB (b : Int × Int) : Out := (.tup (.pair (.int .i64 b.1) (.pair (.int .i32 b.2) .nil)), [], [])
def X : List Ct := []
def ct : Ct := ⟨34, callRun cfg.tt [(5, false)] decA (fun k a => m k a) false encB⟩
theorem ok : FnOk Tryd.prog cfg 34 39 code rs := .of Tryd.func34 (by kernel_rfl) rfl rfl (by kernel_rfl) (by kernel_rfl) rfl
abbrev kend : KK (Int × Int) := kEnd cfg.tt rs (kFin cfg.tt 0 false [3, 21] [] [] decB)
noncomputable abbrev rn := run cfg X 39 0 code kend
theorem s0 (k : Nat) (J : Nat → Fr → Heap → Option (Int × Int)) (x0 : Int) : stepJ cfg X 39 0 code kend k J 0 (argFr 0 (encA x0).1) (encA x0).2 = b0 k (fun s => J s.lab s.fr s.hp) x0 := by kernel_rfl
theorem s1 (k : Nat) (J : Nat → Fr → Heap → Option (Int × Int)) (x0 : Int) (x1 : Bool) : stepJ cfg X 39 0 code kend k J (St.l1 x0 x1).lab (St.l1 x0 x1).fr (St.l1 x0 x1).hp = b1 k (fun s => J s.lab s.fr s.hp) x0 x1 := by kernel_rfl
theorem s2 (k : Nat) (J : Nat → Fr → Heap → Option (Int × Int)) (x0 : Int) (x1 : Bool) : stepJ cfg X 39 0 code kend k J (St.l2 x0 x1).lab (St.l2 x0 x1).fr (St.l2 x0 x1).hp = b2 k (fun s => J s.lab s.fr s.hp) x0 x1 := by kernel_rfl
theorem go_ok : ∀ (k : Nat) (s : St), rn k s.lab s.fr s.hp = go k s
  | 0, _ => rfl
  | k + 1, .l1 x0 x1 => by
    have h := s1 k (rn k) x0 x1
    rw [show (fun s : St => rn k s.lab s.fr s.hp) = go k from funext (go_ok k)] at h
    exact h
  | k + 1, .l2 x0 x1 => by
    have h := s2 k (rn k) x0 x1
    rw [show (fun s : St => rn k s.lab s.fr s.hp) = go k from funext (go_ok k)] at h
    exact h
theorem run_ok : ∀ (k : Nat) (a : Int), rn k 0 (argFr 0 (encA a).1) (encA a).2 = m k a
  | 0, _ => rfl
  | k + 1, x0 => by
    have h := s0 k (rn k) x0
    rw [show (fun s : St => rn k s.lab s.fr s.hp) = go k from funext (go_ok k)] at h
    exact h
theorem snd (k : Nat) : Snd Tryd.prog cfg k ct := fn_snd (X := X) cfgOk mixed ok (np := 0) (vps := []) (vws := []) (decA := decA) (encA := encA) (decB := decB) (encB := encB)
  (by
    intro xs H a h
    unfold decA at h
    split at h
    · cases h; exact ⟨rfl, rfl, rfl, rfl⟩
    · cases h)
  (by
    intro v H b h
    unfold decB at h
    split at h
    · cases h; exact ⟨rfl, fun _ _ _ h => (by cases h), rfl⟩
    · cases h)
  rfl k (fun k' _ => AllS.mem (l := X) trivial) (fun a => run_ok k a)
end utf_lead

/-! cavil/utf.least -/
namespace utf_least
def b0 (k : Nat) (x0 : Int) : Option (Int) :=
  bif (x0 == 2) then
    some 128
  else
    bif (x0 == 3) then
      some 2048
    else
      bif (x0 == 4) then
        some 65536
      else
        some 0
def m : Nat → Int → Option (Int)
  | 0, _ => none
  | k + 1, x0 => b0 k x0
def anns : Anns := []
noncomputable def code : ACode := codeOf Tryd.f36 anns
def rs : List ResultVar := [.tmp 2]
def decA : List AVal → Heap → Option (Int)
  | [.int .i64 x0], [] => some x0
  | _, _ => none
def encA (a : Int) : List AVal × Heap := ([.int .i64 a], [])
def decB : AVal → Heap → Option (Int)
  | .int .i32 y0, [] => some y0
  | _, _ => none
def encB (b : Int) : Out := (.int .i32 b, [], [])
def X : List Ct := []
def ct : Ct := ⟨36, callRun cfg.tt [(3, false)] decA (fun k a => m k a) false encB⟩
theorem ok : FnOk Tryd.prog cfg 36 10 code rs := .of Tryd.func36 (by kernel_rfl) rfl rfl (by kernel_rfl) (by kernel_rfl) rfl
abbrev kend : KK (Int) := kEnd cfg.tt rs (kFin cfg.tt 0 false [21] [] [] decB)
noncomputable abbrev rn := run cfg X 10 0 code kend
theorem s0 (k : Nat) (J : Nat → Fr → Heap → Option (Int)) (x0 : Int) : stepJ cfg X 10 0 code kend k J 0 (argFr 0 (encA x0).1) (encA x0).2 = b0 k x0 := by kernel_rfl
theorem run_ok : ∀ (k : Nat) (a : Int), rn k 0 (argFr 0 (encA a).1) (encA a).2 = m k a
  | 0, _ => rfl
  | k + 1, x0 => by
    have h := s0 k (rn k) x0
    exact h
theorem snd (k : Nat) : Snd Tryd.prog cfg k ct := fn_snd (X := X) cfgOk mixed ok (np := 0) (vps := []) (vws := []) (decA := decA) (encA := encA) (decB := decB) (encB := encB)
  (by
    intro xs H a h
    unfold decA at h
    split at h
    · cases h; exact ⟨rfl, rfl, rfl, rfl⟩
    · cases h)
  (by
    intro v H b h
    unfold decB at h
    split at h
    · cases h; exact ⟨rfl, fun _ _ _ h => (by cases h), rfl⟩
    · cases h)
  rfl k (fun k' _ => AllS.mem (l := X) trivial) (fun a => run_ok k a)
end utf_least

/-! cavil/utf.valid -/
namespace utf_valid
def b0 (k : Nat) (x0 : Int) : Option (Bool) :=
  bif (decide (x0 ≥ 0)) then
    bif (decide (x0 ≤ 1114111)) then
      bif (decide (x0 < 55296)) then
        some true
      else
        some (decide (x0 > 57343))
    else
      some false
  else
    some false
def m : Nat → Int → Option (Bool)
  | 0, _ => none
  | k + 1, x0 => b0 k x0
def anns : Anns := []
noncomputable def code : ACode := codeOf Tryd.f35 anns
def rs : List ResultVar := [.tmp 2]
def decA : List AVal → Heap → Option (Int)
  | [.int .i32 x0], [] => some x0
  | _, _ => none
def encA (a : Int) : List AVal × Heap := ([.int .i32 a], [])
def decB : AVal → Heap → Option (Bool)
  | .bool y0, [] => some y0
  | _, _ => none
def encB (b : Bool) : Out := (.bool b, [], [])
def X : List Ct := []
def ct : Ct := ⟨35, callRun cfg.tt [(21, false)] decA (fun k a => m k a) false encB⟩
theorem ok : FnOk Tryd.prog cfg 35 17 code rs := .of Tryd.func35 (by kernel_rfl) rfl rfl (by kernel_rfl) (by kernel_rfl) rfl
abbrev kend : KK (Bool) := kEnd cfg.tt rs (kFin cfg.tt 0 false [4] [] [] decB)
noncomputable abbrev rn := run cfg X 17 0 code kend
theorem s0 (k : Nat) (J : Nat → Fr → Heap → Option (Bool)) (x0 : Int) : stepJ cfg X 17 0 code kend k J 0 (argFr 0 (encA x0).1) (encA x0).2 = b0 k x0 := by kernel_rfl
theorem run_ok : ∀ (k : Nat) (a : Int), rn k 0 (argFr 0 (encA a).1) (encA a).2 = m k a
  | 0, _ => rfl
  | k + 1, x0 => by
    have h := s0 k (rn k) x0
    exact h
theorem snd (k : Nat) : Snd Tryd.prog cfg k ct := fn_snd (X := X) cfgOk mixed ok (np := 0) (vps := []) (vws := []) (decA := decA) (encA := encA) (decB := decB) (encB := encB)
  (by
    intro xs H a h
    unfold decA at h
    split at h
    · cases h; exact ⟨rfl, rfl, rfl, rfl⟩
    · cases h)
  (by
    intro v H b h
    unfold decB at h
    split at h
    · cases h; exact ⟨rfl, fun _ _ _ h => (by cases h), rfl⟩
    · cases h)
  rfl k (fun k' _ => AllS.mem (l := X) trivial) (fun a => run_ok k a)
end utf_valid

/-! cavil/utf.Decode -/
namespace utf_Decode
inductive St where
  | l1 (x0 : List UInt8) (x1 : Int) (x2 : Bool)
  | l2 (x0 : List UInt8) (x1 : Int) (x2 : Int) (x3 : Int) (x4 : Bool)
  | l3 (x0 : List UInt8) (x1 : List UInt8) (x2 : Int) (x3 : Int) (x4 : Int) (x5 : Int)
def St.lab : St → Nat
  | .l1 _ _ _ => 1
  | .l2 _ _ _ _ _ => 2
  | .l3 _ _ _ _ _ _ => 3
def St.fr : St → Fr
  | .l1 x0 x1 x2 => [(0, .slice 0 1 .all), (1, .int .i64 x1), (16, .bool x2)]
  | .l2 x0 x1 x2 x3 x4 => [(0, .slice 0 1 .all), (1, .int .i64 x1), (4, .int .i32 x2), (5, .int .i64 x3), (35, .bool x4)]
  | .l3 x0 x1 x2 x3 x4 x5 => [(4, .int .i32 x2), (5, .int .i64 x3), (43, .slice 1 1 .all), (44, .int .i64 x4), (45, .int .i64 x5)]
def St.hp : St → Heap
  | .l1 x0 x1 x2 => [.row 0 1 false 5 (.u8 x0)]
  | .l2 x0 x1 x2 x3 x4 => [.row 0 1 false 5 (.u8 x0)]
  | .l3 x0 x1 x2 x3 x4 x5 => [.row 0 1 false 5 (.u8 x0), .row 0 1 false 5 (.u8 x1)]
def b0 (k : Nat) (J : St → Option (Int × Int × Er)) (x0 : List UInt8) (x1 : Int) : Option (Int × Int × Er) :=
  bif (decide (x1 < 0)) then
    J (.l1 x0 x1 true)
  else
    J (.l1 x0 x1 (decide (x1 ≥ (x0.length : Int))))
def b1 (k : Nat) (J : St → Option (Int × Int × Er)) (x0 : List UInt8) (x1 : Int) (x2 : Bool) : Option (Int × Int × Er) :=
  bif x2 then
    some (0, 0, (.no 4))
  else
    gk (inB x1 x0.length)
      (bindO (utf_lead.m k ((x0.getD x1.toNat 0).toNat : Int)) fun r1 =>
        bif (r1.1 == 0) then
          J (.l2 x0 x1 r1.2 r1.1 true)
        else
          J (.l2 x0 x1 r1.2 r1.1 (decide ((wr .i64 ((x0.length : Int) - x1)) < r1.1))))
def b2 (k : Nat) (J : St → Option (Int × Int × Er)) (x0 : List UInt8) (x1 : Int) (x2 : Int) (x3 : Int) (x4 : Bool) : Option (Int × Int × Er) :=
  bif x4 then
    some (0, 0, (.no 3))
  else
    gk (cutB (wr .i64 (x1 + 1)) (wr .i64 (x1 + x3)) x0.length)
      (J (.l3 x0 (cut x0 (wr .i64 (x1 + 1)) (wr .i64 (x1 + x3))) x2 x3 ((cut x0 (wr .i64 (x1 + 1)) (wr .i64 (x1 + x3))).length : Int) 0))
def b3 (k : Nat) (J : St → Option (Int × Int × Er)) (x0 : List UInt8) (x1 : List UInt8) (x2 : Int) (x3 : Int) (x4 : Int) (x5 : Int) : Option (Int × Int × Er) :=
  bif (decide (x5 < x4)) then
    gk (inB x5 x1.length)
      (bif ((Go.bits .and .u8 ((x1.getD x5.toNat 0).toNat : Int) 192) != 128) then
        some (0, 0, (.no 3))
      else
        J (.l3 x0 x1 (Go.bits .or .i32 (shlI .i32 x2 6) (wr .i32 (Go.bits .and .u8 ((x1.getD x5.toNat 0).toNat : Int) 63))) x3 x4 (wr .i64 (x5 + 1))))
  else
    bindO (utf_valid.m k x2) fun r1 =>
      bif (!r1) then
        some (0, 0, (.no 3))
      else
        bindO (utf_least.m k x3) fun r2 =>
          bif (decide (x2 < r2)) then
            some (0, 0, (.no 3))
          else
            some (x2, x3, .nil)
def go : Nat → St → Option (Int × Int × Er)
  | 0, _ => none
  | k + 1, .l1 x0 x1 x2 => b1 k (go k) x0 x1 x2
  | k + 1, .l2 x0 x1 x2 x3 x4 => b2 k (go k) x0 x1 x2 x3 x4
  | k + 1, .l3 x0 x1 x2 x3 x4 x5 => b3 k (go k) x0 x1 x2 x3 x4 x5
def m : Nat → List UInt8 → Int → Option (Int × Int × Er)
  | 0, _, _ => none
  | k + 1, x0, x1 => b0 k (go k) x0 x1
def anns : Anns := [(2, 1, [(0, 35, false), (1, 3, false), (16, 4, false)]), (6, 2, [(0, 35, false), (1, 3, false), (4, 21, false), (5, 3, false), (35, 4, false)]), (10, 3, [(4, 21, false), (5, 3, false), (43, 35, false), (44, 3, false), (45, 3, false)])]
noncomputable def code : ACode := codeOf Tryd.f19 anns
def rs : List ResultVar := [.tmp 4, .tmp 5, .tmp 6]
def decA : List AVal → Heap → Option ((List UInt8) × Int)
  | [.slice 0 1 .all, .int .i64 x1], [.row 0 1 false 5 (.u8 x0)] => some (x0, x1)
  | _, _ => none
def encA (a : (List UInt8) × Int) : List AVal × Heap := ([.slice 0 1 .all, .int .i64 a.2], [.row 0 1 false 5 (.u8 a.1)])
def decB : AVal → Heap → Option (Int × Int × Er)
  | .tup (.pair (.int .i32 y0) (.pair (.int .i64 y1) (.pair (.err y2) .nil))), [_] => some (y0, y1, y2)
  | _, _ => none
def encB (b : Int × Int × Er) : Out := (.tup (.pair (.int .i32 b.1) (.pair (.int .i64 b.2.1) (.pair (.err b.2.2) .nil))), [], [])
def X : List Ct := [utf_lead.ct, utf_valid.ct, utf_least.ct]
def ct : Ct := ⟨19, callRun cfg.tt [(35, false), (3, false)] decA (fun k a => m k a.1 a.2) false encB⟩
theorem ok : FnOk Tryd.prog cfg 19 72 code rs := .of Tryd.func19 (by kernel_rfl) rfl rfl (by kernel_rfl) (by kernel_rfl) rfl
abbrev kend : KK (Int × Int × Er) := kEnd cfg.tt rs (kFin cfg.tt 1 false [21, 3, 23] [] [0] decB)
noncomputable abbrev rn := run cfg X 72 1 code kend
theorem s0 (k : Nat) (J : Nat → Fr → Heap → Option (Int × Int × Er)) (x0 : List UInt8) (x1 : Int) : stepJ cfg X 72 1 code kend k J 0 (argFr 0 (encA (x0, x1)).1) (encA (x0, x1)).2 = b0 k (fun s => J s.lab s.fr s.hp) x0 x1 := by kernel_rfl
theorem s1 (k : Nat) (J : Nat → Fr → Heap → Option (Int × Int × Er)) (x0 : List UInt8) (x1 : Int) (x2 : Bool) : stepJ cfg X 72 1 code kend k J (St.l1 x0 x1 x2).lab (St.l1 x0 x1 x2).fr (St.l1 x0 x1 x2).hp = b1 k (fun s => J s.lab s.fr s.hp) x0 x1 x2 := by kernel_rfl
theorem s2 (k : Nat) (J : Nat → Fr → Heap → Option (Int × Int × Er)) (x0 : List UInt8) (x1 : Int) (x2 : Int) (x3 : Int) (x4 : Bool) : stepJ cfg X 72 1 code kend k J (St.l2 x0 x1 x2 x3 x4).lab (St.l2 x0 x1 x2 x3 x4).fr (St.l2 x0 x1 x2 x3 x4).hp = b2 k (fun s => J s.lab s.fr s.hp) x0 x1 x2 x3 x4 := by kernel_rfl
theorem s3 (k : Nat) (J : Nat → Fr → Heap → Option (Int × Int × Er)) (x0 : List UInt8) (x1 : List UInt8) (x2 : Int) (x3 : Int) (x4 : Int) (x5 : Int) : stepJ cfg X 72 1 code kend k J (St.l3 x0 x1 x2 x3 x4 x5).lab (St.l3 x0 x1 x2 x3 x4 x5).fr (St.l3 x0 x1 x2 x3 x4 x5).hp = b3 k (fun s => J s.lab s.fr s.hp) x0 x1 x2 x3 x4 x5 := by kernel_rfl
theorem go_ok : ∀ (k : Nat) (s : St), rn k s.lab s.fr s.hp = go k s
  | 0, _ => rfl
  | k + 1, .l1 x0 x1 x2 => by
    have h := s1 k (rn k) x0 x1 x2
    rw [show (fun s : St => rn k s.lab s.fr s.hp) = go k from funext (go_ok k)] at h
    exact h
  | k + 1, .l2 x0 x1 x2 x3 x4 => by
    have h := s2 k (rn k) x0 x1 x2 x3 x4
    rw [show (fun s : St => rn k s.lab s.fr s.hp) = go k from funext (go_ok k)] at h
    exact h
  | k + 1, .l3 x0 x1 x2 x3 x4 x5 => by
    have h := s3 k (rn k) x0 x1 x2 x3 x4 x5
    rw [show (fun s : St => rn k s.lab s.fr s.hp) = go k from funext (go_ok k)] at h
    exact h
theorem run_ok : ∀ (k : Nat) (a : (List UInt8) × Int), rn k 0 (argFr 0 (encA a).1) (encA a).2 = m k a.1 a.2
  | 0, _ => rfl
  | k + 1, (x0, x1) => by
    have h := s0 k (rn k) x0 x1
    rw [show (fun s : St => rn k s.lab s.fr s.hp) = go k from funext (go_ok k)] at h
    exact h
theorem snd (k : Nat) : Snd Tryd.prog cfg k ct := fn_snd (X := X) cfgOk mixed ok (np := 1) (vps := []) (vws := [0]) (decA := decA) (encA := encA) (decB := decB) (encB := encB)
  (by
    intro xs H a h
    unfold decA at h
    split at h
    · cases h; exact ⟨rfl, rfl, rfl, rfl⟩
    · cases h)
  (by
    intro v H b h
    unfold decB at h
    split at h
    · cases h; exact ⟨rfl, fun _ _ _ h => (by cases h), rfl⟩
    · cases h)
  rfl k (fun k' _ => AllS.mem (l := X) ⟨utf_lead.snd k', utf_valid.snd k', utf_least.snd k', trivial⟩) (fun a => run_ok k a)
end utf_Decode

/-! cavil/cavilref01.Rune -/
namespace cavilref01_Rune
def b0 (k : Nat) (x0 : Int) : Option (Bool) :=
  bif (decide (x0 ≥ 0)) then
    bif (decide (x0 ≤ 1114111)) then
      bif (decide (x0 < 55296)) then
        some true
      else
        some (decide (x0 > 57343))
    else
      some false
  else
    some false
def m : Nat → Int → Option (Bool)
  | 0, _ => none
  | k + 1, x0 => b0 k x0
def anns : Anns := []
noncomputable def code : ACode := codeOf Tryd.f38 anns
def rs : List ResultVar := [.tmp 2]
def decA : List AVal → Heap → Option (Int)
  | [.int .i64 x0], [] => some x0
  | _, _ => none
def encA (a : Int) : List AVal × Heap := ([.int .i64 a], [])
def decB : AVal → Heap → Option (Bool)
  | .bool y0, [] => some y0
  | _, _ => none
def encB (b : Bool) : Out := (.bool b, [], [])
def X : List Ct := []
def ct : Ct := ⟨38, callRun cfg.tt [(3, false)] decA (fun k a => m k a) false encB⟩
theorem ok : FnOk Tryd.prog cfg 38 17 code rs := .of Tryd.func38 (by kernel_rfl) rfl rfl (by kernel_rfl) (by kernel_rfl) rfl
abbrev kend : KK (Bool) := kEnd cfg.tt rs (kFin cfg.tt 0 false [4] [] [] decB)
noncomputable abbrev rn := run cfg X 17 0 code kend
theorem s0 (k : Nat) (J : Nat → Fr → Heap → Option (Bool)) (x0 : Int) : stepJ cfg X 17 0 code kend k J 0 (argFr 0 (encA x0).1) (encA x0).2 = b0 k x0 := by kernel_rfl
theorem run_ok : ∀ (k : Nat) (a : Int), rn k 0 (argFr 0 (encA a).1) (encA a).2 = m k a
  | 0, _ => rfl
  | k + 1, x0 => by
    have h := s0 k (rn k) x0
    exact h
theorem snd (k : Nat) : Snd Tryd.prog cfg k ct := fn_snd (X := X) cfgOk mixed ok (np := 0) (vps := []) (vws := []) (decA := decA) (encA := encA) (decB := decB) (encB := encB)
  (by
    intro xs H a h
    unfold decA at h
    split at h
    · cases h; exact ⟨rfl, rfl, rfl, rfl⟩
    · cases h)
  (by
    intro v H b h
    unfold decB at h
    split at h
    · cases h; exact ⟨rfl, fun _ _ _ h => (by cases h), rfl⟩
    · cases h)
  rfl k (fun k' _ => AllS.mem (l := X) trivial) (fun a => run_ok k a)
end cavilref01_Rune

/-! cavil/cavilref01.Bytes -/
namespace cavilref01_Bytes
def b0 (k : Nat) (x0 : Int) : Option ((List UInt8)) :=
  bif (decide (x0 < 128)) then
    some ([toU8 (wr .u8 x0)] : List UInt8)
  else
    bif (decide (x0 < 2048)) then
      some ([toU8 (wr .u8 (wr .i64 (192 + (quoI .i64 x0 64)))), toU8 (wr .u8 (wr .i64 (128 + (remI x0 64))))] : List UInt8)
    else
      bif (decide (x0 < 65536)) then
        some ([toU8 (wr .u8 (wr .i64 (224 + (quoI .i64 x0 4096)))), toU8 (wr .u8 (wr .i64 (128 + (remI (quoI .i64 x0 64) 64)))), toU8 (wr .u8 (wr .i64 (128 + (remI x0 64))))] : List UInt8)
      else
        some ([toU8 (wr .u8 (wr .i64 (240 + (quoI .i64 x0 262144)))), toU8 (wr .u8 (wr .i64 (128 + (remI (quoI .i64 x0 4096) 64)))), toU8 (wr .u8 (wr .i64 (128 + (remI (quoI .i64 x0 64) 64)))), toU8 (wr .u8 (wr .i64 (128 + (remI x0 64))))] : List UInt8)
def m : Nat → Int → Option ((List UInt8))
  | 0, _ => none
  | k + 1, x0 => b0 k x0
def anns : Anns := []
noncomputable def code : ACode := codeOf Tryd.f26 anns
def rs : List ResultVar := [.tmp 2]
def decA : List AVal → Heap → Option (Int)
  | [.int .i64 x0], [] => some x0
  | _, _ => none
def encA (a : Int) : List AVal × Heap := ([.int .i64 a], [])
def decB : AVal → Heap → Option ((List UInt8))
  | .slice 0 1 .all, [.row 0 1 true 5 (.u8 y0)] => some y0
  | _, _ => none
def encB (b : (List UInt8)) : Out := (.slice 0 1 .all, [], [.row 0 1 true 5 (.u8 b)])
def X : List Ct := []
def ct : Ct := ⟨26, callRun cfg.tt [(3, false)] decA (fun k a => m k a) false encB⟩
theorem ok : FnOk Tryd.prog cfg 26 54 code rs := .of Tryd.func26 (by kernel_rfl) rfl rfl (by kernel_rfl) (by kernel_rfl) rfl
abbrev kend : KK ((List UInt8)) := kEnd cfg.tt rs (kFin cfg.tt 0 false [35] [] [] decB)
noncomputable abbrev rn := run cfg X 54 0 code kend
theorem s0 (k : Nat) (J : Nat → Fr → Heap → Option ((List UInt8))) (x0 : Int) : stepJ cfg X 54 0 code kend k J 0 (argFr 0 (encA x0).1) (encA x0).2 = b0 k x0 := by kernel_rfl
theorem run_ok : ∀ (k : Nat) (a : Int), rn k 0 (argFr 0 (encA a).1) (encA a).2 = m k a
  | 0, _ => rfl
  | k + 1, x0 => by
    have h := s0 k (rn k) x0
    exact h
theorem snd (k : Nat) : Snd Tryd.prog cfg k ct := fn_snd (X := X) cfgOk mixed ok (np := 0) (vps := []) (vws := []) (decA := decA) (encA := encA) (decB := decB) (encB := encB)
  (by
    intro xs H a h
    unfold decA at h
    split at h
    · cases h; exact ⟨rfl, rfl, rfl, rfl⟩
    · cases h)
  (by
    intro v H b h
    unfold decB at h
    split at h
    · cases h; exact ⟨rfl, fun _ _ _ h => (by cases h), rfl⟩
    · cases h)
  rfl k (fun k' _ => AllS.mem (l := X) trivial) (fun a => run_ok k a)
end cavilref01_Bytes

/-! cavil/utf.Encode$1 -/
namespace utf_Encode_1
def b0 (k : Nat) (x0 : Int) (x1 : List UInt8) (x2 : Int) : Option (Int × (List UInt8)) :=
  gk (nn x0)
    (gk (room (x1 ++ ([toU8 (Go.bits .or .u8 128 (Go.bits .and .u8 (wr .u8 (shrI .i32 x2 x0)) 63))] : List UInt8)).length)
      (some (x2, (x1 ++ ([toU8 (Go.bits .or .u8 128 (Go.bits .and .u8 (wr .u8 (shrI .i32 x2 x0)) 63))] : List UInt8)))))
def m : Nat → Int → List UInt8 → Int → Option (Int × (List UInt8))
  | 0, _, _, _ => none
  | k + 1, x0, x1, x2 => b0 k x0 x1 x2
def anns : Anns := []
noncomputable def code : ACode := codeOf Tryd.f41 anns
def rs : List ResultVar := []
def decA : List AVal → Heap → Option (Int × (List UInt8) × Int)
  | [.int .i64 x0, .ptr 1 1 [], .ptr 2 1 []], [.row 0 1 true 5 (.u8 x1), .var 0 35 (.slice 0 1 .all), .var 0 21 (.int .i32 x2)] => some (x0, x1, x2)
  | _, _ => none
def encA (a : Int × (List UInt8) × Int) : List AVal × Heap := ([.int .i64 a.1, .ptr 1 1 [], .ptr 2 1 []], [.row 0 1 true 5 (.u8 a.2.1), .var 0 35 (.slice 0 1 .all), .var 0 21 (.int .i32 a.2.2)])
def decB : AVal → Heap → Option (Int × (List UInt8))
  | .tup .nil, [_, .var 0 35 (.slice 3 1 .all), .var 0 21 (.int .i32 y0), .row 0 1 true 5 (.u8 y1)] => some (y0, y1)
  | _, _ => none
def encB (b : Int × (List UInt8)) : Out := (.tup .nil, [(1, 35, .slice 3 1 .all), (2, 21, .int .i32 b.1)], [.row 0 1 true 5 (.u8 b.2)])
def X : List Ct := []
def ct : Ct := ⟨41, callRun cfg.tt [(3, false), (0, true), (0, true)] decA (fun k a => m k a.1 a.2.1 a.2.2) false encB⟩
theorem ok : FnOk Tryd.prog cfg 41 13 code rs := .of Tryd.func41 (by kernel_rfl) rfl rfl (by kernel_rfl) (by kernel_rfl) rfl
abbrev kend : KK (Int × (List UInt8)) := kEnd cfg.tt rs (kFin cfg.tt 3 false [] [1, 2] [] decB)
noncomputable abbrev rn := run cfg X 13 3 code kend
theorem s0 (k : Nat) (J : Nat → Fr → Heap → Option (Int × (List UInt8))) (x0 : Int) (x1 : List UInt8) (x2 : Int) : stepJ cfg X 13 3 code kend k J 0 (argFr 0 (encA (x0, x1, x2)).1) (encA (x0, x1, x2)).2 = b0 k x0 x1 x2 := by kernel_rfl
theorem run_ok : ∀ (k : Nat) (a : Int × (List UInt8) × Int), rn k 0 (argFr 0 (encA a).1) (encA a).2 = m k a.1 a.2.1 a.2.2
  | 0, _ => rfl
  | k + 1, (x0, x1, x2) => by
    have h := s0 k (rn k) x0 x1 x2
    exact h
theorem snd (k : Nat) : Snd Tryd.prog cfg k ct := fn_snd (X := X) cfgOk mixed ok (np := 3) (vps := [1, 2]) (vws := []) (decA := decA) (encA := encA) (decB := decB) (encB := encB)
  (by
    intro xs H a h
    unfold decA at h
    split at h
    · cases h; exact ⟨rfl, rfl, rfl, rfl⟩
    · cases h)
  (by
    intro v H b h
    unfold decB at h
    split at h
    · cases h; exact ⟨rfl, (by intro j T u h; simp only [encB, List.mem_cons, List.not_mem_nil, or_false, Prod.mk.injEq] at h; rcases h with h | h <;> (obtain ⟨rfl, rfl, rfl⟩ := h; rfl)), rfl⟩
    · cases h)
  rfl k (fun k' _ => AllS.mem (l := X) trivial) (fun a => run_ok k a)
end utf_Encode_1

/-! cavil/utf.Encode -/
namespace utf_Encode
def b0 (k : Nat) (x0 : Int) : Option (Er × (List UInt8)) :=
  bindO (utf_valid.m k x0) fun r1 =>
    bif (!r1) then
      some ((.no 4), [])
    else
      bif (decide (x0 < 128)) then
        some (.nil, ([toU8 (wr .u8 x0)] : List UInt8))
      else
        bif (decide (x0 ≥ 65536)) then
          gk (room ([toU8 (Go.bits .or .u8 240 (wr .u8 (shrI .i32 x0 18)))] : List UInt8).length)
            (bindO (utf_Encode_1.m k 12 ([toU8 (Go.bits .or .u8 240 (wr .u8 (shrI .i32 x0 18)))] : List UInt8) x0) fun r2 =>
              bindO (utf_Encode_1.m k 6 r2.2 r2.1) fun r3 =>
                bindO (utf_Encode_1.m k 0 r3.2 r3.1) fun r4 =>
                  some (.nil, r4.2))
        else
          bif (decide (x0 ≥ 2048)) then
            gk (room ([toU8 (Go.bits .or .u8 224 (wr .u8 (shrI .i32 x0 12)))] : List UInt8).length)
              (bindO (utf_Encode_1.m k 6 ([toU8 (Go.bits .or .u8 224 (wr .u8 (shrI .i32 x0 12)))] : List UInt8) x0) fun r5 =>
                bindO (utf_Encode_1.m k 0 r5.2 r5.1) fun r6 =>
                  some (.nil, r6.2))
          else
            gk (room ([toU8 (Go.bits .or .u8 192 (wr .u8 (shrI .i32 x0 6)))] : List UInt8).length)
              (bindO (utf_Encode_1.m k 0 ([toU8 (Go.bits .or .u8 192 (wr .u8 (shrI .i32 x0 6)))] : List UInt8) x0) fun r7 =>
                some (.nil, r7.2))
def m : Nat → Int → Option (Er × (List UInt8))
  | 0, _ => none
  | k + 1, x0 => b0 k x0
def anns : Anns := []
noncomputable def code : ACode := codeOf Tryd.f25 anns
def rs : List ResultVar := [.tmp 2, .tmp 3]
def decA : List AVal → Heap → Option (Int)
  | [.int .i32 x0], [] => some x0
  | _, _ => none
def encA (a : Int) : List AVal × Heap := ([.int .i32 a], [])
def decB : AVal → Heap → Option (Er × (List UInt8))
  | .tup (.pair (.slice 0 1 .all) (.pair (.err y0) .nil)), [.row 0 1 true 5 (.u8 y1)] => some (y0, y1)
  | _, _ => none
def encB (b : Er × (List UInt8)) : Out := (.tup (.pair (.slice 0 1 .all) (.pair (.err b.1) .nil)), [], [.row 0 1 true 5 (.u8 b.2)])
def X : List Ct := [utf_valid.ct, utf_Encode_1.ct]
def ct : Ct := ⟨25, callRun cfg.tt [(21, false)] decA (fun k a => m k a) false encB⟩
theorem ok : FnOk Tryd.prog cfg 25 52 code rs := .of Tryd.func25 (by kernel_rfl) rfl rfl (by kernel_rfl) (by kernel_rfl) rfl
abbrev kend : KK (Er × (List UInt8)) := kEnd cfg.tt rs (kFin cfg.tt 0 false [35, 23] [] [] decB)
noncomputable abbrev rn := run cfg X 52 0 code kend
theorem s0 (k : Nat) (J : Nat → Fr → Heap → Option (Er × (List UInt8))) (x0 : Int) : stepJ cfg X 52 0 code kend k J 0 (argFr 0 (encA x0).1) (encA x0).2 = b0 k x0 := by kernel_rfl
theorem run_ok : ∀ (k : Nat) (a : Int), rn k 0 (argFr 0 (encA a).1) (encA a).2 = m k a
  | 0, _ => rfl
  | k + 1, x0 => by
    have h := s0 k (rn k) x0
    exact h
theorem snd (k : Nat) : Snd Tryd.prog cfg k ct := fn_snd (X := X) cfgOk mixed ok (np := 0) (vps := []) (vws := []) (decA := decA) (encA := encA) (decB := decB) (encB := encB)
  (by
    intro xs H a h
    unfold decA at h
    split at h
    · cases h; exact ⟨rfl, rfl, rfl, rfl⟩
    · cases h)
  (by
    intro v H b h
    unfold decB at h
    split at h
    · cases h; exact ⟨rfl, fun _ _ _ h => (by cases h), rfl⟩
    · cases h)
  rfl k (fun k' _ => AllS.mem (l := X) ⟨utf_valid.snd k', utf_Encode_1.snd k', trivial⟩) (fun a => run_ok k a)
end utf_Encode

/-! cavil/quote.digits -/
namespace quote_digits
inductive St where
  | l1 (x0 : List UInt8) (x1 : Int) (x2 : Int) (x3 : Int) (x4 : Int)
  | l2 (x0 : List UInt8) (x1 : Int) (x2 : Int) (x3 : Int) (x4 : Int) (x5 : Int) (x6 : Int) (x7 : Bool)
  | l3 (x0 : List UInt8) (x1 : Int) (x2 : Int) (x3 : Int) (x4 : Int) (x5 : Int)
  | l4 (x0 : List UInt8) (x1 : Int) (x2 : Int) (x3 : Int) (x4 : Int) (x5 : Int) (x6 : Int) (x7 : Bool)
  | l5 (x0 : List UInt8) (x1 : Int) (x2 : Int) (x3 : Int) (x4 : Int) (x5 : Int) (x6 : Bool)
def St.lab : St → Nat
  | .l1 _ _ _ _ _ => 1
  | .l2 _ _ _ _ _ _ _ _ => 2
  | .l3 _ _ _ _ _ _ => 4
  | .l4 _ _ _ _ _ _ _ _ => 3
  | .l5 _ _ _ _ _ _ _ => 5
def St.fr : St → Fr
  | .l1 x0 x1 x2 x3 x4 => [(2, .int .i32 x1), (8, .int .i32 x2), (19, .slice 0 1 .all), (20, .int .i64 x3), (21, .int .i64 x4)]
  | .l2 x0 x1 x2 x3 x4 x5 x6 x7 => [(2, .int .i32 x1), (8, .int .i32 x2), (10, .int .u8 x3), (11, .int .i32 x4), (19, .slice 0 1 .all), (20, .int .i64 x5), (21, .int .i64 x6), (25, .bool x7)]
  | .l3 x0 x1 x2 x3 x4 x5 => [(2, .int .i32 x1), (8, .int .i32 x2), (11, .int .i32 x3), (19, .slice 0 1 .all), (20, .int .i64 x4), (21, .int .i64 x5)]
  | .l4 x0 x1 x2 x3 x4 x5 x6 x7 => [(2, .int .i32 x1), (8, .int .i32 x2), (10, .int .u8 x3), (11, .int .i32 x4), (19, .slice 0 1 .all), (20, .int .i64 x5), (21, .int .i64 x6), (35, .bool x7)]
  | .l5 x0 x1 x2 x3 x4 x5 x6 => [(2, .int .i32 x1), (8, .int .i32 x2), (11, .int .i32 x3), (19, .slice 0 1 .all), (20, .int .i64 x4), (21, .int .i64 x5), (55, .bool x6)]
def St.hp : St → Heap
  | .l1 x0 x1 x2 x3 x4 => [.row 0 1 true 5 (.u8 x0)]
  | .l2 x0 x1 x2 x3 x4 x5 x6 x7 => [.row 0 1 true 5 (.u8 x0)]
  | .l3 x0 x1 x2 x3 x4 x5 => [.row 0 1 true 5 (.u8 x0)]
  | .l4 x0 x1 x2 x3 x4 x5 x6 x7 => [.row 0 1 true 5 (.u8 x0)]
  | .l5 x0 x1 x2 x3 x4 x5 x6 => [.row 0 1 true 5 (.u8 x0)]
def b0 (k : Nat) (J : St → Option (Int × Bool)) (x0 : List UInt8) (x1 : Int) (x2 : Int) : Option (Int × Bool) :=
  bif (decide ((x0.length : Int) < x1)) then
    some (0, false)
  else
    gk (cutB 0 x1 x0.length)
      (J (.l1 (cut x0 0 x1) x2 0 ((cut x0 0 x1).length : Int) 0))
def b1 (k : Nat) (J : St → Option (Int × Bool)) (x0 : List UInt8) (x1 : Int) (x2 : Int) (x3 : Int) (x4 : Int) : Option (Int × Bool) :=
  bif (decide (x4 < x3)) then
    gk (inB x4 x0.length)
      (bif (decide (((x0.getD x4.toNat 0).toNat : Int) ≥ 48)) then
        J (.l2 x0 x1 x2 ((x0.getD x4.toNat 0).toNat : Int) 99 x3 x4 (decide (((x0.getD x4.toNat 0).toNat : Int) ≤ 57)))
      else
        J (.l2 x0 x1 x2 ((x0.getD x4.toNat 0).toNat : Int) 99 x3 x4 false))
  else
    some (x2, true)
def b2 (k : Nat) (J : St → Option (Int × Bool)) (x0 : List UInt8) (x1 : Int) (x2 : Int) (x3 : Int) (x4 : Int) (x5 : Int) (x6 : Int) (x7 : Bool) : Option (Int × Bool) :=
  bif x7 then
    J (.l3 x0 x1 x2 (wr .i32 (wr .u8 (x3 - 48))) x5 x6)
  else
    bif (decide ((Go.bits .or .u8 x3 32) ≥ 97)) then
      J (.l4 x0 x1 x2 x3 x4 x5 x6 (decide ((Go.bits .or .u8 x3 32) ≤ 102)))
    else
      J (.l4 x0 x1 x2 x3 x4 x5 x6 false)
def b3 (k : Nat) (J : St → Option (Int × Bool)) (x0 : List UInt8) (x1 : Int) (x2 : Int) (x3 : Int) (x4 : Int) (x5 : Int) : Option (Int × Bool) :=
  bif (decide (x3 ≥ x1)) then
    J (.l5 x0 x1 x2 x3 x4 x5 true)
  else
    J (.l5 x0 x1 x2 x3 x4 x5 (decide (x2 > 134217727)))
def b4 (k : Nat) (J : St → Option (Int × Bool)) (x0 : List UInt8) (x1 : Int) (x2 : Int) (x3 : Int) (x4 : Int) (x5 : Int) (x6 : Int) (x7 : Bool) : Option (Int × Bool) :=
  bif x7 then
    J (.l3 x0 x1 x2 (wr .i32 ((wr .i32 (wr .u8 ((Go.bits .or .u8 x3 32) - 97))) + 10)) x5 x6)
  else
    J (.l3 x0 x1 x2 x4 x5 x6)
def b5 (k : Nat) (J : St → Option (Int × Bool)) (x0 : List UInt8) (x1 : Int) (x2 : Int) (x3 : Int) (x4 : Int) (x5 : Int) (x6 : Bool) : Option (Int × Bool) :=
  bif x6 then
    some (0, false)
  else
    J (.l1 x0 x1 (wr .i32 ((wr .i32 (x2 * x1)) + x3)) x4 (wr .i64 (x5 + 1)))
def go : Nat → St → Option (Int × Bool)
  | 0, _ => none
  | k + 1, .l1 x0 x1 x2 x3 x4 => b1 k (go k) x0 x1 x2 x3 x4
  | k + 1, .l2 x0 x1 x2 x3 x4 x5 x6 x7 => b2 k (go k) x0 x1 x2 x3 x4 x5 x6 x7
  | k + 1, .l3 x0 x1 x2 x3 x4 x5 => b3 k (go k) x0 x1 x2 x3 x4 x5
  | k + 1, .l4 x0 x1 x2 x3 x4 x5 x6 x7 => b4 k (go k) x0 x1 x2 x3 x4 x5 x6 x7
  | k + 1, .l5 x0 x1 x2 x3 x4 x5 x6 => b5 k (go k) x0 x1 x2 x3 x4 x5 x6
def m : Nat → List UInt8 → Int → Int → Option (Int × Bool)
  | 0, _, _, _ => none
  | k + 1, x0, x1, x2 => b0 k (go k) x0 x1 x2
def anns : Anns := [(7, 1, [(2, 21, false), (8, 21, false), (19, 35, false), (20, 3, false), (21, 3, false)]), (13, 4, [(2, 21, false), (8, 21, false), (11, 21, false), (19, 35, false), (20, 3, false), (21, 3, false)]), (14, 2, [(2, 21, false), (8, 21, false), (10, 5, false), (11, 21, false), (19, 35, false), (20, 3, false), (21, 3, false), (25, 4, false)]), (15, 3, [(2, 21, false), (8, 21, false), (10, 5, false), (11, 21, false), (19, 35, false), (20, 3, false), (21, 3, false), (35, 4, false)]), (17, 5, [(2, 21, false), (8, 21, false), (11, 21, false), (19, 35, false), (20, 3, false), (21, 3, false), (55, 4, false)])]
noncomputable def code : ACode := codeOf Tryd.f32 anns
def rs : List ResultVar := [.tmp 6, .tmp 7]
def decA : List AVal → Heap → Option ((List UInt8) × Int × Int)
  | [.str x0, .int .i64 x1, .int .i32 x2], [] => some (x0, x1, x2)
  | _, _ => none
def encA (a : (List UInt8) × Int × Int) : List AVal × Heap := ([.str a.1, .int .i64 a.2.1, .int .i32 a.2.2], [])
def decB : AVal → Heap → Option (Int × Bool)
  | .tup (.pair (.int .i32 y0) (.pair (.bool y1) .nil)), [] => some (y0, y1)
  | _, _ => none
def encB (b : Int × Bool) : Out := (.tup (.pair (.int .i32 b.1) (.pair (.bool b.2) .nil)), [], [])
def X : List Ct := []
def ct : Ct := ⟨32, callRun cfg.tt [(9, false), (3, false), (21, false)] decA (fun k a => m k a.1 a.2.1 a.2.2) false encB⟩
theorem ok : FnOk Tryd.prog cfg 32 63 code rs := .of Tryd.func32 (by kernel_rfl) rfl rfl (by kernel_rfl) (by kernel_rfl) rfl
abbrev kend : KK (Int × Bool) := kEnd cfg.tt rs (kFin cfg.tt 0 false [21, 4] [] [] decB)
noncomputable abbrev rn := run cfg X 63 0 code kend
theorem s0 (k : Nat) (J : Nat → Fr → Heap → Option (Int × Bool)) (x0 : List UInt8) (x1 : Int) (x2 : Int) : stepJ cfg X 63 0 code kend k J 0 (argFr 0 (encA (x0, x1, x2)).1) (encA (x0, x1, x2)).2 = b0 k (fun s => J s.lab s.fr s.hp) x0 x1 x2 := by kernel_rfl
theorem s1 (k : Nat) (J : Nat → Fr → Heap → Option (Int × Bool)) (x0 : List UInt8) (x1 : Int) (x2 : Int) (x3 : Int) (x4 : Int) : stepJ cfg X 63 0 code kend k J (St.l1 x0 x1 x2 x3 x4).lab (St.l1 x0 x1 x2 x3 x4).fr (St.l1 x0 x1 x2 x3 x4).hp = b1 k (fun s => J s.lab s.fr s.hp) x0 x1 x2 x3 x4 := by kernel_rfl
theorem s2 (k : Nat) (J : Nat → Fr → Heap → Option (Int × Bool)) (x0 : List UInt8) (x1 : Int) (x2 : Int) (x3 : Int) (x4 : Int) (x5 : Int) (x6 : Int) (x7 : Bool) : stepJ cfg X 63 0 code kend k J (St.l2 x0 x1 x2 x3 x4 x5 x6 x7).lab (St.l2 x0 x1 x2 x3 x4 x5 x6 x7).fr (St.l2 x0 x1 x2 x3 x4 x5 x6 x7).hp = b2 k (fun s => J s.lab s.fr s.hp) x0 x1 x2 x3 x4 x5 x6 x7 := by kernel_rfl
theorem s3 (k : Nat) (J : Nat → Fr → Heap → Option (Int × Bool)) (x0 : List UInt8) (x1 : Int) (x2 : Int) (x3 : Int) (x4 : Int) (x5 : Int) : stepJ cfg X 63 0 code kend k J (St.l3 x0 x1 x2 x3 x4 x5).lab (St.l3 x0 x1 x2 x3 x4 x5).fr (St.l3 x0 x1 x2 x3 x4 x5).hp = b3 k (fun s => J s.lab s.fr s.hp) x0 x1 x2 x3 x4 x5 := by kernel_rfl
theorem s4 (k : Nat) (J : Nat → Fr → Heap → Option (Int × Bool)) (x0 : List UInt8) (x1 : Int) (x2 : Int) (x3 : Int) (x4 : Int) (x5 : Int) (x6 : Int) (x7 : Bool) : stepJ cfg X 63 0 code kend k J (St.l4 x0 x1 x2 x3 x4 x5 x6 x7).lab (St.l4 x0 x1 x2 x3 x4 x5 x6 x7).fr (St.l4 x0 x1 x2 x3 x4 x5 x6 x7).hp = b4 k (fun s => J s.lab s.fr s.hp) x0 x1 x2 x3 x4 x5 x6 x7 := by kernel_rfl
theorem s5 (k : Nat) (J : Nat → Fr → Heap → Option (Int × Bool)) (x0 : List UInt8) (x1 : Int) (x2 : Int) (x3 : Int) (x4 : Int) (x5 : Int) (x6 : Bool) : stepJ cfg X 63 0 code kend k J (St.l5 x0 x1 x2 x3 x4 x5 x6).lab (St.l5 x0 x1 x2 x3 x4 x5 x6).fr (St.l5 x0 x1 x2 x3 x4 x5 x6).hp = b5 k (fun s => J s.lab s.fr s.hp) x0 x1 x2 x3 x4 x5 x6 := by kernel_rfl
theorem go_ok : ∀ (k : Nat) (s : St), rn k s.lab s.fr s.hp = go k s
  | 0, _ => rfl
  | k + 1, .l1 x0 x1 x2 x3 x4 => by
    have h := s1 k (rn k) x0 x1 x2 x3 x4
    rw [show (fun s : St => rn k s.lab s.fr s.hp) = go k from funext (go_ok k)] at h
    exact h
  | k + 1, .l2 x0 x1 x2 x3 x4 x5 x6 x7 => by
    have h := s2 k (rn k) x0 x1 x2 x3 x4 x5 x6 x7
    rw [show (fun s : St => rn k s.lab s.fr s.hp) = go k from funext (go_ok k)] at h
    exact h
  | k + 1, .l3 x0 x1 x2 x3 x4 x5 => by
    have h := s3 k (rn k) x0 x1 x2 x3 x4 x5
    rw [show (fun s : St => rn k s.lab s.fr s.hp) = go k from funext (go_ok k)] at h
    exact h
  | k + 1, .l4 x0 x1 x2 x3 x4 x5 x6 x7 => by
    have h := s4 k (rn k) x0 x1 x2 x3 x4 x5 x6 x7
    rw [show (fun s : St => rn k s.lab s.fr s.hp) = go k from funext (go_ok k)] at h
    exact h
  | k + 1, .l5 x0 x1 x2 x3 x4 x5 x6 => by
    have h := s5 k (rn k) x0 x1 x2 x3 x4 x5 x6
    rw [show (fun s : St => rn k s.lab s.fr s.hp) = go k from funext (go_ok k)] at h
    exact h
theorem run_ok : ∀ (k : Nat) (a : (List UInt8) × Int × Int), rn k 0 (argFr 0 (encA a).1) (encA a).2 = m k a.1 a.2.1 a.2.2
  | 0, _ => rfl
  | k + 1, (x0, x1, x2) => by
    have h := s0 k (rn k) x0 x1 x2
    rw [show (fun s : St => rn k s.lab s.fr s.hp) = go k from funext (go_ok k)] at h
    exact h
theorem snd (k : Nat) : Snd Tryd.prog cfg k ct := fn_snd (X := X) cfgOk mixed ok (np := 0) (vps := []) (vws := []) (decA := decA) (encA := encA) (decB := decB) (encB := encB)
  (by
    intro xs H a h
    unfold decA at h
    split at h
    · cases h; exact ⟨rfl, rfl, rfl, rfl⟩
    · cases h)
  (by
    intro v H b h
    unfold decB at h
    split at h
    · cases h; exact ⟨rfl, fun _ _ _ h => (by cases h), rfl⟩
    · cases h)
  rfl k (fun k' _ => AllS.mem (l := X) trivial) (fun a => run_ok k a)
end quote_digits

/-! cavil/quote.runeOf -/
namespace quote_runeOf
def b0 (k : Nat) (x0 : Int) (x1 : Bool) (x2 : Int) : Option (Int × Bool × Int) :=
  bindO (utf_Encode.m k x0) fun r1 =>
    bif (!r1.1.isNil) then
      some (0, false, 0)
    else
      some (x0, x1, x2)
def m : Nat → Int → Bool → Int → Option (Int × Bool × Int)
  | 0, _, _, _ => none
  | k + 1, x0, x1, x2 => b0 k x0 x1 x2
def anns : Anns := []
noncomputable def code : ACode := codeOf Tryd.f33 anns
def rs : List ResultVar := [.tmp 6, .tmp 7, .tmp 8]
def decA : List AVal → Heap → Option (Int × Bool × Int)
  | [.int .i32 x0, .bool x1, .int .i64 x2], [] => some (x0, x1, x2)
  | _, _ => none
def encA (a : Int × Bool × Int) : List AVal × Heap := ([.int .i32 a.1, .bool a.2.1, .int .i64 a.2.2], [])
def decB : AVal → Heap → Option (Int × Bool × Int)
  | .tup (.pair (.int .i32 y0) (.pair (.bool y1) (.pair (.int .i64 y2) .nil))), [] => some (y0, y1, y2)
  | _, _ => none
def encB (b : Int × Bool × Int) : Out := (.tup (.pair (.int .i32 b.1) (.pair (.bool b.2.1) (.pair (.int .i64 b.2.2) .nil))), [], [])
def X : List Ct := [utf_Encode.ct]
def ct : Ct := ⟨33, callRun cfg.tt [(21, false), (4, false), (3, false)] decA (fun k a => m k a.1 a.2.1 a.2.2) false encB⟩
theorem ok : FnOk Tryd.prog cfg 33 21 code rs := .of Tryd.func33 (by kernel_rfl) rfl rfl (by kernel_rfl) (by kernel_rfl) rfl
abbrev kend : KK (Int × Bool × Int) := kEnd cfg.tt rs (kFin cfg.tt 0 false [21, 4, 3] [] [] decB)
noncomputable abbrev rn := run cfg X 21 0 code kend
theorem s0 (k : Nat) (J : Nat → Fr → Heap → Option (Int × Bool × Int)) (x0 : Int) (x1 : Bool) (x2 : Int) : stepJ cfg X 21 0 code kend k J 0 (argFr 0 (encA (x0, x1, x2)).1) (encA (x0, x1, x2)).2 = b0 k x0 x1 x2 := by kernel_rfl
theorem run_ok : ∀ (k : Nat) (a : Int × Bool × Int), rn k 0 (argFr 0 (encA a).1) (encA a).2 = m k a.1 a.2.1 a.2.2
  | 0, _ => rfl
  | k + 1, (x0, x1, x2) => by
    have h := s0 k (rn k) x0 x1 x2
    exact h
theorem snd (k : Nat) : Snd Tryd.prog cfg k ct := fn_snd (X := X) cfgOk mixed ok (np := 0) (vps := []) (vws := []) (decA := decA) (encA := encA) (decB := decB) (encB := encB)
  (by
    intro xs H a h
    unfold decA at h
    split at h
    · cases h; exact ⟨rfl, rfl, rfl, rfl⟩
    · cases h)
  (by
    intro v H b h
    unfold decB at h
    split at h
    · cases h; exact ⟨rfl, fun _ _ _ h => (by cases h), rfl⟩
    · cases h)
  rfl k (fun k' _ => AllS.mem (l := X) ⟨utf_Encode.snd k', trivial⟩) (fun a => run_ok k a)
end quote_runeOf

/-! cavil/quote.escape$1 -/
namespace quote_escape_1
inductive St where
  | l1 (x0 : List UInt8) (x1 : Int) (x2 : Int) (x3 : Int) (x4 : Int) (x5 : Bool)
def St.lab : St → Nat
  | .l1 _ _ _ _ _ _ => 1
def St.fr : St → Fr
  | .l1 x0 x1 x2 x3 x4 x5 => [(0, .int .i64 x1), (1, .int .i64 x2), (3, .int .i32 x3), (12, .int .i32 x4), (29, .bool x5)]
def St.hp : St → Heap
  | .l1 x0 x1 x2 x3 x4 x5 => [.var 0 9 (.str x0)]
def b0 (k : Nat) (J : St → Option (Int × Bool × Int × (List UInt8))) (x0 : Int) (x1 : Int) (x2 : Int) (x3 : Int) (x4 : List UInt8) : Option (Int × Bool × Int × (List UInt8)) :=
  gk (cutB x0 (x4.length : Int) x4.length)
    (bindO (quote_digits.m k (cut x4 x0 (x4.length : Int)) x1 x2) fun r1 =>
      bif (!r1.2) then
        J (.l1 x4 x0 x1 x3 r1.1 true)
      else
        J (.l1 x4 x0 x1 x3 r1.1 (decide (r1.1 > x3))))
def b1 (k : Nat) (J : St → Option (Int × Bool × Int × (List UInt8))) (x0 : List UInt8) (x1 : Int) (x2 : Int) (x3 : Int) (x4 : Int) (x5 : Bool) : Option (Int × Bool × Int × (List UInt8)) :=
  bif x5 then
    some (0, false, 0, x0)
  else
    some (x4, (x3 == 255), (wr .i64 (x1 + x2)), x0)
def go : Nat → St → Option (Int × Bool × Int × (List UInt8))
  | 0, _ => none
  | k + 1, .l1 x0 x1 x2 x3 x4 x5 => b1 k (go k) x0 x1 x2 x3 x4 x5
def m : Nat → Int → Int → Int → Int → List UInt8 → Option (Int × Bool × Int × (List UInt8))
  | 0, _, _, _, _, _ => none
  | k + 1, x0, x1, x2, x3, x4 => b0 k (go k) x0 x1 x2 x3 x4
def anns : Anns := [(3, 1, [(0, 3, false), (1, 3, false), (3, 21, false), (12, 21, false), (29, 4, false)])]
noncomputable def code : ACode := codeOf Tryd.f31 anns
def rs : List ResultVar := [.tmp 9, .tmp 10, .tmp 11]
def decA : List AVal → Heap → Option (Int × Int × Int × Int × (List UInt8))
  | [.int .i64 x0, .int .i64 x1, .int .i32 x2, .int .i32 x3, .ptr 0 1 []], [.var 0 9 (.str x4)] => some (x0, x1, x2, x3, x4)
  | _, _ => none
def encA (a : Int × Int × Int × Int × (List UInt8)) : List AVal × Heap := ([.int .i64 a.1, .int .i64 a.2.1, .int .i32 a.2.2.1, .int .i32 a.2.2.2.1, .ptr 0 1 []], [.var 0 9 (.str a.2.2.2.2)])
def decB : AVal → Heap → Option (Int × Bool × Int × (List UInt8))
  | .tup (.pair (.int .i32 y0) (.pair (.bool y1) (.pair (.int .i64 y2) .nil))), [.var 0 9 (.str y3)] => some (y0, y1, y2, y3)
  | _, _ => none
def encB (b : Int × Bool × Int × (List UInt8)) : Out := (.tup (.pair (.int .i32 b.1) (.pair (.bool b.2.1) (.pair (.int .i64 b.2.2.1) .nil))), [(0, 9, .str b.2.2.2)], [])
def X : List Ct := [quote_digits.ct]
def ct : Ct := ⟨31, callRun cfg.tt [(3, false), (3, false), (21, false), (21, false), (0, false)] decA (fun k a => m k a.1 a.2.1 a.2.2.1 a.2.2.2.1 a.2.2.2.2) false encB⟩
theorem ok : FnOk Tryd.prog cfg 31 36 code rs := .of Tryd.func31 (by kernel_rfl) rfl rfl (by kernel_rfl) (by kernel_rfl) rfl
abbrev kend : KK (Int × Bool × Int × (List UInt8)) := kEnd cfg.tt rs (kFin cfg.tt 1 false [21, 4, 3] [0] [] decB)
noncomputable abbrev rn := run cfg X 36 1 code kend
theorem s0 (k : Nat) (J : Nat → Fr → Heap → Option (Int × Bool × Int × (List UInt8))) (x0 : Int) (x1 : Int) (x2 : Int) (x3 : Int) (x4 : List UInt8) : stepJ cfg X 36 1 code kend k J 0 (argFr 0 (encA (x0, x1, x2, x3, x4)).1) (encA (x0, x1, x2, x3, x4)).2 = b0 k (fun s => J s.lab s.fr s.hp) x0 x1 x2 x3 x4 := by kernel_rfl
theorem s1 (k : Nat) (J : Nat → Fr → Heap → Option (Int × Bool × Int × (List UInt8))) (x0 : List UInt8) (x1 : Int) (x2 : Int) (x3 : Int) (x4 : Int) (x5 : Bool) : stepJ cfg X 36 1 code kend k J (St.l1 x0 x1 x2 x3 x4 x5).lab (St.l1 x0 x1 x2 x3 x4 x5).fr (St.l1 x0 x1 x2 x3 x4 x5).hp = b1 k (fun s => J s.lab s.fr s.hp) x0 x1 x2 x3 x4 x5 := by kernel_rfl
theorem go_ok : ∀ (k : Nat) (s : St), rn k s.lab s.fr s.hp = go k s
  | 0, _ => rfl
  | k + 1, .l1 x0 x1 x2 x3 x4 x5 => by
    have h := s1 k (rn k) x0 x1 x2 x3 x4 x5
    rw [show (fun s : St => rn k s.lab s.fr s.hp) = go k from funext (go_ok k)] at h
    exact h
theorem run_ok : ∀ (k : Nat) (a : Int × Int × Int × Int × (List UInt8)), rn k 0 (argFr 0 (encA a).1) (encA a).2 = m k a.1 a.2.1 a.2.2.1 a.2.2.2.1 a.2.2.2.2
  | 0, _ => rfl
  | k + 1, (x0, x1, x2, x3, x4) => by
    have h := s0 k (rn k) x0 x1 x2 x3 x4
    rw [show (fun s : St => rn k s.lab s.fr s.hp) = go k from funext (go_ok k)] at h
    exact h
theorem snd (k : Nat) : Snd Tryd.prog cfg k ct := fn_snd (X := X) cfgOk mixed ok (np := 1) (vps := [0]) (vws := []) (decA := decA) (encA := encA) (decB := decB) (encB := encB)
  (by
    intro xs H a h
    unfold decA at h
    split at h
    · cases h; exact ⟨rfl, rfl, rfl, rfl⟩
    · cases h)
  (by
    intro v H b h
    unfold decB at h
    split at h
    · cases h; exact ⟨rfl, (by intro j T u h; simp only [encB, List.mem_cons, List.not_mem_nil, or_false, Prod.mk.injEq] at h; rcases h with h <;> (obtain ⟨rfl, rfl, rfl⟩ := h; rfl)), rfl⟩
    · cases h)
  rfl k (fun k' _ => AllS.mem (l := X) ⟨quote_digits.snd k', trivial⟩) (fun a => run_ok k a)
end quote_escape_1

/-! cavil/quote.escape -/
namespace quote_escape
def b0 (k : Nat) (x0 : List UInt8) (x1 : Int) : Option (Int × Bool × Int) :=
  bif (decide ((x0.length : Int) < 2)) then
    some (0, false, 0)
  else
    gk (inB 1 x0.length)
      (bindO (quote_simple.m k (byt x0 1) x1) fun r1 =>
        bif (r1 != 0) then
          some ((wr .i32 r1), true, 2)
        else
          gk (inB 1 x0.length)
            (bif ((byt x0 1) == 120) then
              bindO (quote_escape_1.m k 2 2 16 255 x0) fun r2 =>
                some (r2.1, r2.2.1, r2.2.2.1)
            else
              bif ((byt x0 1) == 117) then
                bindO (quote_escape_1.m k 2 4 16 1114111 x0) fun r3 =>
                  bindO (quote_runeOf.m k r3.1 r3.2.1 r3.2.2.1) fun r4 =>
                    some (r4.1, r4.2.1, r4.2.2)
              else
                bif ((byt x0 1) == 85) then
                  bindO (quote_escape_1.m k 2 8 16 1114111 x0) fun r5 =>
                    bindO (quote_runeOf.m k r5.1 r5.2.1 r5.2.2.1) fun r6 =>
                      some (r6.1, r6.2.1, r6.2.2)
                else
                  bindO (quote_escape_1.m k 1 3 8 255 x0) fun r7 =>
                    some (r7.1, r7.2.1, r7.2.2.1)))
def m : Nat → List UInt8 → Int → Option (Int × Bool × Int)
  | 0, _, _ => none
  | k + 1, x0, x1 => b0 k x0 x1
def anns : Anns := []
noncomputable def code : ACode := codeOf Tryd.f18 anns
def rs : List ResultVar := [.tmp 4, .tmp 5, .tmp 6]
def decA : List AVal → Heap → Option ((List UInt8) × Int)
  | [.str x0, .int .u8 x1], [] => some (x0, x1)
  | _, _ => none
def encA (a : (List UInt8) × Int) : List AVal × Heap := ([.str a.1, .int .u8 a.2], [])
def decB : AVal → Heap → Option (Int × Bool × Int)
  | .tup (.pair (.int .i32 y0) (.pair (.bool y1) (.pair (.int .i64 y2) .nil))), [] => some (y0, y1, y2)
  | _, _ => none
def encB (b : Int × Bool × Int) : Out := (.tup (.pair (.int .i32 b.1) (.pair (.bool b.2.1) (.pair (.int .i64 b.2.2) .nil))), [], [])
def X : List Ct := [quote_simple.ct, quote_escape_1.ct, quote_runeOf.ct]
def ct : Ct := ⟨18, callRun cfg.tt [(9, false), (5, false)] decA (fun k a => m k a.1 a.2) false encB⟩
theorem ok : FnOk Tryd.prog cfg 18 57 code rs := .of Tryd.func18 (by kernel_rfl) rfl rfl (by kernel_rfl) (by kernel_rfl) rfl
abbrev kend : KK (Int × Bool × Int) := kEnd cfg.tt rs (kFin cfg.tt 0 false [21, 4, 3] [] [] decB)
noncomputable abbrev rn := run cfg X 57 0 code kend
theorem s0 (k : Nat) (J : Nat → Fr → Heap → Option (Int × Bool × Int)) (x0 : List UInt8) (x1 : Int) : stepJ cfg X 57 0 code kend k J 0 (argFr 0 (encA (x0, x1)).1) (encA (x0, x1)).2 = b0 k x0 x1 := by kernel_rfl
theorem run_ok : ∀ (k : Nat) (a : (List UInt8) × Int), rn k 0 (argFr 0 (encA a).1) (encA a).2 = m k a.1 a.2
  | 0, _ => rfl
  | k + 1, (x0, x1) => by
    have h := s0 k (rn k) x0 x1
    exact h
theorem snd (k : Nat) : Snd Tryd.prog cfg k ct := fn_snd (X := X) cfgOk mixed ok (np := 0) (vps := []) (vws := []) (decA := decA) (encA := encA) (decB := decB) (encB := encB)
  (by
    intro xs H a h
    unfold decA at h
    split at h
    · cases h; exact ⟨rfl, rfl, rfl, rfl⟩
    · cases h)
  (by
    intro v H b h
    unfold decB at h
    split at h
    · cases h; exact ⟨rfl, fun _ _ _ h => (by cases h), rfl⟩
    · cases h)
  rfl k (fun k' _ => AllS.mem (l := X) ⟨quote_simple.snd k', quote_escape_1.snd k', quote_runeOf.snd k', trivial⟩) (fun a => run_ok k a)
end quote_escape

/-! cavil/quote.within -/
namespace quote_within
def b0 (k : Nat) (x0 : List UInt8) (x1 : Int) : Option ((List UInt8) × Bool) :=
  bif (decide ((x0.length : Int) < 2)) then
    some (([] : List UInt8), false)
  else
    gk (inB 0 x0.length)
      (bif ((byt x0 0) != x1) then
        some (([] : List UInt8), false)
      else
        gk (inB (wr .i64 ((x0.length : Int) - 1)) x0.length)
          (bif ((byt x0 (wr .i64 ((x0.length : Int) - 1))) != x1) then
            some (([] : List UInt8), false)
          else
            gk (cutB 1 (wr .i64 ((x0.length : Int) - 1)) x0.length)
              (some ((cut x0 1 (wr .i64 ((x0.length : Int) - 1))), true))))
def m : Nat → List UInt8 → Int → Option ((List UInt8) × Bool)
  | 0, _, _ => none
  | k + 1, x0, x1 => b0 k x0 x1
def anns : Anns := []
noncomputable def code : ACode := codeOf Tryd.f17 anns
def rs : List ResultVar := [.tmp 4, .tmp 5]
def decA : List AVal → Heap → Option ((List UInt8) × Int)
  | [.str x0, .int .u8 x1], [] => some (x0, x1)
  | _, _ => none
def encA (a : (List UInt8) × Int) : List AVal × Heap := ([.str a.1, .int .u8 a.2], [])
def decB : AVal → Heap → Option ((List UInt8) × Bool)
  | .tup (.pair (.str y0) (.pair (.bool y1) .nil)), [] => some (y0, y1)
  | _, _ => none
def encB (b : (List UInt8) × Bool) : Out := (.tup (.pair (.str b.1) (.pair (.bool b.2) .nil)), [], [])
def X : List Ct := []
def ct : Ct := ⟨17, callRun cfg.tt [(9, false), (5, false)] decA (fun k a => m k a.1 a.2) false encB⟩
theorem ok : FnOk Tryd.prog cfg 17 29 code rs := .of Tryd.func17 (by kernel_rfl) rfl rfl (by kernel_rfl) (by kernel_rfl) rfl
abbrev kend : KK ((List UInt8) × Bool) := kEnd cfg.tt rs (kFin cfg.tt 0 false [9, 4] [] [] decB)
noncomputable abbrev rn := run cfg X 29 0 code kend
theorem s0 (k : Nat) (J : Nat → Fr → Heap → Option ((List UInt8) × Bool)) (x0 : List UInt8) (x1 : Int) : stepJ cfg X 29 0 code kend k J 0 (argFr 0 (encA (x0, x1)).1) (encA (x0, x1)).2 = b0 k x0 x1 := by kernel_rfl
theorem run_ok : ∀ (k : Nat) (a : (List UInt8) × Int), rn k 0 (argFr 0 (encA a).1) (encA a).2 = m k a.1 a.2
  | 0, _ => rfl
  | k + 1, (x0, x1) => by
    have h := s0 k (rn k) x0 x1
    exact h
theorem snd (k : Nat) : Snd Tryd.prog cfg k ct := fn_snd (X := X) cfgOk mixed ok (np := 0) (vps := []) (vws := []) (decA := decA) (encA := encA) (decB := decB) (encB := encB)
  (by
    intro xs H a h
    unfold decA at h
    split at h
    · cases h; exact ⟨rfl, rfl, rfl, rfl⟩
    · cases h)
  (by
    intro v H b h
    unfold decB at h
    split at h
    · cases h; exact ⟨rfl, fun _ _ _ h => (by cases h), rfl⟩
    · cases h)
  rfl k (fun k' _ => AllS.mem (l := X) trivial) (fun a => run_ok k a)
end quote_within

/-! cavil/cavilref10.between -/
namespace cavilref10_between
def b0 (k : Nat) (x0 : List UInt8) (x1 : Int) : Option (Bool) :=
  bif (decide ((x0.length : Int) ≥ 2)) then
    gk (inB 0 x0.length)
      (bif ((byt x0 0) == x1) then
        gk (inB (wr .i64 ((x0.length : Int) - 1)) x0.length)
          (some ((byt x0 (wr .i64 ((x0.length : Int) - 1))) == x1))
      else
        some false)
  else
    some false
def m : Nat → List UInt8 → Int → Option (Bool)
  | 0, _, _ => none
  | k + 1, x0, x1 => b0 k x0 x1
def anns : Anns := []
noncomputable def code : ACode := codeOf Tryd.f20 anns
def rs : List ResultVar := [.tmp 4]
def decA : List AVal → Heap → Option ((List UInt8) × Int)
  | [.str x0, .int .u8 x1], [] => some (x0, x1)
  | _, _ => none
def encA (a : (List UInt8) × Int) : List AVal × Heap := ([.str a.1, .int .u8 a.2], [])
def decB : AVal → Heap → Option (Bool)
  | .bool y0, [] => some y0
  | _, _ => none
def encB (b : Bool) : Out := (.bool b, [], [])
def X : List Ct := []
def ct : Ct := ⟨20, callRun cfg.tt [(9, false), (5, false)] decA (fun k a => m k a.1 a.2) false encB⟩
theorem ok : FnOk Tryd.prog cfg 20 23 code rs := .of Tryd.func20 (by kernel_rfl) rfl rfl (by kernel_rfl) (by kernel_rfl) rfl
abbrev kend : KK (Bool) := kEnd cfg.tt rs (kFin cfg.tt 0 false [4] [] [] decB)
noncomputable abbrev rn := run cfg X 23 0 code kend
theorem s0 (k : Nat) (J : Nat → Fr → Heap → Option (Bool)) (x0 : List UInt8) (x1 : Int) : stepJ cfg X 23 0 code kend k J 0 (argFr 0 (encA (x0, x1)).1) (encA (x0, x1)).2 = b0 k x0 x1 := by kernel_rfl
theorem run_ok : ∀ (k : Nat) (a : (List UInt8) × Int), rn k 0 (argFr 0 (encA a).1) (encA a).2 = m k a.1 a.2
  | 0, _ => rfl
  | k + 1, (x0, x1) => by
    have h := s0 k (rn k) x0 x1
    exact h
theorem snd (k : Nat) : Snd Tryd.prog cfg k ct := fn_snd (X := X) cfgOk mixed ok (np := 0) (vps := []) (vws := []) (decA := decA) (encA := encA) (decB := decB) (encB := encB)
  (by
    intro xs H a h
    unfold decA at h
    split at h
    · cases h; exact ⟨rfl, rfl, rfl, rfl⟩
    · cases h)
  (by
    intro v H b h
    unfold decB at h
    split at h
    · cases h; exact ⟨rfl, fun _ _ _ h => (by cases h), rfl⟩
    · cases h)
  rfl k (fun k' _ => AllS.mem (l := X) trivial) (fun a => run_ok k a)
end cavilref10_between

/-! cavil/cavilref07.Digit -/
namespace cavilref07_Digit
inductive St where
  | l1 (x0 : Int) (x1 : List UInt8) (x2 : List UInt8) (x3 : Int)
def St.lab : St → Nat
  | .l1 _ _ _ _ => 1
def St.fr : St → Fr
  | .l1 x0 x1 x2 x3 => [(0, .int .u8 x0), (3, .str x1), (4, .str x2), (5, .int .i64 x3)]
def St.hp : St → Heap
  | .l1 x0 x1 x2 x3 => []
def b0 (k : Nat) (J : St → Option (Int)) (x0 : Int) : Option (Int) :=
  J (.l1 x0 ([48, 49, 50, 51, 52, 53, 54, 55, 56, 57, 97, 98, 99, 100, 101, 102] : List UInt8) ([48, 49, 50, 51, 52, 53, 54, 55, 56, 57, 65, 66, 67, 68, 69, 70] : List UInt8) 0)
def b1 (k : Nat) (J : St → Option (Int)) (x0 : Int) (x1 : List UInt8) (x2 : List UInt8) (x3 : Int) : Option (Int) :=
  bif (decide (x3 < 16)) then
    gk (inB x3 x1.length)
      (bif ((byt x1 x3) == x0) then
        some x3
      else
        gk (inB x3 x2.length)
          (bif ((byt x2 x3) == x0) then
            some x3
          else
            J (.l1 x0 x1 x2 (wr .i64 (x3 + 1)))))
  else
    some 99
def go : Nat → St → Option (Int)
  | 0, _ => none
  | k + 1, .l1 x0 x1 x2 x3 => b1 k (go k) x0 x1 x2 x3
def m : Nat → Int → Option (Int)
  | 0, _ => none
  | k + 1, x0 => b0 k (go k) x0
def anns : Anns := [(5, 1, [(0, 5, false), (3, 9, false), (4, 9, false), (5, 3, false)])]
noncomputable def code : ACode := codeOf Tryd.f45 anns
def rs : List ResultVar := [.tmp 2]
def decA : List AVal → Heap → Option (Int)
  | [.int .u8 x0], [] => some x0
  | _, _ => none
def encA (a : Int) : List AVal × Heap := ([.int .u8 a], [])
def decB : AVal → Heap → Option (Int)
  | .int .i64 y0, [] => some y0
  | _, _ => none
def encB (b : Int) : Out := (.int .i64 b, [], [])
def X : List Ct := []
def ct : Ct := ⟨45, callRun cfg.tt [(5, false)] decA (fun k a => m k a) false encB⟩
theorem ok : FnOk Tryd.prog cfg 45 23 code rs := .of Tryd.func45 (by kernel_rfl) rfl rfl (by kernel_rfl) (by kernel_rfl) rfl
abbrev kend : KK (Int) := kEnd cfg.tt rs (kFin cfg.tt 0 false [3] [] [] decB)
noncomputable abbrev rn := run cfg X 23 0 code kend
theorem s0 (k : Nat) (J : Nat → Fr → Heap → Option (Int)) (x0 : Int) : stepJ cfg X 23 0 code kend k J 0 (argFr 0 (encA x0).1) (encA x0).2 = b0 k (fun s => J s.lab s.fr s.hp) x0 := by kernel_rfl
theorem s1 (k : Nat) (J : Nat → Fr → Heap → Option (Int)) (x0 : Int) (x1 : List UInt8) (x2 : List UInt8) (x3 : Int) : stepJ cfg X 23 0 code kend k J (St.l1 x0 x1 x2 x3).lab (St.l1 x0 x1 x2 x3).fr (St.l1 x0 x1 x2 x3).hp = b1 k (fun s => J s.lab s.fr s.hp) x0 x1 x2 x3 := by kernel_rfl
theorem go_ok : ∀ (k : Nat) (s : St), rn k s.lab s.fr s.hp = go k s
  | 0, _ => rfl
  | k + 1, .l1 x0 x1 x2 x3 => by
    have h := s1 k (rn k) x0 x1 x2 x3
    rw [show (fun s : St => rn k s.lab s.fr s.hp) = go k from funext (go_ok k)] at h
    exact h
theorem run_ok : ∀ (k : Nat) (a : Int), rn k 0 (argFr 0 (encA a).1) (encA a).2 = m k a
  | 0, _ => rfl
  | k + 1, x0 => by
    have h := s0 k (rn k) x0
    rw [show (fun s : St => rn k s.lab s.fr s.hp) = go k from funext (go_ok k)] at h
    exact h
theorem snd (k : Nat) : Snd Tryd.prog cfg k ct := fn_snd (X := X) cfgOk mixed ok (np := 0) (vps := []) (vws := []) (decA := decA) (encA := encA) (decB := decB) (encB := encB)
  (by
    intro xs H a h
    unfold decA at h
    split at h
    · cases h; exact ⟨rfl, rfl, rfl, rfl⟩
    · cases h)
  (by
    intro v H b h
    unfold decB at h
    split at h
    · cases h; exact ⟨rfl, fun _ _ _ h => (by cases h), rfl⟩
    · cases h)
  rfl k (fun k' _ => AllS.mem (l := X) trivial) (fun a => run_ok k a)
end cavilref07_Digit

/-! cavil/cavilref10.number -/
namespace cavilref10_number
inductive St where
  | l1 (x0 : List UInt8) (x1 : Int) (x2 : Int) (x3 : Int) (x4 : Int) (x5 : Int)
def St.lab : St → Nat
  | .l1 _ _ _ _ _ _ => 1
def St.fr : St → Fr
  | .l1 x0 x1 x2 x3 x4 x5 => [(0, .str x0), (1, .int .i64 x1), (2, .int .i64 x2), (3, .int .i64 x3), (9, .int .i64 x4), (10, .int .i64 x5)]
def St.hp : St → Heap
  | .l1 x0 x1 x2 x3 x4 x5 => []
def b0 (k : Nat) (J : St → Option (Int)) (x0 : List UInt8) (x1 : Int) (x2 : Int) (x3 : Int) : Option (Int) :=
  bif (decide ((x0.length : Int) < (wr .i64 (x1 + x2)))) then
    some (-1)
  else
    J (.l1 x0 x1 x2 x3 0 x1)
def b1 (k : Nat) (J : St → Option (Int)) (x0 : List UInt8) (x1 : Int) (x2 : Int) (x3 : Int) (x4 : Int) (x5 : Int) : Option (Int) :=
  bif (decide (x5 < (wr .i64 (x1 + x2)))) then
    gk (inB x5 x0.length)
      (bindO (cavilref07_Digit.m k (byt x0 x5)) fun r1 =>
        bif (decide (r1 ≥ x3)) then
          some (-1)
        else
          J (.l1 x0 x1 x2 x3 (wr .i64 ((wr .i64 (x4 * x3)) + r1)) (wr .i64 (x5 + 1))))
  else
    some x4
def go : Nat → St → Option (Int)
  | 0, _ => none
  | k + 1, .l1 x0 x1 x2 x3 x4 x5 => b1 k (go k) x0 x1 x2 x3 x4 x5
def m : Nat → List UInt8 → Int → Int → Int → Option (Int)
  | 0, _, _, _, _ => none
  | k + 1, x0, x1, x2, x3 => b0 k (go k) x0 x1 x2 x3
def anns : Anns := [(7, 1, [(0, 9, false), (1, 3, false), (2, 3, false), (3, 3, false), (9, 3, false), (10, 3, false)])]
noncomputable def code : ACode := codeOf Tryd.f37 anns
def rs : List ResultVar := [.tmp 8]
def decA : List AVal → Heap → Option ((List UInt8) × Int × Int × Int)
  | [.str x0, .int .i64 x1, .int .i64 x2, .int .i64 x3], [] => some (x0, x1, x2, x3)
  | _, _ => none
def encA (a : (List UInt8) × Int × Int × Int) : List AVal × Heap := ([.str a.1, .int .i64 a.2.1, .int .i64 a.2.2.1, .int .i64 a.2.2.2], [])
def decB : AVal → Heap → Option (Int)
  | .int .i64 y0, [] => some y0
  | _, _ => none
def encB (b : Int) : Out := (.int .i64 b, [], [])
def X : List Ct := [cavilref07_Digit.ct]
def ct : Ct := ⟨37, callRun cfg.tt [(9, false), (3, false), (3, false), (3, false)] decA (fun k a => m k a.1 a.2.1 a.2.2.1 a.2.2.2) false encB⟩
theorem ok : FnOk Tryd.prog cfg 37 39 code rs := .of Tryd.func37 (by kernel_rfl) rfl rfl (by kernel_rfl) (by kernel_rfl) rfl
abbrev kend : KK (Int) := kEnd cfg.tt rs (kFin cfg.tt 0 false [3] [] [] decB)
noncomputable abbrev rn := run cfg X 39 0 code kend
theorem s0 (k : Nat) (J : Nat → Fr → Heap → Option (Int)) (x0 : List UInt8) (x1 : Int) (x2 : Int) (x3 : Int) : stepJ cfg X 39 0 code kend k J 0 (argFr 0 (encA (x0, x1, x2, x3)).1) (encA (x0, x1, x2, x3)).2 = b0 k (fun s => J s.lab s.fr s.hp) x0 x1 x2 x3 := by kernel_rfl
theorem s1 (k : Nat) (J : Nat → Fr → Heap → Option (Int)) (x0 : List UInt8) (x1 : Int) (x2 : Int) (x3 : Int) (x4 : Int) (x5 : Int) : stepJ cfg X 39 0 code kend k J (St.l1 x0 x1 x2 x3 x4 x5).lab (St.l1 x0 x1 x2 x3 x4 x5).fr (St.l1 x0 x1 x2 x3 x4 x5).hp = b1 k (fun s => J s.lab s.fr s.hp) x0 x1 x2 x3 x4 x5 := by kernel_rfl
theorem go_ok : ∀ (k : Nat) (s : St), rn k s.lab s.fr s.hp = go k s
  | 0, _ => rfl
  | k + 1, .l1 x0 x1 x2 x3 x4 x5 => by
    have h := s1 k (rn k) x0 x1 x2 x3 x4 x5
    rw [show (fun s : St => rn k s.lab s.fr s.hp) = go k from funext (go_ok k)] at h
    exact h
theorem run_ok : ∀ (k : Nat) (a : (List UInt8) × Int × Int × Int), rn k 0 (argFr 0 (encA a).1) (encA a).2 = m k a.1 a.2.1 a.2.2.1 a.2.2.2
  | 0, _ => rfl
  | k + 1, (x0, x1, x2, x3) => by
    have h := s0 k (rn k) x0 x1 x2 x3
    rw [show (fun s : St => rn k s.lab s.fr s.hp) = go k from funext (go_ok k)] at h
    exact h
theorem snd (k : Nat) : Snd Tryd.prog cfg k ct := fn_snd (X := X) cfgOk mixed ok (np := 0) (vps := []) (vws := []) (decA := decA) (encA := encA) (decB := decB) (encB := encB)
  (by
    intro xs H a h
    unfold decA at h
    split at h
    · cases h; exact ⟨rfl, rfl, rfl, rfl⟩
    · cases h)
  (by
    intro v H b h
    unfold decB at h
    split at h
    · cases h; exact ⟨rfl, fun _ _ _ h => (by cases h), rfl⟩
    · cases h)
  rfl k (fun k' _ => AllS.mem (l := X) ⟨cavilref07_Digit.snd k', trivial⟩) (fun a => run_ok k a)
end cavilref10_number

/-! cavil/cavilref10.Escape -/
namespace cavilref10_Escape
inductive St where
  | l1 (x0 : List Int) (x1 : List UInt8) (x2 : Int) (x3 : List UInt8) (x4 : Int)
  | l2 (x0 : List UInt8) (x1 : Bool)
  | l3 (x0 : Int) (x1 : Bool)
  | l4 (x0 : Int) (x1 : Bool)
def St.lab : St → Nat
  | .l1 _ _ _ _ _ => 1
  | .l2 _ _ => 2
  | .l3 _ _ => 3
  | .l4 _ _ => 4
def St.fr : St → Fr
  | .l1 x0 x1 x2 x3 x4 => [(0, .str x1), (1, .int .u8 x2), (7, .str x3), (8, .slice 0 1 .all), (9, .int .i64 x4)]
  | .l2 x0 x1 => [(0, .str x0), (42, .bool x1)]
  | .l3 x0 x1 => [(11, .int .i64 x0), (64, .bool x1)]
  | .l4 x0 x1 => [(12, .int .i64 x0), (76, .bool x1)]
def St.hp : St → Heap
  | .l1 x0 x1 x2 x3 x4 => [.row 0 1 true 3 (.int .i64 x0)]
  | .l2 x0 x1 => []
  | .l3 x0 x1 => []
  | .l4 x0 x1 => []
def b0 (k : Nat) (J : St → Option (Int × Int × Int)) (x0 : List UInt8) (x1 : Int) : Option (Int × Int × Int) :=
  bif (decide ((x0.length : Int) < 2)) then
    some (0, 0, 0)
  else
    J (.l1 ([7, 8, 12, 10, 13, 9, 11] : List Int) x0 x1 ([97, 98, 102, 110, 114, 116, 118] : List UInt8) 0)
def b1 (k : Nat) (J : St → Option (Int × Int × Int)) (x0 : List Int) (x1 : List UInt8) (x2 : Int) (x3 : List UInt8) (x4 : Int) : Option (Int × Int × Int) :=
  bif (decide (x4 < (x3.length : Int))) then
    gk (inB x4 x3.length)
      (gk (inB 1 x1.length)
        (bif ((byt x3 x4) == (byt x1 1)) then
          gk (inB x4 x0.length)
            (some ((x0.getD x4.toNat 0), 1, 2))
        else
          J (.l1 x0 x1 x2 x3 (wr .i64 (x4 + 1)))))
  else
    gk (inB 1 x1.length)
      (bif ((byt x1 1) == 92) then
        J (.l2 x1 true)
      else
        gk (inB 1 x1.length)
          (J (.l2 x1 ((byt x1 1) == x2))))
def b2 (k : Nat) (J : St → Option (Int × Int × Int)) (x0 : List UInt8) (x1 : Bool) : Option (Int × Int × Int) :=
  bif x1 then
    gk (inB 1 x0.length)
      (some ((wr .i64 (byt x0 1)), 1, 2))
  else
    gk (inB 1 x0.length)
      (bif ((byt x0 1) == 120) then
        bindO (cavilref10_number.m k x0 2 2 16) fun r1 =>
          bif (decide (r1 ≥ 0)) then
            some (r1, 1, 4)
          else
            some (0, 0, 0)
      else
        gk (inB 1 x0.length)
          (bif ((byt x0 1) == 117) then
            bindO (cavilref10_number.m k x0 2 4 16) fun r2 =>
              bif (decide (r2 ≥ 0)) then
                bindO (cavilref01_Rune.m k r2) fun r3 =>
                  J (.l3 r2 r3)
              else
                J (.l3 r2 false)
          else
            gk (inB 1 x0.length)
              (bif ((byt x0 1) == 85) then
                bindO (cavilref10_number.m k x0 2 8 16) fun r4 =>
                  bif (decide (r4 ≥ 0)) then
                    bindO (cavilref01_Rune.m k r4) fun r5 =>
                      J (.l4 r4 r5)
                  else
                    J (.l4 r4 false)
              else
                bindO (cavilref10_number.m k x0 1 3 8) fun r6 =>
                  bif (decide (r6 ≥ 0)) then
                    bif (decide (r6 < 256)) then
                      some (r6, 1, 4)
                    else
                      some (0, 0, 0)
                  else
                    some (0, 0, 0))))
def b3 (k : Nat) (J : St → Option (Int × Int × Int)) (x0 : Int) (x1 : Bool) : Option (Int × Int × Int) :=
  bif x1 then
    some (x0, 0, 6)
  else
    some (0, 0, 0)
def b4 (k : Nat) (J : St → Option (Int × Int × Int)) (x0 : Int) (x1 : Bool) : Option (Int × Int × Int) :=
  bif x1 then
    some (x0, 0, 10)
  else
    some (0, 0, 0)
def go : Nat → St → Option (Int × Int × Int)
  | 0, _ => none
  | k + 1, .l1 x0 x1 x2 x3 x4 => b1 k (go k) x0 x1 x2 x3 x4
  | k + 1, .l2 x0 x1 => b2 k (go k) x0 x1
  | k + 1, .l3 x0 x1 => b3 k (go k) x0 x1
  | k + 1, .l4 x0 x1 => b4 k (go k) x0 x1
def m : Nat → List UInt8 → Int → Option (Int × Int × Int)
  | 0, _, _ => none
  | k + 1, x0, x1 => b0 k (go k) x0 x1
def anns : Anns := [(8, 1, [(0, 9, false), (1, 5, false), (7, 9, false), (8, 71, false), (9, 3, false)]), (15, 2, [(0, 9, false), (42, 4, false)]), (28, 3, [(11, 3, false), (64, 4, false)]), (35, 4, [(12, 3, false), (76, 4, false)])]
noncomputable def code : ACode := codeOf Tryd.f21 anns
def rs : List ResultVar := [.tmp 4, .tmp 5, .tmp 6]
def decA : List AVal → Heap → Option ((List UInt8) × Int)
  | [.str x0, .int .u8 x1], [] => some (x0, x1)
  | _, _ => none
def encA (a : (List UInt8) × Int) : List AVal × Heap := ([.str a.1, .int .u8 a.2], [])
def decB : AVal → Heap → Option (Int × Int × Int)
  | .tup (.pair (.int .i64 y0) (.pair (.int .i64 y1) (.pair (.int .i64 y2) .nil))), [] => some (y0, y1, y2)
  | _, _ => none
def encB (b : Int × Int × Int) : Out := (.tup (.pair (.int .i64 b.1) (.pair (.int .i64 b.2.1) (.pair (.int .i64 b.2.2) .nil))), [], [])
def X : List Ct := [cavilref10_number.ct, cavilref01_Rune.ct]
def ct : Ct := ⟨21, callRun cfg.tt [(9, false), (5, false)] decA (fun k a => m k a.1 a.2) false encB⟩
theorem ok : FnOk Tryd.prog cfg 21 87 code rs := .of Tryd.func21 (by kernel_rfl) rfl rfl (by kernel_rfl) (by kernel_rfl) rfl
abbrev kend : KK (Int × Int × Int) := kEnd cfg.tt rs (kFin cfg.tt 0 false [3, 3, 3] [] [] decB)
noncomputable abbrev rn := run cfg X 87 0 code kend
theorem s0 (k : Nat) (J : Nat → Fr → Heap → Option (Int × Int × Int)) (x0 : List UInt8) (x1 : Int) : stepJ cfg X 87 0 code kend k J 0 (argFr 0 (encA (x0, x1)).1) (encA (x0, x1)).2 = b0 k (fun s => J s.lab s.fr s.hp) x0 x1 := by kernel_rfl
theorem s1 (k : Nat) (J : Nat → Fr → Heap → Option (Int × Int × Int)) (x0 : List Int) (x1 : List UInt8) (x2 : Int) (x3 : List UInt8) (x4 : Int) : stepJ cfg X 87 0 code kend k J (St.l1 x0 x1 x2 x3 x4).lab (St.l1 x0 x1 x2 x3 x4).fr (St.l1 x0 x1 x2 x3 x4).hp = b1 k (fun s => J s.lab s.fr s.hp) x0 x1 x2 x3 x4 := by kernel_rfl
theorem s2 (k : Nat) (J : Nat → Fr → Heap → Option (Int × Int × Int)) (x0 : List UInt8) (x1 : Bool) : stepJ cfg X 87 0 code kend k J (St.l2 x0 x1).lab (St.l2 x0 x1).fr (St.l2 x0 x1).hp = b2 k (fun s => J s.lab s.fr s.hp) x0 x1 := by kernel_rfl
theorem s3 (k : Nat) (J : Nat → Fr → Heap → Option (Int × Int × Int)) (x0 : Int) (x1 : Bool) : stepJ cfg X 87 0 code kend k J (St.l3 x0 x1).lab (St.l3 x0 x1).fr (St.l3 x0 x1).hp = b3 k (fun s => J s.lab s.fr s.hp) x0 x1 := by kernel_rfl
theorem s4 (k : Nat) (J : Nat → Fr → Heap → Option (Int × Int × Int)) (x0 : Int) (x1 : Bool) : stepJ cfg X 87 0 code kend k J (St.l4 x0 x1).lab (St.l4 x0 x1).fr (St.l4 x0 x1).hp = b4 k (fun s => J s.lab s.fr s.hp) x0 x1 := by kernel_rfl
theorem go_ok : ∀ (k : Nat) (s : St), rn k s.lab s.fr s.hp = go k s
  | 0, _ => rfl
  | k + 1, .l1 x0 x1 x2 x3 x4 => by
    have h := s1 k (rn k) x0 x1 x2 x3 x4
    rw [show (fun s : St => rn k s.lab s.fr s.hp) = go k from funext (go_ok k)] at h
    exact h
  | k + 1, .l2 x0 x1 => by
    have h := s2 k (rn k) x0 x1
    rw [show (fun s : St => rn k s.lab s.fr s.hp) = go k from funext (go_ok k)] at h
    exact h
  | k + 1, .l3 x0 x1 => by
    have h := s3 k (rn k) x0 x1
    rw [show (fun s : St => rn k s.lab s.fr s.hp) = go k from funext (go_ok k)] at h
    exact h
  | k + 1, .l4 x0 x1 => by
    have h := s4 k (rn k) x0 x1
    rw [show (fun s : St => rn k s.lab s.fr s.hp) = go k from funext (go_ok k)] at h
    exact h
theorem run_ok : ∀ (k : Nat) (a : (List UInt8) × Int), rn k 0 (argFr 0 (encA a).1) (encA a).2 = m k a.1 a.2
  | 0, _ => rfl
  | k + 1, (x0, x1) => by
    have h := s0 k (rn k) x0 x1
    rw [show (fun s : St => rn k s.lab s.fr s.hp) = go k from funext (go_ok k)] at h
    exact h
theorem snd (k : Nat) : Snd Tryd.prog cfg k ct := fn_snd (X := X) cfgOk mixed ok (np := 0) (vps := []) (vws := []) (decA := decA) (encA := encA) (decB := decB) (encB := encB)
  (by
    intro xs H a h
    unfold decA at h
    split at h
    · cases h; exact ⟨rfl, rfl, rfl, rfl⟩
    · cases h)
  (by
    intro v H b h
    unfold decB at h
    split at h
    · cases h; exact ⟨rfl, fun _ _ _ h => (by cases h), rfl⟩
    · cases h)
  rfl k (fun k' _ => AllS.mem (l := X) ⟨cavilref10_number.snd k', cavilref01_Rune.snd k', trivial⟩) (fun a => run_ok k a)
end cavilref10_Escape

/-! cavil/cavilref01.Decode -/
namespace cavilref01_Decode
inductive St where
  | l1 (x0 : List UInt8) (x1 : Int) (x2 : Int)
  | l2 (x0 : List UInt8) (x1 : Int) (x2 : Int) (x3 : Bool)
  | l3 (x0 : List UInt8) (x1 : Int) (x2 : Int) (x3 : Int)
  | l4 (x0 : List UInt8) (x1 : Int) (x2 : Int) (x3 : Int)
  | l5 (x0 : List UInt8) (x1 : Int) (x2 : Int) (x3 : Int)
  | l6 (x0 : List UInt8) (x1 : Int) (x2 : Int) (x3 : Int) (x4 : Int)
def St.lab : St → Nat
  | .l1 _ _ _ => 1
  | .l2 _ _ _ _ => 2
  | .l3 _ _ _ _ => 3
  | .l4 _ _ _ _ => 4
  | .l5 _ _ _ _ => 5
  | .l6 _ _ _ _ _ => 6
def St.fr : St → Fr
  | .l1 x0 x1 x2 => [(0, .slice 0 1 .all), (1, .int .i64 x1), (7, .int .i64 x2)]
  | .l2 x0 x1 x2 x3 => [(0, .slice 0 1 .all), (1, .int .i64 x1), (7, .int .i64 x2), (27, .bool x3)]
  | .l3 x0 x1 x2 x3 => [(0, .slice 0 1 .all), (1, .int .i64 x1), (7, .int .i64 x2), (8, .int .i64 x3)]
  | .l4 x0 x1 x2 x3 => [(0, .slice 0 1 .all), (1, .int .i64 x1), (7, .int .i64 x2), (8, .int .i64 x3)]
  | .l5 x0 x1 x2 x3 => [(0, .slice 0 1 .all), (1, .int .i64 x1), (7, .int .i64 x2), (8, .int .i64 x3)]
  | .l6 x0 x1 x2 x3 x4 => [(0, .slice 0 1 .all), (1, .int .i64 x1), (7, .int .i64 x2), (8, .int .i64 x3), (9, .int .i64 x4)]
def St.hp : St → Heap
  | .l1 x0 x1 x2 => [.row 0 1 false 5 (.u8 x0)]
  | .l2 x0 x1 x2 x3 => [.row 0 1 false 5 (.u8 x0)]
  | .l3 x0 x1 x2 x3 => [.row 0 1 false 5 (.u8 x0)]
  | .l4 x0 x1 x2 x3 => [.row 0 1 false 5 (.u8 x0)]
  | .l5 x0 x1 x2 x3 => [.row 0 1 false 5 (.u8 x0)]
  | .l6 x0 x1 x2 x3 x4 => [.row 0 1 false 5 (.u8 x0)]
def b0 (k : Nat) (J : St → Option (Int × Int × Int)) (x0 : List UInt8) (x1 : Int) : Option (Int × Int × Int) :=
  bif (decide (x1 < 0)) then
    some (0, 0, 4)
  else
    bif (decide (x1 ≥ (x0.length : Int))) then
      some (0, 0, 4)
    else
      J (.l1 x0 x1 1)
def b1 (k : Nat) (J : St → Option (Int × Int × Int)) (x0 : List UInt8) (x1 : Int) (x2 : Int) : Option (Int × Int × Int) :=
  bif (decide (x2 ≤ 4)) then
    J (.l2 x0 x1 x2 (decide (x2 ≤ (wr .i64 ((x0.length : Int) - x1)))))
  else
    J (.l2 x0 x1 x2 false)
def b2 (k : Nat) (J : St → Option (Int × Int × Int)) (x0 : List UInt8) (x1 : Int) (x2 : Int) (x3 : Bool) : Option (Int × Int × Int) :=
  bif x3 then
    gk (inB x1 x0.length)
      (bif (x2 == 2) then
        J (.l3 x0 x1 x2 (remI (wr .i64 ((x0.getD x1.toNat 0).toNat : Int)) 32))
      else
        J (.l3 x0 x1 x2 (wr .i64 ((x0.getD x1.toNat 0).toNat : Int))))
  else
    some (0, 0, 3)
def b3 (k : Nat) (J : St → Option (Int × Int × Int)) (x0 : List UInt8) (x1 : Int) (x2 : Int) (x3 : Int) : Option (Int × Int × Int) :=
  bif (x2 == 3) then
    J (.l4 x0 x1 x2 (remI x3 16))
  else
    J (.l4 x0 x1 x2 x3)
def b4 (k : Nat) (J : St → Option (Int × Int × Int)) (x0 : List UInt8) (x1 : Int) (x2 : Int) (x3 : Int) : Option (Int × Int × Int) :=
  bif (x2 == 4) then
    J (.l5 x0 x1 x2 (remI x3 8))
  else
    J (.l5 x0 x1 x2 x3)
def b5 (k : Nat) (J : St → Option (Int × Int × Int)) (x0 : List UInt8) (x1 : Int) (x2 : Int) (x3 : Int) : Option (Int × Int × Int) :=
  J (.l6 x0 x1 x2 x3 1)
def b6 (k : Nat) (J : St → Option (Int × Int × Int)) (x0 : List UInt8) (x1 : Int) (x2 : Int) (x3 : Int) (x4 : Int) : Option (Int × Int × Int) :=
  bif (decide (x4 < x2)) then
    gk (inB (wr .i64 (x1 + x4)) x0.length)
      (J (.l6 x0 x1 x2 (wr .i64 ((wr .i64 (x3 * 64)) + (remI (wr .i64 ((x0.getD (wr .i64 (x1 + x4)).toNat 0).toNat : Int)) 64))) (wr .i64 (x4 + 1))))
  else
    bindO (cavilref01_Rune.m k x3) fun r1 =>
      bif r1 then
        bindO (cavilref01_Bytes.m k x3) fun r2 =>
          gk (cutB x1 (wr .i64 (x1 + x2)) x0.length)
            (bif (r2 == (cut x0 x1 (wr .i64 (x1 + x2)))) then
              some (x3, x2, 0)
            else
              J (.l1 x0 x1 (wr .i64 (x2 + 1))))
      else
        J (.l1 x0 x1 (wr .i64 (x2 + 1)))
def go : Nat → St → Option (Int × Int × Int)
  | 0, _ => none
  | k + 1, .l1 x0 x1 x2 => b1 k (go k) x0 x1 x2
  | k + 1, .l2 x0 x1 x2 x3 => b2 k (go k) x0 x1 x2 x3
  | k + 1, .l3 x0 x1 x2 x3 => b3 k (go k) x0 x1 x2 x3
  | k + 1, .l4 x0 x1 x2 x3 => b4 k (go k) x0 x1 x2 x3
  | k + 1, .l5 x0 x1 x2 x3 => b5 k (go k) x0 x1 x2 x3
  | k + 1, .l6 x0 x1 x2 x3 x4 => b6 k (go k) x0 x1 x2 x3 x4
def m : Nat → List UInt8 → Int → Option (Int × Int × Int)
  | 0, _, _ => none
  | k + 1, x0, x1 => b0 k (go k) x0 x1
def anns : Anns := [(6, 1, [(0, 35, false), (1, 3, false), (7, 3, false)]), (8, 2, [(0, 35, false), (1, 3, false), (7, 3, false), (27, 4, false)]), (11, 3, [(0, 35, false), (1, 3, false), (7, 3, false), (8, 3, false)]), (13, 4, [(0, 35, false), (1, 3, false), (7, 3, false), (8, 3, false)]), (15, 5, [(0, 35, false), (1, 3, false), (7, 3, false), (8, 3, false)]), (19, 6, [(0, 35, false), (1, 3, false), (7, 3, false), (8, 3, false), (9, 3, false)])]
noncomputable def code : ACode := codeOf Tryd.f22 anns
def rs : List ResultVar := [.tmp 4, .tmp 5, .tmp 6]
def decA : List AVal → Heap → Option ((List UInt8) × Int)
  | [.slice 0 1 .all, .int .i64 x1], [.row 0 1 false 5 (.u8 x0)] => some (x0, x1)
  | _, _ => none
def encA (a : (List UInt8) × Int) : List AVal × Heap := ([.slice 0 1 .all, .int .i64 a.2], [.row 0 1 false 5 (.u8 a.1)])
def decB : AVal → Heap → Option (Int × Int × Int)
  | .tup (.pair (.int .i64 y0) (.pair (.int .i64 y1) (.pair (.int .i64 y2) .nil))), [_] => some (y0, y1, y2)
  | _, _ => none
def encB (b : Int × Int × Int) : Out := (.tup (.pair (.int .i64 b.1) (.pair (.int .i64 b.2.1) (.pair (.int .i64 b.2.2) .nil))), [], [])
def X : List Ct := [cavilref01_Rune.ct, cavilref01_Bytes.ct]
def ct : Ct := ⟨22, callRun cfg.tt [(35, false), (3, false)] decA (fun k a => m k a.1 a.2) false encB⟩
theorem ok : FnOk Tryd.prog cfg 22 80 code rs := .of Tryd.func22 (by kernel_rfl) rfl rfl (by kernel_rfl) (by kernel_rfl) rfl
abbrev kend : KK (Int × Int × Int) := kEnd cfg.tt rs (kFin cfg.tt 1 false [3, 3, 3] [] [0] decB)
noncomputable abbrev rn := run cfg X 80 1 code kend
theorem s0 (k : Nat) (J : Nat → Fr → Heap → Option (Int × Int × Int)) (x0 : List UInt8) (x1 : Int) : stepJ cfg X 80 1 code kend k J 0 (argFr 0 (encA (x0, x1)).1) (encA (x0, x1)).2 = b0 k (fun s => J s.lab s.fr s.hp) x0 x1 := by kernel_rfl
theorem s1 (k : Nat) (J : Nat → Fr → Heap → Option (Int × Int × Int)) (x0 : List UInt8) (x1 : Int) (x2 : Int) : stepJ cfg X 80 1 code kend k J (St.l1 x0 x1 x2).lab (St.l1 x0 x1 x2).fr (St.l1 x0 x1 x2).hp = b1 k (fun s => J s.lab s.fr s.hp) x0 x1 x2 := by kernel_rfl
theorem s2 (k : Nat) (J : Nat → Fr → Heap → Option (Int × Int × Int)) (x0 : List UInt8) (x1 : Int) (x2 : Int) (x3 : Bool) : stepJ cfg X 80 1 code kend k J (St.l2 x0 x1 x2 x3).lab (St.l2 x0 x1 x2 x3).fr (St.l2 x0 x1 x2 x3).hp = b2 k (fun s => J s.lab s.fr s.hp) x0 x1 x2 x3 := by kernel_rfl
theorem s3 (k : Nat) (J : Nat → Fr → Heap → Option (Int × Int × Int)) (x0 : List UInt8) (x1 : Int) (x2 : Int) (x3 : Int) : stepJ cfg X 80 1 code kend k J (St.l3 x0 x1 x2 x3).lab (St.l3 x0 x1 x2 x3).fr (St.l3 x0 x1 x2 x3).hp = b3 k (fun s => J s.lab s.fr s.hp) x0 x1 x2 x3 := by kernel_rfl
theorem s4 (k : Nat) (J : Nat → Fr → Heap → Option (Int × Int × Int)) (x0 : List UInt8) (x1 : Int) (x2 : Int) (x3 : Int) : stepJ cfg X 80 1 code kend k J (St.l4 x0 x1 x2 x3).lab (St.l4 x0 x1 x2 x3).fr (St.l4 x0 x1 x2 x3).hp = b4 k (fun s => J s.lab s.fr s.hp) x0 x1 x2 x3 := by kernel_rfl
theorem s5 (k : Nat) (J : Nat → Fr → Heap → Option (Int × Int × Int)) (x0 : List UInt8) (x1 : Int) (x2 : Int) (x3 : Int) : stepJ cfg X 80 1 code kend k J (St.l5 x0 x1 x2 x3).lab (St.l5 x0 x1 x2 x3).fr (St.l5 x0 x1 x2 x3).hp = b5 k (fun s => J s.lab s.fr s.hp) x0 x1 x2 x3 := by kernel_rfl
theorem s6 (k : Nat) (J : Nat → Fr → Heap → Option (Int × Int × Int)) (x0 : List UInt8) (x1 : Int) (x2 : Int) (x3 : Int) (x4 : Int) : stepJ cfg X 80 1 code kend k J (St.l6 x0 x1 x2 x3 x4).lab (St.l6 x0 x1 x2 x3 x4).fr (St.l6 x0 x1 x2 x3 x4).hp = b6 k (fun s => J s.lab s.fr s.hp) x0 x1 x2 x3 x4 := by kernel_rfl
theorem go_ok : ∀ (k : Nat) (s : St), rn k s.lab s.fr s.hp = go k s
  | 0, _ => rfl
  | k + 1, .l1 x0 x1 x2 => by
    have h := s1 k (rn k) x0 x1 x2
    rw [show (fun s : St => rn k s.lab s.fr s.hp) = go k from funext (go_ok k)] at h
    exact h
  | k + 1, .l2 x0 x1 x2 x3 => by
    have h := s2 k (rn k) x0 x1 x2 x3
    rw [show (fun s : St => rn k s.lab s.fr s.hp) = go k from funext (go_ok k)] at h
    exact h
  | k + 1, .l3 x0 x1 x2 x3 => by
    have h := s3 k (rn k) x0 x1 x2 x3
    rw [show (fun s : St => rn k s.lab s.fr s.hp) = go k from funext (go_ok k)] at h
    exact h
  | k + 1, .l4 x0 x1 x2 x3 => by
    have h := s4 k (rn k) x0 x1 x2 x3
    rw [show (fun s : St => rn k s.lab s.fr s.hp) = go k from funext (go_ok k)] at h
    exact h
  | k + 1, .l5 x0 x1 x2 x3 => by
    have h := s5 k (rn k) x0 x1 x2 x3
    rw [show (fun s : St => rn k s.lab s.fr s.hp) = go k from funext (go_ok k)] at h
    exact h
  | k + 1, .l6 x0 x1 x2 x3 x4 => by
    have h := s6 k (rn k) x0 x1 x2 x3 x4
    rw [show (fun s : St => rn k s.lab s.fr s.hp) = go k from funext (go_ok k)] at h
    exact h
theorem run_ok : ∀ (k : Nat) (a : (List UInt8) × Int), rn k 0 (argFr 0 (encA a).1) (encA a).2 = m k a.1 a.2
  | 0, _ => rfl
  | k + 1, (x0, x1) => by
    have h := s0 k (rn k) x0 x1
    rw [show (fun s : St => rn k s.lab s.fr s.hp) = go k from funext (go_ok k)] at h
    exact h
theorem snd (k : Nat) : Snd Tryd.prog cfg k ct := fn_snd (X := X) cfgOk mixed ok (np := 1) (vps := []) (vws := [0]) (decA := decA) (encA := encA) (decB := decB) (encB := encB)
  (by
    intro xs H a h
    unfold decA at h
    split at h
    · cases h; exact ⟨rfl, rfl, rfl, rfl⟩
    · cases h)
  (by
    intro v H b h
    unfold decB at h
    split at h
    · cases h; exact ⟨rfl, fun _ _ _ h => (by cases h), rfl⟩
    · cases h)
  rfl k (fun k' _ => AllS.mem (l := X) ⟨cavilref01_Rune.snd k', cavilref01_Bytes.snd k', trivial⟩) (fun a => run_ok k a)
end cavilref01_Decode

/-! cavil/quote.Char -/
namespace quote_Char
inductive St where
  | l1 (x0 : List UInt8) (x1 : Bool)
  | l2 (x0 : List UInt8) (x1 : Int) (x2 : Int)
  | l3 (x0 : List UInt8) (x1 : Bool)
def St.lab : St → Nat
  | .l1 _ _ => 1
  | .l2 _ _ _ => 3
  | .l3 _ _ => 2
def St.fr : St → Fr
  | .l1 x0 x1 => [(4, .str x0), (21, .bool x1)]
  | .l2 x0 x1 x2 => [(4, .str x0), (6, .int .i32 x1), (7, .int .i64 x2)]
  | .l3 x0 x1 => [(4, .str x0), (48, .bool x1)]
def St.hp : St → Heap
  | .l1 x0 x1 => []
  | .l2 x0 x1 x2 => []
  | .l3 x0 x1 => []
def b0 (k : Nat) (J : St → Option (Int × Er)) (x0 : List UInt8) : Option (Int × Er) :=
  bindO (quote_within.m k x0 39) fun r1 =>
    bif (!r1.2) then
      J (.l1 r1.1 true)
    else
      J (.l1 r1.1 (r1.1 == ([] : List UInt8)))
def b1 (k : Nat) (J : St → Option (Int × Er)) (x0 : List UInt8) (x1 : Bool) : Option (Int × Er) :=
  bif x1 then
    some (0, (.no 8))
  else
    gk (inB 0 x0.length)
      (bif ((byt x0 0) == 92) then
        bindO (quote_escape.m k x0 39) fun r1 =>
          bif (r1.2.2 == 0) then
            some (0, (.no 14))
          else
            J (.l2 x0 r1.1 r1.2.2)
      else
        bif ((byt x0 0) == 39) then
          J (.l3 x0 ((byt x0 0) == 39))
        else
          J (.l3 x0 ((byt x0 0) == 10)))
def b2 (k : Nat) (J : St → Option (Int × Er)) (x0 : List UInt8) (x1 : Int) (x2 : Int) : Option (Int × Er) :=
  bif (decide (x2 < (x0.length : Int))) then
    some (0, (.no 8))
  else
    some (x1, .nil)
def b3 (k : Nat) (J : St → Option (Int × Er)) (x0 : List UInt8) (x1 : Bool) : Option (Int × Er) :=
  bif x1 then
    some (0, (.no 8))
  else
    bindO (utf_Decode.m k x0 0) fun r1 =>
      bif (!r1.2.2.isNil) then
        some (0, r1.2.2)
      else
        J (.l2 x0 r1.1 r1.2.1)
def go : Nat → St → Option (Int × Er)
  | 0, _ => none
  | k + 1, .l1 x0 x1 => b1 k (go k) x0 x1
  | k + 1, .l2 x0 x1 x2 => b2 k (go k) x0 x1 x2
  | k + 1, .l3 x0 x1 => b3 k (go k) x0 x1
def m : Nat → List UInt8 → Option (Int × Er)
  | 0, _ => none
  | k + 1, x0 => b0 k (go k) x0
def anns : Anns := [(3, 1, [(4, 9, false), (21, 4, false)]), (7, 3, [(4, 9, false), (6, 21, false), (7, 3, false)]), (13, 2, [(4, 9, false), (48, 4, false)])]
noncomputable def code : ACode := codeOf Tryd.f7 anns
def rs : List ResultVar := [.tmp 2, .tmp 3]
def decA : List AVal → Heap → Option ((List UInt8))
  | [.str x0], [] => some x0
  | _, _ => none
def encA (a : (List UInt8)) : List AVal × Heap := ([.str a], [])
def decB : AVal → Heap → Option (Int × Er)
  | .tup (.pair (.int .i32 y0) (.pair (.err y1) .nil)), [] => some (y0, y1)
  | _, _ => none
def encB (b : Int × Er) : Out := (.tup (.pair (.int .i32 b.1) (.pair (.err b.2) .nil)), [], [])
def X : List Ct := [quote_within.ct, quote_escape.ct, utf_Decode.ct]
def ct : Ct := ⟨7, callRun cfg.tt [(9, false)] decA (fun k a => m k a) false encB⟩
theorem ok : FnOk Tryd.prog cfg 7 58 code rs := .of Tryd.func7 (by kernel_rfl) rfl rfl (by kernel_rfl) (by kernel_rfl) rfl
abbrev kend : KK (Int × Er) := kEnd cfg.tt rs (kFin cfg.tt 0 false [21, 23] [] [] decB)
noncomputable abbrev rn := run cfg X 58 0 code kend
theorem s0 (k : Nat) (J : Nat → Fr → Heap → Option (Int × Er)) (x0 : List UInt8) : stepJ cfg X 58 0 code kend k J 0 (argFr 0 (encA x0).1) (encA x0).2 = b0 k (fun s => J s.lab s.fr s.hp) x0 := by kernel_rfl
theorem s1 (k : Nat) (J : Nat → Fr → Heap → Option (Int × Er)) (x0 : List UInt8) (x1 : Bool) : stepJ cfg X 58 0 code kend k J (St.l1 x0 x1).lab (St.l1 x0 x1).fr (St.l1 x0 x1).hp = b1 k (fun s => J s.lab s.fr s.hp) x0 x1 := by kernel_rfl
theorem s2 (k : Nat) (J : Nat → Fr → Heap → Option (Int × Er)) (x0 : List UInt8) (x1 : Int) (x2 : Int) : stepJ cfg X 58 0 code kend k J (St.l2 x0 x1 x2).lab (St.l2 x0 x1 x2).fr (St.l2 x0 x1 x2).hp = b2 k (fun s => J s.lab s.fr s.hp) x0 x1 x2 := by kernel_rfl
theorem s3 (k : Nat) (J : Nat → Fr → Heap → Option (Int × Er)) (x0 : List UInt8) (x1 : Bool) : stepJ cfg X 58 0 code kend k J (St.l3 x0 x1).lab (St.l3 x0 x1).fr (St.l3 x0 x1).hp = b3 k (fun s => J s.lab s.fr s.hp) x0 x1 := by kernel_rfl
theorem go_ok : ∀ (k : Nat) (s : St), rn k s.lab s.fr s.hp = go k s
  | 0, _ => rfl
  | k + 1, .l1 x0 x1 => by
    have h := s1 k (rn k) x0 x1
    rw [show (fun s : St => rn k s.lab s.fr s.hp) = go k from funext (go_ok k)] at h
    exact h
  | k + 1, .l2 x0 x1 x2 => by
    have h := s2 k (rn k) x0 x1 x2
    rw [show (fun s : St => rn k s.lab s.fr s.hp) = go k from funext (go_ok k)] at h
    exact h
  | k + 1, .l3 x0 x1 => by
    have h := s3 k (rn k) x0 x1
    rw [show (fun s : St => rn k s.lab s.fr s.hp) = go k from funext (go_ok k)] at h
    exact h
theorem run_ok : ∀ (k : Nat) (a : (List UInt8)), rn k 0 (argFr 0 (encA a).1) (encA a).2 = m k a
  | 0, _ => rfl
  | k + 1, x0 => by
    have h := s0 k (rn k) x0
    rw [show (fun s : St => rn k s.lab s.fr s.hp) = go k from funext (go_ok k)] at h
    exact h
theorem snd (k : Nat) : Snd Tryd.prog cfg k ct := fn_snd (X := X) cfgOk mixed ok (np := 0) (vps := []) (vws := []) (decA := decA) (encA := encA) (decB := decB) (encB := encB)
  (by
    intro xs H a h
    unfold decA at h
    split at h
    · cases h; exact ⟨rfl, rfl, rfl, rfl⟩
    · cases h)
  (by
    intro v H b h
    unfold decB at h
    split at h
    · cases h; exact ⟨rfl, fun _ _ _ h => (by cases h), rfl⟩
    · cases h)
  rfl k (fun k' _ => AllS.mem (l := X) ⟨quote_within.snd k', quote_escape.snd k', utf_Decode.snd k', trivial⟩) (fun a => run_ok k a)
end quote_Char

/-! cavil/cavilref10.Char -/
namespace cavilref10_Char
inductive St where
  | l1 (x0 : List UInt8) (x1 : Bool)
def St.lab : St → Nat
  | .l1 _ _ => 1
def St.fr : St → Fr
  | .l1 x0 x1 => [(0, .str x0), (25, .bool x1)]
def St.hp : St → Heap
  | .l1 x0 x1 => []
def b0 (k : Nat) (J : St → Option (Int × Int)) (x0 : List UInt8) : Option (Int × Int) :=
  bindO (cavilref10_between.m k x0 39) fun r1 =>
    bif (!r1) then
      J (.l1 x0 true)
    else
      bif ((x0.length : Int) == 2) then
        J (.l1 x0 true)
      else
        gk (inB 1 x0.length)
          (bif ((byt x0 1) == 39) then
            J (.l1 x0 true)
          else
            gk (inB 1 x0.length)
              (J (.l1 x0 ((byt x0 1) == 10))))
def b1 (k : Nat) (J : St → Option (Int × Int)) (x0 : List UInt8) (x1 : Bool) : Option (Int × Int) :=
  bif x1 then
    some (0, 8)
  else
    gk (cutB 1 (wr .i64 ((x0.length : Int) - 1)) x0.length)
      (gk (inB 0 (cut x0 1 (wr .i64 ((x0.length : Int) - 1))).length)
        (bif ((byt (cut x0 1 (wr .i64 ((x0.length : Int) - 1))) 0) == 92) then
          bindO (cavilref10_Escape.m k (cut x0 1 (wr .i64 ((x0.length : Int) - 1))) 39) fun r1 =>
            bif (r1.2.2 == 0) then
              some (0, 14)
            else
              bif (r1.2.2 != ((cut x0 1 (wr .i64 ((x0.length : Int) - 1))).length : Int)) then
                some (0, 8)
              else
                some (r1.1, 0)
        else
          bindO (cavilref01_Decode.m k (cut x0 1 (wr .i64 ((x0.length : Int) - 1))) 0) fun r2 =>
            bif (r2.2.2 != 0) then
              some (0, r2.2.2)
            else
              bif (r2.2.1 != ((cut x0 1 (wr .i64 ((x0.length : Int) - 1))).length : Int)) then
                some (0, 8)
              else
                some (r2.1, 0)))
def go : Nat → St → Option (Int × Int)
  | 0, _ => none
  | k + 1, .l1 x0 x1 => b1 k (go k) x0 x1
def m : Nat → List UInt8 → Option (Int × Int)
  | 0, _ => none
  | k + 1, x0 => b0 k (go k) x0
def anns : Anns := [(2, 1, [(0, 9, false), (25, 4, false)])]
noncomputable def code : ACode := codeOf Tryd.f8 anns
def rs : List ResultVar := [.tmp 2, .tmp 3]
def decA : List AVal → Heap → Option ((List UInt8))
  | [.str x0], [] => some x0
  | _, _ => none
def encA (a : (List UInt8)) : List AVal × Heap := ([.str a], [])
def decB : AVal → Heap → Option (Int × Int)
  | .tup (.pair (.int .i64 y0) (.pair (.int .i64 y1) .nil)), [] => some (y0, y1)
  | _, _ => none
def encB (b : Int × Int) : Out := (.tup (.pair (.int .i64 b.1) (.pair (.int .i64 b.2) .nil)), [], [])
def X : List Ct := [cavilref10_between.ct, cavilref10_Escape.ct, cavilref01_Decode.ct]
def ct : Ct := ⟨8, callRun cfg.tt [(9, false)] decA (fun k a => m k a) false encB⟩
theorem ok : FnOk Tryd.prog cfg 8 57 code rs := .of Tryd.func8 (by kernel_rfl) rfl rfl (by kernel_rfl) (by kernel_rfl) rfl
abbrev kend : KK (Int × Int) := kEnd cfg.tt rs (kFin cfg.tt 0 false [3, 3] [] [] decB)
noncomputable abbrev rn := run cfg X 57 0 code kend
theorem s0 (k : Nat) (J : Nat → Fr → Heap → Option (Int × Int)) (x0 : List UInt8) : stepJ cfg X 57 0 code kend k J 0 (argFr 0 (encA x0).1) (encA x0).2 = b0 k (fun s => J s.lab s.fr s.hp) x0 := by kernel_rfl
theorem s1 (k : Nat) (J : Nat → Fr → Heap → Option (Int × Int)) (x0 : List UInt8) (x1 : Bool) : stepJ cfg X 57 0 code kend k J (St.l1 x0 x1).lab (St.l1 x0 x1).fr (St.l1 x0 x1).hp = b1 k (fun s => J s.lab s.fr s.hp) x0 x1 := by kernel_rfl
theorem go_ok : ∀ (k : Nat) (s : St), rn k s.lab s.fr s.hp = go k s
  | 0, _ => rfl
  | k + 1, .l1 x0 x1 => by
    have h := s1 k (rn k) x0 x1
    rw [show (fun s : St => rn k s.lab s.fr s.hp) = go k from funext (go_ok k)] at h
    exact h
theorem run_ok : ∀ (k : Nat) (a : (List UInt8)), rn k 0 (argFr 0 (encA a).1) (encA a).2 = m k a
  | 0, _ => rfl
  | k + 1, x0 => by
    have h := s0 k (rn k) x0
    rw [show (fun s : St => rn k s.lab s.fr s.hp) = go k from funext (go_ok k)] at h
    exact h
theorem snd (k : Nat) : Snd Tryd.prog cfg k ct := fn_snd (X := X) cfgOk mixed ok (np := 0) (vps := []) (vws := []) (decA := decA) (encA := encA) (decB := decB) (encB := encB)
  (by
    intro xs H a h
    unfold decA at h
    split at h
    · cases h; exact ⟨rfl, rfl, rfl, rfl⟩
    · cases h)
  (by
    intro v H b h
    unfold decB at h
    split at h
    · cases h; exact ⟨rfl, fun _ _ _ h => (by cases h), rfl⟩
    · cases h)
  rfl k (fun k' _ => AllS.mem (l := X) ⟨cavilref10_between.snd k', cavilref10_Escape.snd k', cavilref01_Decode.snd k', trivial⟩) (fun a => run_ok k a)
end cavilref10_Char

/-! cavil/quote.Write -/
namespace quote_Write
inductive St where
  | l1 (x0 : List UInt8) (x1 : List UInt8) (x2 : Int) (x3 : Int)
  | l2 (x0 : List UInt8) (x1 : List UInt8) (x2 : Int) (x3 : Int) (x4 : Int) (x5 : Bool)
  | l3 (x0 : List UInt8) (x1 : List UInt8) (x2 : Int) (x3 : Int) (x4 : Int) (x5 : Bool)
def St.lab : St → Nat
  | .l1 _ _ _ _ => 1
  | .l2 _ _ _ _ _ _ => 2
  | .l3 _ _ _ _ _ _ => 3
def St.fr : St → Fr
  | .l1 x0 x1 x2 x3 => [(3, .slice 0 1 .all), (8, .slice 1 1 .all), (9, .int .i64 x2), (10, .int .i64 x3)]
  | .l2 x0 x1 x2 x3 x4 x5 => [(3, .slice 0 1 .all), (5, .int .u8 x2), (8, .slice 1 1 .all), (9, .int .i64 x3), (10, .int .i64 x4), (23, .bool x5)]
  | .l3 x0 x1 x2 x3 x4 x5 => [(3, .slice 0 1 .all), (5, .int .u8 x2), (8, .slice 1 1 .all), (9, .int .i64 x3), (10, .int .i64 x4), (32, .bool x5)]
def St.hp : St → Heap
  | .l1 x0 x1 x2 x3 => [.row 0 1 true 5 (.u8 x0), .row 0 1 true 5 (.u8 x1)]
  | .l2 x0 x1 x2 x3 x4 x5 => [.row 0 1 true 5 (.u8 x0), .row 0 1 true 5 (.u8 x1)]
  | .l3 x0 x1 x2 x3 x4 x5 => [.row 0 1 true 5 (.u8 x0), .row 0 1 true 5 (.u8 x1)]
def b0 (k : Nat) (J : St → Option ((List UInt8))) (x0 : List UInt8) : Option ((List UInt8)) :=
  J (.l1 ([34] : List UInt8) x0 (x0.length : Int) 0)
def b1 (k : Nat) (J : St → Option ((List UInt8))) (x0 : List UInt8) (x1 : List UInt8) (x2 : Int) (x3 : Int) : Option ((List UInt8)) :=
  bif (decide (x3 < x2)) then
    gk (inB x3 x1.length)
      (bif (((x1.getD x3.toNat 0).toNat : Int) == 34) then
        J (.l2 x0 x1 ((x1.getD x3.toNat 0).toNat : Int) x2 x3 (((x1.getD x3.toNat 0).toNat : Int) == 34))
      else
        J (.l2 x0 x1 ((x1.getD x3.toNat 0).toNat : Int) x2 x3 (((x1.getD x3.toNat 0).toNat : Int) == 92)))
  else
    gk (room (x0 ++ ([34] : List UInt8)).length)
      (some (x0 ++ ([34] : List UInt8)))
def b2 (k : Nat) (J : St → Option ((List UInt8))) (x0 : List UInt8) (x1 : List UInt8) (x2 : Int) (x3 : Int) (x4 : Int) (x5 : Bool) : Option ((List UInt8)) :=
  bif x5 then
    gk (room (x0 ++ ([92, toU8 x2] : List UInt8)).length)
      (J (.l1 (x0 ++ ([92, toU8 x2] : List UInt8)) x1 x3 (wr .i64 (x4 + 1))))
  else
    bif (decide (x2 ≥ 32)) then
      J (.l3 x0 x1 x2 x3 x4 (decide (x2 ≤ 126)))
    else
      J (.l3 x0 x1 x2 x3 x4 false)
def b3 (k : Nat) (J : St → Option ((List UInt8))) (x0 : List UInt8) (x1 : List UInt8) (x2 : Int) (x3 : Int) (x4 : Int) (x5 : Bool) : Option ((List UInt8)) :=
  bif x5 then
    gk (room (x0 ++ ([toU8 x2] : List UInt8)).length)
      (J (.l1 (x0 ++ ([toU8 x2] : List UInt8)) x1 x3 (wr .i64 (x4 + 1))))
  else
    gk (inB (shrI .u8 x2 4) ([48, 49, 50, 51, 52, 53, 54, 55, 56, 57, 97, 98, 99, 100, 101, 102] : List UInt8).length)
      (gk (inB (Go.bits .and .u8 x2 15) ([48, 49, 50, 51, 52, 53, 54, 55, 56, 57, 97, 98, 99, 100, 101, 102] : List UInt8).length)
        (gk (room (x0 ++ ([92, 120, toU8 (byt ([48, 49, 50, 51, 52, 53, 54, 55, 56, 57, 97, 98, 99, 100, 101, 102] : List UInt8) (shrI .u8 x2 4)), toU8 (byt ([48, 49, 50, 51, 52, 53, 54, 55, 56, 57, 97, 98, 99, 100, 101, 102] : List UInt8) (Go.bits .and .u8 x2 15))] : List UInt8)).length)
          (J (.l1 (x0 ++ ([92, 120, toU8 (byt ([48, 49, 50, 51, 52, 53, 54, 55, 56, 57, 97, 98, 99, 100, 101, 102] : List UInt8) (shrI .u8 x2 4)), toU8 (byt ([48, 49, 50, 51, 52, 53, 54, 55, 56, 57, 97, 98, 99, 100, 101, 102] : List UInt8) (Go.bits .and .u8 x2 15))] : List UInt8)) x1 x3 (wr .i64 (x4 + 1))))))
def go : Nat → St → Option ((List UInt8))
  | 0, _ => none
  | k + 1, .l1 x0 x1 x2 x3 => b1 k (go k) x0 x1 x2 x3
  | k + 1, .l2 x0 x1 x2 x3 x4 x5 => b2 k (go k) x0 x1 x2 x3 x4 x5
  | k + 1, .l3 x0 x1 x2 x3 x4 x5 => b3 k (go k) x0 x1 x2 x3 x4 x5
def m : Nat → List UInt8 → Option ((List UInt8))
  | 0, _ => none
  | k + 1, x0 => b0 k (go k) x0
def anns : Anns := [(4, 1, [(3, 35, false), (8, 35, false), (9, 3, false), (10, 3, false)]), (9, 2, [(3, 35, false), (5, 5, false), (8, 35, false), (9, 3, false), (10, 3, false), (23, 4, false)]), (11, 3, [(3, 35, false), (5, 5, false), (8, 35, false), (9, 3, false), (10, 3, false), (32, 4, false)])]
noncomputable def code : ACode := codeOf Tryd.f14 anns
def rs : List ResultVar := [.tmp 2]
def decA : List AVal → Heap → Option ((List UInt8))
  | [.str x0], [] => some x0
  | _, _ => none
def encA (a : (List UInt8)) : List AVal × Heap := ([.str a], [])
def decB : AVal → Heap → Option ((List UInt8))
  | .str y0, [] => some y0
  | _, _ => none
def encB (b : (List UInt8)) : Out := (.str b, [], [])
def X : List Ct := []
def ct : Ct := ⟨14, callRun cfg.tt [(9, false)] decA (fun k a => m k a) false encB⟩
theorem ok : FnOk Tryd.prog cfg 14 48 code rs := .of Tryd.func14 (by kernel_rfl) rfl rfl (by kernel_rfl) (by kernel_rfl) rfl
abbrev kend : KK ((List UInt8)) := kEnd cfg.tt rs (kFin cfg.tt 0 false [9] [] [] decB)
noncomputable abbrev rn := run cfg X 48 0 code kend
theorem s0 (k : Nat) (J : Nat → Fr → Heap → Option ((List UInt8))) (x0 : List UInt8) : stepJ cfg X 48 0 code kend k J 0 (argFr 0 (encA x0).1) (encA x0).2 = b0 k (fun s => J s.lab s.fr s.hp) x0 := by kernel_rfl
theorem s1 (k : Nat) (J : Nat → Fr → Heap → Option ((List UInt8))) (x0 : List UInt8) (x1 : List UInt8) (x2 : Int) (x3 : Int) : stepJ cfg X 48 0 code kend k J (St.l1 x0 x1 x2 x3).lab (St.l1 x0 x1 x2 x3).fr (St.l1 x0 x1 x2 x3).hp = b1 k (fun s => J s.lab s.fr s.hp) x0 x1 x2 x3 := by kernel_rfl
theorem s2 (k : Nat) (J : Nat → Fr → Heap → Option ((List UInt8))) (x0 : List UInt8) (x1 : List UInt8) (x2 : Int) (x3 : Int) (x4 : Int) (x5 : Bool) : stepJ cfg X 48 0 code kend k J (St.l2 x0 x1 x2 x3 x4 x5).lab (St.l2 x0 x1 x2 x3 x4 x5).fr (St.l2 x0 x1 x2 x3 x4 x5).hp = b2 k (fun s => J s.lab s.fr s.hp) x0 x1 x2 x3 x4 x5 := by kernel_rfl
theorem s3 (k : Nat) (J : Nat → Fr → Heap → Option ((List UInt8))) (x0 : List UInt8) (x1 : List UInt8) (x2 : Int) (x3 : Int) (x4 : Int) (x5 : Bool) : stepJ cfg X 48 0 code kend k J (St.l3 x0 x1 x2 x3 x4 x5).lab (St.l3 x0 x1 x2 x3 x4 x5).fr (St.l3 x0 x1 x2 x3 x4 x5).hp = b3 k (fun s => J s.lab s.fr s.hp) x0 x1 x2 x3 x4 x5 := by kernel_rfl
theorem go_ok : ∀ (k : Nat) (s : St), rn k s.lab s.fr s.hp = go k s
  | 0, _ => rfl
  | k + 1, .l1 x0 x1 x2 x3 => by
    have h := s1 k (rn k) x0 x1 x2 x3
    rw [show (fun s : St => rn k s.lab s.fr s.hp) = go k from funext (go_ok k)] at h
    exact h
  | k + 1, .l2 x0 x1 x2 x3 x4 x5 => by
    have h := s2 k (rn k) x0 x1 x2 x3 x4 x5
    rw [show (fun s : St => rn k s.lab s.fr s.hp) = go k from funext (go_ok k)] at h
    exact h
  | k + 1, .l3 x0 x1 x2 x3 x4 x5 => by
    have h := s3 k (rn k) x0 x1 x2 x3 x4 x5
    rw [show (fun s : St => rn k s.lab s.fr s.hp) = go k from funext (go_ok k)] at h
    exact h
theorem run_ok : ∀ (k : Nat) (a : (List UInt8)), rn k 0 (argFr 0 (encA a).1) (encA a).2 = m k a
  | 0, _ => rfl
  | k + 1, x0 => by
    have h := s0 k (rn k) x0
    rw [show (fun s : St => rn k s.lab s.fr s.hp) = go k from funext (go_ok k)] at h
    exact h
theorem snd (k : Nat) : Snd Tryd.prog cfg k ct := fn_snd (X := X) cfgOk mixed ok (np := 0) (vps := []) (vws := []) (decA := decA) (encA := encA) (decB := decB) (encB := encB)
  (by
    intro xs H a h
    unfold decA at h
    split at h
    · cases h; exact ⟨rfl, rfl, rfl, rfl⟩
    · cases h)
  (by
    intro v H b h
    unfold decB at h
    split at h
    · cases h; exact ⟨rfl, fun _ _ _ h => (by cases h), rfl⟩
    · cases h)
  rfl k (fun k' _ => AllS.mem (l := X) trivial) (fun a => run_ok k a)
end quote_Write

/-! cavil/cavilref10.Write -/
namespace cavilref10_Write
inductive St where
  | l1 (x0 : List UInt8) (x1 : List UInt8) (x2 : List UInt8) (x3 : Int)
  | l2 (x0 : List UInt8) (x1 : List UInt8) (x2 : List UInt8) (x3 : Int) (x4 : Int) (x5 : Bool)
  | l3 (x0 : List UInt8) (x1 : List UInt8) (x2 : List UInt8) (x3 : Int) (x4 : Int) (x5 : Bool)
def St.lab : St → Nat
  | .l1 _ _ _ _ => 1
  | .l2 _ _ _ _ _ _ => 2
  | .l3 _ _ _ _ _ _ => 3
def St.fr : St → Fr
  | .l1 x0 x1 x2 x3 => [(0, .str x1), (3, .str x2), (4, .slice 0 1 .all), (5, .int .i64 x3)]
  | .l2 x0 x1 x2 x3 x4 x5 => [(0, .str x1), (3, .str x2), (4, .slice 0 1 .all), (5, .int .i64 x3), (6, .int .u8 x4), (22, .bool x5)]
  | .l3 x0 x1 x2 x3 x4 x5 => [(0, .str x1), (3, .str x2), (4, .slice 0 1 .all), (5, .int .i64 x3), (6, .int .u8 x4), (32, .bool x5)]
def St.hp : St → Heap
  | .l1 x0 x1 x2 x3 => [.row 0 1 true 5 (.u8 x0)]
  | .l2 x0 x1 x2 x3 x4 x5 => [.row 0 1 true 5 (.u8 x0)]
  | .l3 x0 x1 x2 x3 x4 x5 => [.row 0 1 true 5 (.u8 x0)]
def b0 (k : Nat) (J : St → Option ((List UInt8))) (x0 : List UInt8) : Option ((List UInt8)) :=
  J (.l1 ([34] : List UInt8) x0 ([48, 49, 50, 51, 52, 53, 54, 55, 56, 57, 97, 98, 99, 100, 101, 102] : List UInt8) 0)
def b1 (k : Nat) (J : St → Option ((List UInt8))) (x0 : List UInt8) (x1 : List UInt8) (x2 : List UInt8) (x3 : Int) : Option ((List UInt8)) :=
  bif (decide (x3 < (x1.length : Int))) then
    gk (inB x3 x1.length)
      (bif ((byt x1 x3) == 34) then
        J (.l2 x0 x1 x2 x3 (byt x1 x3) true)
      else
        J (.l2 x0 x1 x2 x3 (byt x1 x3) ((byt x1 x3) == 92)))
  else
    gk (room (x0 ++ ([34] : List UInt8)).length)
      (some (x0 ++ ([34] : List UInt8)))
def b2 (k : Nat) (J : St → Option ((List UInt8))) (x0 : List UInt8) (x1 : List UInt8) (x2 : List UInt8) (x3 : Int) (x4 : Int) (x5 : Bool) : Option ((List UInt8)) :=
  bif x5 then
    gk (room (x0 ++ ([92, toU8 x4] : List UInt8)).length)
      (J (.l1 (x0 ++ ([92, toU8 x4] : List UInt8)) x1 x2 (wr .i64 (x3 + 1))))
  else
    bif (decide (x4 ≥ 32)) then
      J (.l3 x0 x1 x2 x3 x4 (decide (x4 < 127)))
    else
      J (.l3 x0 x1 x2 x3 x4 false)
def b3 (k : Nat) (J : St → Option ((List UInt8))) (x0 : List UInt8) (x1 : List UInt8) (x2 : List UInt8) (x3 : Int) (x4 : Int) (x5 : Bool) : Option ((List UInt8)) :=
  bif x5 then
    gk (room (x0 ++ ([toU8 x4] : List UInt8)).length)
      (J (.l1 (x0 ++ ([toU8 x4] : List UInt8)) x1 x2 (wr .i64 (x3 + 1))))
  else
    gk (inB (quoI .u8 x4 16) x2.length)
      (gk (inB (remI x4 16) x2.length)
        (gk (room (x0 ++ ([92, 120, toU8 (byt x2 (quoI .u8 x4 16)), toU8 (byt x2 (remI x4 16))] : List UInt8)).length)
          (J (.l1 (x0 ++ ([92, 120, toU8 (byt x2 (quoI .u8 x4 16)), toU8 (byt x2 (remI x4 16))] : List UInt8)) x1 x2 (wr .i64 (x3 + 1))))))
def go : Nat → St → Option ((List UInt8))
  | 0, _ => none
  | k + 1, .l1 x0 x1 x2 x3 => b1 k (go k) x0 x1 x2 x3
  | k + 1, .l2 x0 x1 x2 x3 x4 x5 => b2 k (go k) x0 x1 x2 x3 x4 x5
  | k + 1, .l3 x0 x1 x2 x3 x4 x5 => b3 k (go k) x0 x1 x2 x3 x4 x5
def m : Nat → List UInt8 → Option ((List UInt8))
  | 0, _ => none
  | k + 1, x0 => b0 k (go k) x0
def anns : Anns := [(5, 1, [(0, 9, false), (3, 9, false), (4, 35, false), (5, 3, false)]), (10, 2, [(0, 9, false), (3, 9, false), (4, 35, false), (5, 3, false), (6, 5, false), (22, 4, false)]), (11, 3, [(0, 9, false), (3, 9, false), (4, 35, false), (5, 3, false), (6, 5, false), (32, 4, false)])]
noncomputable def code : ACode := codeOf Tryd.f15 anns
def rs : List ResultVar := [.tmp 2]
def decA : List AVal → Heap → Option ((List UInt8))
  | [.str x0], [] => some x0
  | _, _ => none
def encA (a : (List UInt8)) : List AVal × Heap := ([.str a], [])
def decB : AVal → Heap → Option ((List UInt8))
  | .str y0, [] => some y0
  | _, _ => none
def encB (b : (List UInt8)) : Out := (.str b, [], [])
def X : List Ct := []
def ct : Ct := ⟨15, callRun cfg.tt [(9, false)] decA (fun k a => m k a) false encB⟩
theorem ok : FnOk Tryd.prog cfg 15 52 code rs := .of Tryd.func15 (by kernel_rfl) rfl rfl (by kernel_rfl) (by kernel_rfl) rfl
abbrev kend : KK ((List UInt8)) := kEnd cfg.tt rs (kFin cfg.tt 0 false [9] [] [] decB)
noncomputable abbrev rn := run cfg X 52 0 code kend
theorem s0 (k : Nat) (J : Nat → Fr → Heap → Option ((List UInt8))) (x0 : List UInt8) : stepJ cfg X 52 0 code kend k J 0 (argFr 0 (encA x0).1) (encA x0).2 = b0 k (fun s => J s.lab s.fr s.hp) x0 := by kernel_rfl
theorem s1 (k : Nat) (J : Nat → Fr → Heap → Option ((List UInt8))) (x0 : List UInt8) (x1 : List UInt8) (x2 : List UInt8) (x3 : Int) : stepJ cfg X 52 0 code kend k J (St.l1 x0 x1 x2 x3).lab (St.l1 x0 x1 x2 x3).fr (St.l1 x0 x1 x2 x3).hp = b1 k (fun s => J s.lab s.fr s.hp) x0 x1 x2 x3 := by kernel_rfl
theorem s2 (k : Nat) (J : Nat → Fr → Heap → Option ((List UInt8))) (x0 : List UInt8) (x1 : List UInt8) (x2 : List UInt8) (x3 : Int) (x4 : Int) (x5 : Bool) : stepJ cfg X 52 0 code kend k J (St.l2 x0 x1 x2 x3 x4 x5).lab (St.l2 x0 x1 x2 x3 x4 x5).fr (St.l2 x0 x1 x2 x3 x4 x5).hp = b2 k (fun s => J s.lab s.fr s.hp) x0 x1 x2 x3 x4 x5 := by kernel_rfl
theorem s3 (k : Nat) (J : Nat → Fr → Heap → Option ((List UInt8))) (x0 : List UInt8) (x1 : List UInt8) (x2 : List UInt8) (x3 : Int) (x4 : Int) (x5 : Bool) : stepJ cfg X 52 0 code kend k J (St.l3 x0 x1 x2 x3 x4 x5).lab (St.l3 x0 x1 x2 x3 x4 x5).fr (St.l3 x0 x1 x2 x3 x4 x5).hp = b3 k (fun s => J s.lab s.fr s.hp) x0 x1 x2 x3 x4 x5 := by kernel_rfl
theorem go_ok : ∀ (k : Nat) (s : St), rn k s.lab s.fr s.hp = go k s
  | 0, _ => rfl
  | k + 1, .l1 x0 x1 x2 x3 => by
    have h := s1 k (rn k) x0 x1 x2 x3
    rw [show (fun s : St => rn k s.lab s.fr s.hp) = go k from funext (go_ok k)] at h
    exact h
  | k + 1, .l2 x0 x1 x2 x3 x4 x5 => by
    have h := s2 k (rn k) x0 x1 x2 x3 x4 x5
    rw [show (fun s : St => rn k s.lab s.fr s.hp) = go k from funext (go_ok k)] at h
    exact h
  | k + 1, .l3 x0 x1 x2 x3 x4 x5 => by
    have h := s3 k (rn k) x0 x1 x2 x3 x4 x5
    rw [show (fun s : St => rn k s.lab s.fr s.hp) = go k from funext (go_ok k)] at h
    exact h
theorem run_ok : ∀ (k : Nat) (a : (List UInt8)), rn k 0 (argFr 0 (encA a).1) (encA a).2 = m k a
  | 0, _ => rfl
  | k + 1, x0 => by
    have h := s0 k (rn k) x0
    rw [show (fun s : St => rn k s.lab s.fr s.hp) = go k from funext (go_ok k)] at h
    exact h
theorem snd (k : Nat) : Snd Tryd.prog cfg k ct := fn_snd (X := X) cfgOk mixed ok (np := 0) (vps := []) (vws := []) (decA := decA) (encA := encA) (decB := decB) (encB := encB)
  (by
    intro xs H a h
    unfold decA at h
    split at h
    · cases h; exact ⟨rfl, rfl, rfl, rfl⟩
    · cases h)
  (by
    intro v H b h
    unfold decB at h
    split at h
    · cases h; exact ⟨rfl, fun _ _ _ h => (by cases h), rfl⟩
    · cases h)
  rfl k (fun k' _ => AllS.mem (l := X) trivial) (fun a => run_ok k a)
end cavilref10_Write

/-! cavil/cavilref10.End -/
namespace cavilref10_End
inductive St where
  | l1 (x0 : List UInt8) (x1 : Int) (x2 : Int)
  | l2 (x0 : List UInt8) (x1 : Int) (x2 : Int) (x3 : Bool)
def St.lab : St → Nat
  | .l1 _ _ _ => 1
  | .l2 _ _ _ _ => 2
def St.fr : St → Fr
  | .l1 x0 x1 x2 => [(0, .slice 0 1 .all), (6, .int .u8 x1), (7, .int .i64 x2)]
  | .l2 x0 x1 x2 x3 => [(0, .slice 0 1 .all), (6, .int .u8 x1), (7, .int .i64 x2), (26, .bool x3)]
def St.hp : St → Heap
  | .l1 x0 x1 x2 => [.row 0 1 false 5 (.u8 x0)]
  | .l2 x0 x1 x2 x3 => [.row 0 1 false 5 (.u8 x0)]
def b0 (k : Nat) (J : St → Option (Int × Bool)) (x0 : List UInt8) (x1 : Int) : Option (Int × Bool) :=
  gk (inB x1 x0.length)
    (J (.l1 x0 ((x0.getD x1.toNat 0).toNat : Int) (wr .i64 (x1 + 1))))
def b1 (k : Nat) (J : St → Option (Int × Bool)) (x0 : List UInt8) (x1 : Int) (x2 : Int) : Option (Int × Bool) :=
  bif (decide (x2 < (x0.length : Int))) then
    bif (x1 != 96) then
      gk (inB x2 x0.length)
        (J (.l2 x0 x1 x2 (((x0.getD x2.toNat 0).toNat : Int) == 10)))
    else
      J (.l2 x0 x1 x2 false)
  else
    some ((x0.length : Int), false)
def b2 (k : Nat) (J : St → Option (Int × Bool)) (x0 : List UInt8) (x1 : Int) (x2 : Int) (x3 : Bool) : Option (Int × Bool) :=
  bif x3 then
    some (x2, false)
  else
    gk (inB x2 x0.length)
      (bif (((x0.getD x2.toNat 0).toNat : Int) == x1) then
        some ((wr .i64 (x2 + 1)), true)
      else
        bif (x1 != 96) then
          gk (inB x2 x0.length)
            (bif (((x0.getD x2.toNat 0).toNat : Int) == 92) then
              bif (decide ((wr .i64 (x2 + 1)) < (x0.length : Int))) then
                gk (inB (wr .i64 (x2 + 1)) x0.length)
                  (bif (((x0.getD (wr .i64 (x2 + 1)).toNat 0).toNat : Int) != 10) then
                    J (.l1 x0 x1 (wr .i64 ((wr .i64 (x2 + 1)) + 1)))
                  else
                    J (.l1 x0 x1 (wr .i64 (x2 + 1))))
              else
                J (.l1 x0 x1 (wr .i64 (x2 + 1)))
            else
              J (.l1 x0 x1 (wr .i64 (x2 + 1))))
        else
          J (.l1 x0 x1 (wr .i64 (x2 + 1))))
def go : Nat → St → Option (Int × Bool)
  | 0, _ => none
  | k + 1, .l1 x0 x1 x2 => b1 k (go k) x0 x1 x2
  | k + 1, .l2 x0 x1 x2 x3 => b2 k (go k) x0 x1 x2 x3
def m : Nat → List UInt8 → Int → Option (Int × Bool)
  | 0, _, _ => none
  | k + 1, x0, x1 => b0 k (go k) x0 x1
def anns : Anns := [(4, 1, [(0, 35, false), (6, 5, false), (7, 3, false)]), (8, 2, [(0, 35, false), (6, 5, false), (7, 3, false), (26, 4, false)])]
noncomputable def code : ACode := codeOf Tryd.f29 anns
def rs : List ResultVar := [.tmp 4, .tmp 5]
def decA : List AVal → Heap → Option ((List UInt8) × Int)
  | [.slice 0 1 .all, .int .i64 x1], [.row 0 1 false 5 (.u8 x0)] => some (x0, x1)
  | _, _ => none
def encA (a : (List UInt8) × Int) : List AVal × Heap := ([.slice 0 1 .all, .int .i64 a.2], [.row 0 1 false 5 (.u8 a.1)])
def decB : AVal → Heap → Option (Int × Bool)
  | .tup (.pair (.int .i64 y0) (.pair (.bool y1) .nil)), [_] => some (y0, y1)
  | _, _ => none
def encB (b : Int × Bool) : Out := (.tup (.pair (.int .i64 b.1) (.pair (.bool b.2) .nil)), [], [])
def X : List Ct := []
def ct : Ct := ⟨29, callRun cfg.tt [(35, false), (3, false)] decA (fun k a => m k a.1 a.2) false encB⟩
theorem ok : FnOk Tryd.prog cfg 29 66 code rs := .of Tryd.func29 (by kernel_rfl) rfl rfl (by kernel_rfl) (by kernel_rfl) rfl
abbrev kend : KK (Int × Bool) := kEnd cfg.tt rs (kFin cfg.tt 1 false [3, 4] [] [0] decB)
noncomputable abbrev rn := run cfg X 66 1 code kend
theorem s0 (k : Nat) (J : Nat → Fr → Heap → Option (Int × Bool)) (x0 : List UInt8) (x1 : Int) : stepJ cfg X 66 1 code kend k J 0 (argFr 0 (encA (x0, x1)).1) (encA (x0, x1)).2 = b0 k (fun s => J s.lab s.fr s.hp) x0 x1 := by kernel_rfl
theorem s1 (k : Nat) (J : Nat → Fr → Heap → Option (Int × Bool)) (x0 : List UInt8) (x1 : Int) (x2 : Int) : stepJ cfg X 66 1 code kend k J (St.l1 x0 x1 x2).lab (St.l1 x0 x1 x2).fr (St.l1 x0 x1 x2).hp = b1 k (fun s => J s.lab s.fr s.hp) x0 x1 x2 := by kernel_rfl
theorem s2 (k : Nat) (J : Nat → Fr → Heap → Option (Int × Bool)) (x0 : List UInt8) (x1 : Int) (x2 : Int) (x3 : Bool) : stepJ cfg X 66 1 code kend k J (St.l2 x0 x1 x2 x3).lab (St.l2 x0 x1 x2 x3).fr (St.l2 x0 x1 x2 x3).hp = b2 k (fun s => J s.lab s.fr s.hp) x0 x1 x2 x3 := by kernel_rfl
theorem go_ok : ∀ (k : Nat) (s : St), rn k s.lab s.fr s.hp = go k s
  | 0, _ => rfl
  | k + 1, .l1 x0 x1 x2 => by
    have h := s1 k (rn k) x0 x1 x2
    rw [show (fun s : St => rn k s.lab s.fr s.hp) = go k from funext (go_ok k)] at h
    exact h
  | k + 1, .l2 x0 x1 x2 x3 => by
    have h := s2 k (rn k) x0 x1 x2 x3
    rw [show (fun s : St => rn k s.lab s.fr s.hp) = go k from funext (go_ok k)] at h
    exact h
theorem run_ok : ∀ (k : Nat) (a : (List UInt8) × Int), rn k 0 (argFr 0 (encA a).1) (encA a).2 = m k a.1 a.2
  | 0, _ => rfl
  | k + 1, (x0, x1) => by
    have h := s0 k (rn k) x0 x1
    rw [show (fun s : St => rn k s.lab s.fr s.hp) = go k from funext (go_ok k)] at h
    exact h
theorem snd (k : Nat) : Snd Tryd.prog cfg k ct := fn_snd (X := X) cfgOk mixed ok (np := 1) (vps := []) (vws := [0]) (decA := decA) (encA := encA) (decB := decB) (encB := encB)
  (by
    intro xs H a h
    unfold decA at h
    split at h
    · cases h; exact ⟨rfl, rfl, rfl, rfl⟩
    · cases h)
  (by
    intro v H b h
    unfold decB at h
    split at h
    · cases h; exact ⟨rfl, fun _ _ _ h => (by cases h), rfl⟩
    · cases h)
  rfl k (fun k' _ => AllS.mem (l := X) trivial) (fun a => run_ok k a)
end cavilref10_End

/-! cavil/cavilref10.Text -/
namespace cavilref10_Text
inductive St where
  | l1 (x0 : List UInt8) (x1 : List UInt8) (x2 : Int)
  | l2 (x0 : List UInt8) (x1 : List UInt8) (x2 : Int)
  | l3 (x0 : List UInt8) (x1 : List UInt8) (x2 : Int) (x3 : Bool)
def St.lab : St → Nat
  | .l1 _ _ _ => 1
  | .l2 _ _ _ => 2
  | .l3 _ _ _ _ => 3
def St.fr : St → Fr
  | .l1 x0 x1 x2 => [(0, .str x0), (4, .str x1), (5, .int .i64 x2)]
  | .l2 x0 x1 x2 => [(4, .str x0), (6, .str x1), (7, .int .i64 x2)]
  | .l3 x0 x1 x2 x3 => [(4, .str x0), (6, .str x1), (7, .int .i64 x2), (57, .bool x3)]
def St.hp : St → Heap
  | .l1 x0 x1 x2 => []
  | .l2 x0 x1 x2 => []
  | .l3 x0 x1 x2 x3 => []
def b0 (k : Nat) (J : St → Option ((List UInt8) × Int)) (x0 : List UInt8) : Option ((List UInt8) × Int) :=
  bindO (cavilref10_between.m k x0 96) fun r1 =>
    bif r1 then
      J (.l1 x0 ([] : List UInt8) 1)
    else
      bindO (cavilref10_between.m k x0 34) fun r2 =>
        bif (!r2) then
          some (([] : List UInt8), 8)
        else
          gk (cutB 1 (wr .i64 ((x0.length : Int) - 1)) x0.length)
            (J (.l2 ([] : List UInt8) (cut x0 1 (wr .i64 ((x0.length : Int) - 1))) 0))
def b1 (k : Nat) (J : St → Option ((List UInt8) × Int)) (x0 : List UInt8) (x1 : List UInt8) (x2 : Int) : Option ((List UInt8) × Int) :=
  bif (decide (x2 < (wr .i64 ((x0.length : Int) - 1)))) then
    gk (inB x2 x0.length)
      (bif ((byt x0 x2) == 96) then
        some (([] : List UInt8), 8)
      else
        gk (inB x2 x0.length)
          (bif ((byt x0 x2) != 13) then
            gk (cutB x2 (wr .i64 (x2 + 1)) x0.length)
              (gk (roomS x1 (cut x0 x2 (wr .i64 (x2 + 1))))
                (J (.l1 x0 (x1 ++ (cut x0 x2 (wr .i64 (x2 + 1)))) (wr .i64 (x2 + 1)))))
          else
            J (.l1 x0 x1 (wr .i64 (x2 + 1)))))
  else
    some (x1, 0)
def b2 (k : Nat) (J : St → Option ((List UInt8) × Int)) (x0 : List UInt8) (x1 : List UInt8) (x2 : Int) : Option ((List UInt8) × Int) :=
  bif (decide (x2 < (x1.length : Int))) then
    gk (inB x2 x1.length)
      (bif ((byt x1 x2) == 34) then
        J (.l3 x0 x1 x2 true)
      else
        gk (inB x2 x1.length)
          (J (.l3 x0 x1 x2 ((byt x1 x2) == 10))))
  else
    some (x0, 0)
def b3 (k : Nat) (J : St → Option ((List UInt8) × Int)) (x0 : List UInt8) (x1 : List UInt8) (x2 : Int) (x3 : Bool) : Option ((List UInt8) × Int) :=
  bif x3 then
    some (([] : List UInt8), 8)
  else
    gk (inB x2 x1.length)
      (bif ((byt x1 x2) != 92) then
        gk (cutB x2 (wr .i64 (x2 + 1)) x1.length)
          (gk (roomS x0 (cut x1 x2 (wr .i64 (x2 + 1))))
            (J (.l2 (x0 ++ (cut x1 x2 (wr .i64 (x2 + 1)))) x1 (wr .i64 (x2 + 1)))))
      else
        gk (cutB x2 (x1.length : Int) x1.length)
          (bindO (cavilref10_Escape.m k (cut x1 x2 (x1.length : Int)) 34) fun r1 =>
            bif (r1.2.2 == 0) then
              some (([] : List UInt8), 14)
            else
              bif (r1.2.1 == 1) then
                gk (roomS x0 ([toU8 (wr .u8 r1.1)] : List UInt8))
                  (J (.l2 (x0 ++ ([toU8 (wr .u8 r1.1)] : List UInt8)) x1 (wr .i64 (x2 + r1.2.2))))
              else
                bindO (cavilref01_Bytes.m k r1.1) fun r2 =>
                  gk (roomS x0 r2)
                    (J (.l2 (x0 ++ r2) x1 (wr .i64 (x2 + r1.2.2))))))
def go : Nat → St → Option ((List UInt8) × Int)
  | 0, _ => none
  | k + 1, .l1 x0 x1 x2 => b1 k (go k) x0 x1 x2
  | k + 1, .l2 x0 x1 x2 => b2 k (go k) x0 x1 x2
  | k + 1, .l3 x0 x1 x2 x3 => b3 k (go k) x0 x1 x2 x3
def m : Nat → List UInt8 → Option ((List UInt8) × Int)
  | 0, _ => none
  | k + 1, x0 => b0 k (go k) x0
def anns : Anns := [(6, 1, [(0, 9, false), (4, 9, false), (5, 3, false)]), (21, 2, [(4, 9, false), (6, 9, false), (7, 3, false)]), (25, 3, [(4, 9, false), (6, 9, false), (7, 3, false), (57, 4, false)])]
noncomputable def code : ACode := codeOf Tryd.f10 anns
def rs : List ResultVar := [.tmp 2, .tmp 3]
def decA : List AVal → Heap → Option ((List UInt8))
  | [.str x0], [] => some x0
  | _, _ => none
def encA (a : (List UInt8)) : List AVal × Heap := ([.str a], [])
def decB : AVal → Heap → Option ((List UInt8) × Int)
  | .tup (.pair (.str y0) (.pair (.int .i64 y1) .nil)), [] => some (y0, y1)
  | _, _ => none
def encB (b : (List UInt8) × Int) : Out := (.tup (.pair (.str b.1) (.pair (.int .i64 b.2) .nil)), [], [])
def X : List Ct := [cavilref10_between.ct, cavilref10_Escape.ct, cavilref01_Bytes.ct]
def ct : Ct := ⟨10, callRun cfg.tt [(9, false)] decA (fun k a => m k a) false encB⟩
theorem ok : FnOk Tryd.prog cfg 10 98 code rs := .of Tryd.func10 (by kernel_rfl) rfl rfl (by kernel_rfl) (by kernel_rfl) rfl
abbrev kend : KK ((List UInt8) × Int) := kEnd cfg.tt rs (kFin cfg.tt 0 false [9, 3] [] [] decB)
noncomputable abbrev rn := run cfg X 98 0 code kend
theorem s0 (k : Nat) (J : Nat → Fr → Heap → Option ((List UInt8) × Int)) (x0 : List UInt8) : stepJ cfg X 98 0 code kend k J 0 (argFr 0 (encA x0).1) (encA x0).2 = b0 k (fun s => J s.lab s.fr s.hp) x0 := by kernel_rfl
theorem s1 (k : Nat) (J : Nat → Fr → Heap → Option ((List UInt8) × Int)) (x0 : List UInt8) (x1 : List UInt8) (x2 : Int) : stepJ cfg X 98 0 code kend k J (St.l1 x0 x1 x2).lab (St.l1 x0 x1 x2).fr (St.l1 x0 x1 x2).hp = b1 k (fun s => J s.lab s.fr s.hp) x0 x1 x2 := by kernel_rfl
theorem s2 (k : Nat) (J : Nat → Fr → Heap → Option ((List UInt8) × Int)) (x0 : List UInt8) (x1 : List UInt8) (x2 : Int) : stepJ cfg X 98 0 code kend k J (St.l2 x0 x1 x2).lab (St.l2 x0 x1 x2).fr (St.l2 x0 x1 x2).hp = b2 k (fun s => J s.lab s.fr s.hp) x0 x1 x2 := by kernel_rfl
theorem s3 (k : Nat) (J : Nat → Fr → Heap → Option ((List UInt8) × Int)) (x0 : List UInt8) (x1 : List UInt8) (x2 : Int) (x3 : Bool) : stepJ cfg X 98 0 code kend k J (St.l3 x0 x1 x2 x3).lab (St.l3 x0 x1 x2 x3).fr (St.l3 x0 x1 x2 x3).hp = b3 k (fun s => J s.lab s.fr s.hp) x0 x1 x2 x3 := by kernel_rfl
theorem go_ok : ∀ (k : Nat) (s : St), rn k s.lab s.fr s.hp = go k s
  | 0, _ => rfl
  | k + 1, .l1 x0 x1 x2 => by
    have h := s1 k (rn k) x0 x1 x2
    rw [show (fun s : St => rn k s.lab s.fr s.hp) = go k from funext (go_ok k)] at h
    exact h
  | k + 1, .l2 x0 x1 x2 => by
    have h := s2 k (rn k) x0 x1 x2
    rw [show (fun s : St => rn k s.lab s.fr s.hp) = go k from funext (go_ok k)] at h
    exact h
  | k + 1, .l3 x0 x1 x2 x3 => by
    have h := s3 k (rn k) x0 x1 x2 x3
    rw [show (fun s : St => rn k s.lab s.fr s.hp) = go k from funext (go_ok k)] at h
    exact h
theorem run_ok : ∀ (k : Nat) (a : (List UInt8)), rn k 0 (argFr 0 (encA a).1) (encA a).2 = m k a
  | 0, _ => rfl
  | k + 1, x0 => by
    have h := s0 k (rn k) x0
    rw [show (fun s : St => rn k s.lab s.fr s.hp) = go k from funext (go_ok k)] at h
    exact h
theorem snd (k : Nat) : Snd Tryd.prog cfg k ct := fn_snd (X := X) cfgOk mixed ok (np := 0) (vps := []) (vws := []) (decA := decA) (encA := encA) (decB := decB) (encB := encB)
  (by
    intro xs H a h
    unfold decA at h
    split at h
    · cases h; exact ⟨rfl, rfl, rfl, rfl⟩
    · cases h)
  (by
    intro v H b h
    unfold decB at h
    split at h
    · cases h; exact ⟨rfl, fun _ _ _ h => (by cases h), rfl⟩
    · cases h)
  rfl k (fun k' _ => AllS.mem (l := X) ⟨cavilref10_between.snd k', cavilref10_Escape.snd k', cavilref01_Bytes.snd k', trivial⟩) (fun a => run_ok k a)
end cavilref10_Text

/-! cavil/quote.closed -/
namespace quote_closed
inductive St where
  | l1 (x0 : List UInt8) (x1 : Int) (x2 : Int)
def St.lab : St → Nat
  | .l1 _ _ _ => 1
def St.fr : St → Fr
  | .l1 x0 x1 x2 => [(0, .slice 0 1 .all), (1, .int .i64 x1), (7, .int .i64 x2)]
def St.hp : St → Heap
  | .l1 x0 x1 x2 => [.row 0 1 false 5 (.u8 x0)]
def b0 (k : Nat) (J : St → Option (Int × Bool)) (x0 : List UInt8) (x1 : Int) : Option (Int × Bool) :=
  gk (inB x1 x0.length)
    (bif (((x0.getD x1.toNat 0).toNat : Int) == 96) then
      gk (cutB (wr .i64 (x1 + 1)) (x0.length : Int) x0.length)
        (bif (decide ((Lib.indexByte (cut x0 (wr .i64 (x1 + 1)) (x0.length : Int)) 96) < 0)) then
          some ((x0.length : Int), false)
        else
          some ((wr .i64 ((wr .i64 (x1 + (Lib.indexByte (cut x0 (wr .i64 (x1 + 1)) (x0.length : Int)) 96))) + 2)), true))
    else
      J (.l1 x0 x1 (wr .i64 (x1 + 1))))
def b1 (k : Nat) (J : St → Option (Int × Bool)) (x0 : List UInt8) (x1 : Int) (x2 : Int) : Option (Int × Bool) :=
  bif (decide (x2 < (x0.length : Int))) then
    gk (inB x2 x0.length)
      (gk (inB x1 x0.length)
        (bif (((x0.getD x2.toNat 0).toNat : Int) == ((x0.getD x1.toNat 0).toNat : Int)) then
          some ((wr .i64 (x2 + 1)), true)
        else
          bif (((x0.getD x2.toNat 0).toNat : Int) == 10) then
            some (x2, false)
          else
            bif (((x0.getD x2.toNat 0).toNat : Int) == 92) then
              bif (decide ((wr .i64 (x2 + 1)) < (x0.length : Int))) then
                gk (inB (wr .i64 (x2 + 1)) x0.length)
                  (bif (((x0.getD (wr .i64 (x2 + 1)).toNat 0).toNat : Int) != 10) then
                    J (.l1 x0 x1 (wr .i64 ((wr .i64 (x2 + 1)) + 1)))
                  else
                    J (.l1 x0 x1 (wr .i64 (x2 + 1))))
              else
                J (.l1 x0 x1 (wr .i64 (x2 + 1)))
            else
              J (.l1 x0 x1 (wr .i64 (x2 + 1)))))
  else
    some ((x0.length : Int), false)
def go : Nat → St → Option (Int × Bool)
  | 0, _ => none
  | k + 1, .l1 x0 x1 x2 => b1 k (go k) x0 x1 x2
def m : Nat → List UInt8 → Int → Option (Int × Bool)
  | 0, _, _ => none
  | k + 1, x0, x1 => b0 k (go k) x0 x1
def anns : Anns := [(10, 1, [(0, 35, false), (1, 3, false), (7, 3, false)])]
noncomputable def code : ACode := codeOf Tryd.f28 anns
def rs : List ResultVar := [.tmp 4, .tmp 5]
def decA : List AVal → Heap → Option ((List UInt8) × Int)
  | [.slice 0 1 .all, .int .i64 x1], [.row 0 1 false 5 (.u8 x0)] => some (x0, x1)
  | _, _ => none
def encA (a : (List UInt8) × Int) : List AVal × Heap := ([.slice 0 1 .all, .int .i64 a.2], [.row 0 1 false 5 (.u8 a.1)])
def decB : AVal → Heap → Option (Int × Bool)
  | .tup (.pair (.int .i64 y0) (.pair (.bool y1) .nil)), [_] => some (y0, y1)
  | _, _ => none
def encB (b : Int × Bool) : Out := (.tup (.pair (.int .i64 b.1) (.pair (.bool b.2) .nil)), [], [])
def X : List Ct := [lib_indexByte.ct]
def ct : Ct := ⟨28, callRun cfg.tt [(35, false), (3, false)] decA (fun k a => m k a.1 a.2) false encB⟩
theorem ok : FnOk Tryd.prog cfg 28 68 code rs := .of Tryd.func28 (by kernel_rfl) rfl rfl (by kernel_rfl) (by kernel_rfl) rfl
abbrev kend : KK (Int × Bool) := kEnd cfg.tt rs (kFin cfg.tt 1 false [3, 4] [] [0] decB)
noncomputable abbrev rn := run cfg X 68 1 code kend
theorem s0 (k : Nat) (J : Nat → Fr → Heap → Option (Int × Bool)) (x0 : List UInt8) (x1 : Int) : stepJ cfg X 68 1 code kend k J 0 (argFr 0 (encA (x0, x1)).1) (encA (x0, x1)).2 = b0 k (fun s => J s.lab s.fr s.hp) x0 x1 := by kernel_rfl
theorem s1 (k : Nat) (J : Nat → Fr → Heap → Option (Int × Bool)) (x0 : List UInt8) (x1 : Int) (x2 : Int) : stepJ cfg X 68 1 code kend k J (St.l1 x0 x1 x2).lab (St.l1 x0 x1 x2).fr (St.l1 x0 x1 x2).hp = b1 k (fun s => J s.lab s.fr s.hp) x0 x1 x2 := by kernel_rfl
theorem go_ok : ∀ (k : Nat) (s : St), rn k s.lab s.fr s.hp = go k s
  | 0, _ => rfl
  | k + 1, .l1 x0 x1 x2 => by
    have h := s1 k (rn k) x0 x1 x2
    rw [show (fun s : St => rn k s.lab s.fr s.hp) = go k from funext (go_ok k)] at h
    exact h
theorem run_ok : ∀ (k : Nat) (a : (List UInt8) × Int), rn k 0 (argFr 0 (encA a).1) (encA a).2 = m k a.1 a.2
  | 0, _ => rfl
  | k + 1, (x0, x1) => by
    have h := s0 k (rn k) x0 x1
    rw [show (fun s : St => rn k s.lab s.fr s.hp) = go k from funext (go_ok k)] at h
    exact h
theorem snd (k : Nat) : Snd Tryd.prog cfg k ct := fn_snd (X := X) cfgOk mixed ok (np := 1) (vps := []) (vws := [0]) (decA := decA) (encA := encA) (decB := decB) (encB := encB)
  (by
    intro xs H a h
    unfold decA at h
    split at h
    · cases h; exact ⟨rfl, rfl, rfl, rfl⟩
    · cases h)
  (by
    intro v H b h
    unfold decB at h
    split at h
    · cases h; exact ⟨rfl, fun _ _ _ h => (by cases h), rfl⟩
    · cases h)
  rfl k (fun k' _ => AllS.mem (l := X) ⟨lib_indexByte.snd k', trivial⟩) (fun a => run_ok k a)
end quote_closed

/-! cavil/quote.Text -/
namespace quote_Text
inductive St where
  | l1 (x0 : List UInt8) (x1 : List UInt8) (x2 : Int)
  | l2 (x0 : List UInt8) (x1 : List UInt8) (x2 : Int) (x3 : Int) (x4 : Bool)
def St.lab : St → Nat
  | .l1 _ _ _ => 1
  | .l2 _ _ _ _ _ => 2
def St.fr : St → Fr
  | .l1 x0 x1 x2 => [(6, .str x1), (8, .slice 0 1 .all), (9, .int .i64 x2)]
  | .l2 x0 x1 x2 x3 x4 => [(6, .str x1), (8, .slice 0 1 .all), (9, .int .i64 x2), (40, .int .u8 x3), (49, .bool x4)]
def St.hp : St → Heap
  | .l1 x0 x1 x2 => [.row 0 1 true 5 (.u8 x0)]
  | .l2 x0 x1 x2 x3 x4 => [.row 0 1 true 5 (.u8 x0)]
def b0 (k : Nat) (J : St → Option ((List UInt8) × Er)) (x0 : List UInt8) : Option ((List UInt8) × Er) :=
  bindO (quote_within.m k x0 96) fun r1 =>
    bif r1.2 then
      bif (decide (0 ≤ Lib.indexByte r1.1 96)) then
        some (([] : List UInt8), (.no 8))
      else
        gk (lib_replace.ok r1.1 ([13] : List UInt8) ([] : List UInt8))
          (some ((Lib.replaceAll r1.1 ([13] : List UInt8) ([] : List UInt8)), .nil))
    else
      bindO (quote_within.m k x0 34) fun r2 =>
        bif (!r2.2) then
          some (([] : List UInt8), (.no 8))
        else
          J (.l1 [] r2.1 0)
def b1 (k : Nat) (J : St → Option ((List UInt8) × Er)) (x0 : List UInt8) (x1 : List UInt8) (x2 : Int) : Option ((List UInt8) × Er) :=
  bif (decide (x2 < (x1.length : Int))) then
    gk (inB x2 x1.length)
      (bif ((byt x1 x2) == 34) then
        J (.l2 x0 x1 x2 (byt x1 x2) ((byt x1 x2) == 34))
      else
        J (.l2 x0 x1 x2 (byt x1 x2) ((byt x1 x2) == 10)))
  else
    some (x0, .nil)
def b2 (k : Nat) (J : St → Option ((List UInt8) × Er)) (x0 : List UInt8) (x1 : List UInt8) (x2 : Int) (x3 : Int) (x4 : Bool) : Option ((List UInt8) × Er) :=
  bif x4 then
    some (([] : List UInt8), (.no 8))
  else
    bif (x3 == 92) then
      gk (cutB x2 (x1.length : Int) x1.length)
        (bindO (quote_escape.m k (cut x1 x2 (x1.length : Int)) 34) fun r1 =>
          bif (r1.2.2 == 0) then
            some (([] : List UInt8), (.no 14))
          else
            bindO (utf_Encode.m k r1.1) fun r2 =>
              bif r1.2.1 then
                gk (room (x0 ++ ([toU8 (wr .u8 r1.1)] : List UInt8)).length)
                  (J (.l1 (x0 ++ ([toU8 (wr .u8 r1.1)] : List UInt8)) x1 (wr .i64 (x2 + r1.2.2))))
              else
                gk (room (x0 ++ r2.2).length)
                  (J (.l1 (x0 ++ r2.2) x1 (wr .i64 (x2 + r1.2.2)))))
    else
      gk (inB x2 x1.length)
        (gk (room (x0 ++ ([toU8 (byt x1 x2)] : List UInt8)).length)
          (J (.l1 (x0 ++ ([toU8 (byt x1 x2)] : List UInt8)) x1 (wr .i64 (x2 + 1)))))
def go : Nat → St → Option ((List UInt8) × Er)
  | 0, _ => none
  | k + 1, .l1 x0 x1 x2 => b1 k (go k) x0 x1 x2
  | k + 1, .l2 x0 x1 x2 x3 x4 => b2 k (go k) x0 x1 x2 x3 x4
def m : Nat → List UInt8 → Option ((List UInt8) × Er)
  | 0, _ => none
  | k + 1, x0 => b0 k (go k) x0
def anns : Anns := [(15, 1, [(6, 9, false), (8, 35, false), (9, 3, false)]), (19, 2, [(6, 9, false), (8, 35, false), (9, 3, false), (40, 5, false), (49, 4, false)])]
noncomputable def code : ACode := codeOf Tryd.f9 anns
def rs : List ResultVar := [.tmp 2, .tmp 3]
def decA : List AVal → Heap → Option ((List UInt8))
  | [.str x0], [] => some x0
  | _, _ => none
def encA (a : (List UInt8)) : List AVal × Heap := ([.str a], [])
def decB : AVal → Heap → Option ((List UInt8) × Er)
  | .tup (.pair (.str y0) (.pair (.err y1) .nil)), [] => some (y0, y1)
  | _, _ => none
def encB (b : (List UInt8) × Er) : Out := (.tup (.pair (.str b.1) (.pair (.err b.2) .nil)), [], [])
def X : List Ct := [quote_within.ct, lib_contains.ct, lib_replace.ct, quote_escape.ct, utf_Encode.ct]
def ct : Ct := ⟨9, callRun cfg.tt [(9, false)] decA (fun k a => m k a) false encB⟩
theorem ok : FnOk Tryd.prog cfg 9 83 code rs := .of Tryd.func9 (by kernel_rfl) rfl rfl (by kernel_rfl) (by kernel_rfl) rfl
abbrev kend : KK ((List UInt8) × Er) := kEnd cfg.tt rs (kFin cfg.tt 0 false [9, 23] [] [] decB)
noncomputable abbrev rn := run cfg X 83 0 code kend
theorem s0 (k : Nat) (J : Nat → Fr → Heap → Option ((List UInt8) × Er)) (x0 : List UInt8) : stepJ cfg X 83 0 code kend k J 0 (argFr 0 (encA x0).1) (encA x0).2 = b0 k (fun s => J s.lab s.fr s.hp) x0 := by kernel_rfl
theorem s1 (k : Nat) (J : Nat → Fr → Heap → Option ((List UInt8) × Er)) (x0 : List UInt8) (x1 : List UInt8) (x2 : Int) : stepJ cfg X 83 0 code kend k J (St.l1 x0 x1 x2).lab (St.l1 x0 x1 x2).fr (St.l1 x0 x1 x2).hp = b1 k (fun s => J s.lab s.fr s.hp) x0 x1 x2 := by kernel_rfl
theorem s2 (k : Nat) (J : Nat → Fr → Heap → Option ((List UInt8) × Er)) (x0 : List UInt8) (x1 : List UInt8) (x2 : Int) (x3 : Int) (x4 : Bool) : stepJ cfg X 83 0 code kend k J (St.l2 x0 x1 x2 x3 x4).lab (St.l2 x0 x1 x2 x3 x4).fr (St.l2 x0 x1 x2 x3 x4).hp = b2 k (fun s => J s.lab s.fr s.hp) x0 x1 x2 x3 x4 := by kernel_rfl
theorem go_ok : ∀ (k : Nat) (s : St), rn k s.lab s.fr s.hp = go k s
  | 0, _ => rfl
  | k + 1, .l1 x0 x1 x2 => by
    have h := s1 k (rn k) x0 x1 x2
    rw [show (fun s : St => rn k s.lab s.fr s.hp) = go k from funext (go_ok k)] at h
    exact h
  | k + 1, .l2 x0 x1 x2 x3 x4 => by
    have h := s2 k (rn k) x0 x1 x2 x3 x4
    rw [show (fun s : St => rn k s.lab s.fr s.hp) = go k from funext (go_ok k)] at h
    exact h
theorem run_ok : ∀ (k : Nat) (a : (List UInt8)), rn k 0 (argFr 0 (encA a).1) (encA a).2 = m k a
  | 0, _ => rfl
  | k + 1, x0 => by
    have h := s0 k (rn k) x0
    rw [show (fun s : St => rn k s.lab s.fr s.hp) = go k from funext (go_ok k)] at h
    exact h
theorem snd (k : Nat) : Snd Tryd.prog cfg k ct := fn_snd (X := X) cfgOk mixed ok (np := 0) (vps := []) (vws := []) (decA := decA) (encA := encA) (decB := decB) (encB := encB)
  (by
    intro xs H a h
    unfold decA at h
    split at h
    · cases h; exact ⟨rfl, rfl, rfl, rfl⟩
    · cases h)
  (by
    intro v H b h
    unfold decB at h
    split at h
    · cases h; exact ⟨rfl, fun _ _ _ h => (by cases h), rfl⟩
    · cases h)
  rfl k (fun k' _ => AllS.mem (l := X) ⟨quote_within.snd k', lib_contains.snd k', lib_replace.snd k', quote_escape.snd k', utf_Encode.snd k', trivial⟩) (fun a => run_ok k a)
end quote_Text

/-! cavil/cavilref10.Scan -/
namespace cavilref10_Scan
inductive St where
  | l1 (x0 : List UInt8) (x1 : Int) (x2 : Bool)
  | l2 (x0 : List UInt8) (x1 : Int) (x2 : Int)
def St.lab : St → Nat
  | .l1 _ _ _ => 1
  | .l2 _ _ _ => 2
def St.fr : St → Fr
  | .l1 x0 x1 x2 => [(0, .slice 0 1 .all), (1, .int .i64 x1), (39, .bool x2)]
  | .l2 x0 x1 x2 => [(0, .slice 0 1 .all), (1, .int .i64 x1), (7, .int .i64 x2)]
def St.hp : St → Heap
  | .l1 x0 x1 x2 => [.row 0 1 false 5 (.u8 x0)]
  | .l2 x0 x1 x2 => [.row 0 1 false 5 (.u8 x0)]
def b0 (k : Nat) (J : St → Option (Int × Int × Int)) (x0 : List UInt8) (x1 : Int) : Option (Int × Int × Int) :=
  bif (decide (x1 < 0)) then
    J (.l1 x0 x1 true)
  else
    bif (decide (x1 ≥ (x0.length : Int))) then
      J (.l1 x0 x1 true)
    else
      gk (inB x1 x0.length)
        (bif (((x0.getD x1.toNat 0).toNat : Int) != 39) then
          gk (inB x1 x0.length)
            (bif (((x0.getD x1.toNat 0).toNat : Int) != 34) then
              gk (inB x1 x0.length)
                (J (.l1 x0 x1 (((x0.getD x1.toNat 0).toNat : Int) != 96)))
            else
              J (.l1 x0 x1 false))
        else
          J (.l1 x0 x1 false))
def b1 (k : Nat) (J : St → Option (Int × Int × Int)) (x0 : List UInt8) (x1 : Int) (x2 : Bool) : Option (Int × Int × Int) :=
  bif x2 then
    some (0, 0, 7)
  else
    gk (inB x1 x0.length)
      (bif (((x0.getD x1.toNat 0).toNat : Int) == 39) then
        J (.l2 x0 x1 4)
      else
        J (.l2 x0 x1 5))
def b2 (k : Nat) (J : St → Option (Int × Int × Int)) (x0 : List UInt8) (x1 : Int) (x2 : Int) : Option (Int × Int × Int) :=
  bindO (cavilref10_End.m k x0 x1) fun r1 =>
    bif (!r1.2) then
      some (x2, (wr .i64 (r1.1 - x1)), 12)
    else
      bif (x2 == 4) then
        gk (cutB x1 r1.1 x0.length)
          (bindO (cavilref10_Char.m k (cut x0 x1 r1.1)) fun r2 =>
            some (x2, (wr .i64 (r1.1 - x1)), r2.2))
      else
        gk (cutB x1 r1.1 x0.length)
          (bindO (cavilref10_Text.m k (cut x0 x1 r1.1)) fun r3 =>
            some (x2, (wr .i64 (r1.1 - x1)), r3.2))
def go : Nat → St → Option (Int × Int × Int)
  | 0, _ => none
  | k + 1, .l1 x0 x1 x2 => b1 k (go k) x0 x1 x2
  | k + 1, .l2 x0 x1 x2 => b2 k (go k) x0 x1 x2
def m : Nat → List UInt8 → Int → Option (Int × Int × Int)
  | 0, _, _ => none
  | k + 1, x0, x1 => b0 k (go k) x0 x1
def anns : Anns := [(2, 1, [(0, 35, false), (1, 3, false), (39, 4, false)]), (5, 2, [(0, 35, false), (1, 3, false), (7, 3, false)])]
noncomputable def code : ACode := codeOf Tryd.f16 anns
def rs : List ResultVar := [.tmp 4, .tmp 5, .tmp 6]
def decA : List AVal → Heap → Option ((List UInt8) × Int)
  | [.slice 0 1 .all, .int .i64 x1], [.row 0 1 false 5 (.u8 x0)] => some (x0, x1)
  | _, _ => none
def encA (a : (List UInt8) × Int) : List AVal × Heap := ([.slice 0 1 .all, .int .i64 a.2], [.row 0 1 false 5 (.u8 a.1)])
def decB : AVal → Heap → Option (Int × Int × Int)
  | .tup (.pair (.int .i64 y0) (.pair (.int .i64 y1) (.pair (.int .i64 y2) .nil))), [_] => some (y0, y1, y2)
  | _, _ => none
def encB (b : Int × Int × Int) : Out := (.tup (.pair (.int .i64 b.1) (.pair (.int .i64 b.2.1) (.pair (.int .i64 b.2.2) .nil))), [], [])
def X : List Ct := [cavilref10_End.ct, cavilref10_Char.ct, cavilref10_Text.ct]
def ct : Ct := ⟨16, callRun cfg.tt [(35, false), (3, false)] decA (fun k a => m k a.1 a.2) false encB⟩
theorem ok : FnOk Tryd.prog cfg 16 82 code rs := .of Tryd.func16 (by kernel_rfl) rfl rfl (by kernel_rfl) (by kernel_rfl) rfl
abbrev kend : KK (Int × Int × Int) := kEnd cfg.tt rs (kFin cfg.tt 1 false [3, 3, 3] [] [0] decB)
noncomputable abbrev rn := run cfg X 82 1 code kend
theorem s0 (k : Nat) (J : Nat → Fr → Heap → Option (Int × Int × Int)) (x0 : List UInt8) (x1 : Int) : stepJ cfg X 82 1 code kend k J 0 (argFr 0 (encA (x0, x1)).1) (encA (x0, x1)).2 = b0 k (fun s => J s.lab s.fr s.hp) x0 x1 := by kernel_rfl
theorem s1 (k : Nat) (J : Nat → Fr → Heap → Option (Int × Int × Int)) (x0 : List UInt8) (x1 : Int) (x2 : Bool) : stepJ cfg X 82 1 code kend k J (St.l1 x0 x1 x2).lab (St.l1 x0 x1 x2).fr (St.l1 x0 x1 x2).hp = b1 k (fun s => J s.lab s.fr s.hp) x0 x1 x2 := by kernel_rfl
theorem s2 (k : Nat) (J : Nat → Fr → Heap → Option (Int × Int × Int)) (x0 : List UInt8) (x1 : Int) (x2 : Int) : stepJ cfg X 82 1 code kend k J (St.l2 x0 x1 x2).lab (St.l2 x0 x1 x2).fr (St.l2 x0 x1 x2).hp = b2 k (fun s => J s.lab s.fr s.hp) x0 x1 x2 := by kernel_rfl
theorem go_ok : ∀ (k : Nat) (s : St), rn k s.lab s.fr s.hp = go k s
  | 0, _ => rfl
  | k + 1, .l1 x0 x1 x2 => by
    have h := s1 k (rn k) x0 x1 x2
    rw [show (fun s : St => rn k s.lab s.fr s.hp) = go k from funext (go_ok k)] at h
    exact h
  | k + 1, .l2 x0 x1 x2 => by
    have h := s2 k (rn k) x0 x1 x2
    rw [show (fun s : St => rn k s.lab s.fr s.hp) = go k from funext (go_ok k)] at h
    exact h
theorem run_ok : ∀ (k : Nat) (a : (List UInt8) × Int), rn k 0 (argFr 0 (encA a).1) (encA a).2 = m k a.1 a.2
  | 0, _ => rfl
  | k + 1, (x0, x1) => by
    have h := s0 k (rn k) x0 x1
    rw [show (fun s : St => rn k s.lab s.fr s.hp) = go k from funext (go_ok k)] at h
    exact h
theorem snd (k : Nat) : Snd Tryd.prog cfg k ct := fn_snd (X := X) cfgOk mixed ok (np := 1) (vps := []) (vws := [0]) (decA := decA) (encA := encA) (decB := decB) (encB := encB)
  (by
    intro xs H a h
    unfold decA at h
    split at h
    · cases h; exact ⟨rfl, rfl, rfl, rfl⟩
    · cases h)
  (by
    intro v H b h
    unfold decB at h
    split at h
    · cases h; exact ⟨rfl, fun _ _ _ h => (by cases h), rfl⟩
    · cases h)
  rfl k (fun k' _ => AllS.mem (l := X) ⟨cavilref10_End.snd k', cavilref10_Char.snd k', cavilref10_Text.snd k', trivial⟩) (fun a => run_ok k a)
end cavilref10_Scan

/-! cavil/quote.Scan -/
namespace quote_Scan
inductive St where
  | l1 (x0 : List UInt8) (x1 : Int) (x2 : Bool)
  | l2 (x0 : List UInt8) (x1 : Int) (x2 : Int)
def St.lab : St → Nat
  | .l1 _ _ _ => 1
  | .l2 _ _ _ => 2
def St.fr : St → Fr
  | .l1 x0 x1 x2 => [(0, .slice 0 1 .all), (1, .int .i64 x1), (17, .bool x2)]
  | .l2 x0 x1 x2 => [(0, .slice 0 1 .all), (1, .int .i64 x1), (4, .int .i64 x2)]
def St.hp : St → Heap
  | .l1 x0 x1 x2 => [.row 0 1 false 5 (.u8 x0)]
  | .l2 x0 x1 x2 => [.row 0 1 false 5 (.u8 x0)]
def b0 (k : Nat) (J : St → Option (Int × Int × Er)) (x0 : List UInt8) (x1 : Int) : Option (Int × Int × Er) :=
  bif (decide (x1 < 0)) then
    J (.l1 x0 x1 true)
  else
    J (.l1 x0 x1 (decide (x1 ≥ (x0.length : Int))))
def b1 (k : Nat) (J : St → Option (Int × Int × Er)) (x0 : List UInt8) (x1 : Int) (x2 : Bool) : Option (Int × Int × Er) :=
  bif x2 then
    some (0, 0, (.no 7))
  else
    gk (inB x1 x0.length)
      (bif (((x0.getD x1.toNat 0).toNat : Int) == 39) then
        J (.l2 x0 x1 4)
      else
        bif (((x0.getD x1.toNat 0).toNat : Int) == 34) then
          J (.l2 x0 x1 5)
        else
          bif (((x0.getD x1.toNat 0).toNat : Int) == 96) then
            J (.l2 x0 x1 5)
          else
            some (0, 0, (.no 7)))
def b2 (k : Nat) (J : St → Option (Int × Int × Er)) (x0 : List UInt8) (x1 : Int) (x2 : Int) : Option (Int × Int × Er) :=
  bindO (quote_closed.m k x0 x1) fun r1 =>
    gk (cutB x1 r1.1 x0.length)
      (bif (!r1.2) then
        some (x2, (wr .i64 (r1.1 - x1)), (.no 12))
      else
        bif (x2 == 4) then
          bindO (quote_Char.m k (cut x0 x1 r1.1)) fun r2 =>
            some (x2, (wr .i64 (r1.1 - x1)), r2.2)
        else
          bindO (quote_Text.m k (cut x0 x1 r1.1)) fun r3 =>
            some (x2, (wr .i64 (r1.1 - x1)), r3.2))
def go : Nat → St → Option (Int × Int × Er)
  | 0, _ => none
  | k + 1, .l1 x0 x1 x2 => b1 k (go k) x0 x1 x2
  | k + 1, .l2 x0 x1 x2 => b2 k (go k) x0 x1 x2
def m : Nat → List UInt8 → Int → Option (Int × Int × Er)
  | 0, _, _ => none
  | k + 1, x0, x1 => b0 k (go k) x0 x1
def anns : Anns := [(2, 1, [(0, 35, false), (1, 3, false), (17, 4, false)]), (8, 2, [(0, 35, false), (1, 3, false), (4, 3, false)])]
noncomputable def code : ACode := codeOf Tryd.f13 anns
def rs : List ResultVar := [.tmp 4, .tmp 5, .tmp 6]
def decA : List AVal → Heap → Option ((List UInt8) × Int)
  | [.slice 0 1 .all, .int .i64 x1], [.row 0 1 false 5 (.u8 x0)] => some (x0, x1)
  | _, _ => none
def encA (a : (List UInt8) × Int) : List AVal × Heap := ([.slice 0 1 .all, .int .i64 a.2], [.row 0 1 false 5 (.u8 a.1)])
def decB : AVal → Heap → Option (Int × Int × Er)
  | .tup (.pair (.int .i64 y0) (.pair (.int .i64 y1) (.pair (.err y2) .nil))), [_] => some (y0, y1, y2)
  | _, _ => none
def encB (b : Int × Int × Er) : Out := (.tup (.pair (.int .i64 b.1) (.pair (.int .i64 b.2.1) (.pair (.err b.2.2) .nil))), [], [])
def X : List Ct := [quote_closed.ct, quote_Char.ct, quote_Text.ct]
def ct : Ct := ⟨13, callRun cfg.tt [(35, false), (3, false)] decA (fun k a => m k a.1 a.2) false encB⟩
theorem ok : FnOk Tryd.prog cfg 13 63 code rs := .of Tryd.func13 (by kernel_rfl) rfl rfl (by kernel_rfl) (by kernel_rfl) rfl
abbrev kend : KK (Int × Int × Er) := kEnd cfg.tt rs (kFin cfg.tt 1 false [3, 3, 23] [] [0] decB)
noncomputable abbrev rn := run cfg X 63 1 code kend
theorem s0 (k : Nat) (J : Nat → Fr → Heap → Option (Int × Int × Er)) (x0 : List UInt8) (x1 : Int) : stepJ cfg X 63 1 code kend k J 0 (argFr 0 (encA (x0, x1)).1) (encA (x0, x1)).2 = b0 k (fun s => J s.lab s.fr s.hp) x0 x1 := by kernel_rfl
theorem s1 (k : Nat) (J : Nat → Fr → Heap → Option (Int × Int × Er)) (x0 : List UInt8) (x1 : Int) (x2 : Bool) : stepJ cfg X 63 1 code kend k J (St.l1 x0 x1 x2).lab (St.l1 x0 x1 x2).fr (St.l1 x0 x1 x2).hp = b1 k (fun s => J s.lab s.fr s.hp) x0 x1 x2 := by kernel_rfl
theorem s2 (k : Nat) (J : Nat → Fr → Heap → Option (Int × Int × Er)) (x0 : List UInt8) (x1 : Int) (x2 : Int) : stepJ cfg X 63 1 code kend k J (St.l2 x0 x1 x2).lab (St.l2 x0 x1 x2).fr (St.l2 x0 x1 x2).hp = b2 k (fun s => J s.lab s.fr s.hp) x0 x1 x2 := by kernel_rfl
theorem go_ok : ∀ (k : Nat) (s : St), rn k s.lab s.fr s.hp = go k s
  | 0, _ => rfl
  | k + 1, .l1 x0 x1 x2 => by
    have h := s1 k (rn k) x0 x1 x2
    rw [show (fun s : St => rn k s.lab s.fr s.hp) = go k from funext (go_ok k)] at h
    exact h
  | k + 1, .l2 x0 x1 x2 => by
    have h := s2 k (rn k) x0 x1 x2
    rw [show (fun s : St => rn k s.lab s.fr s.hp) = go k from funext (go_ok k)] at h
    exact h
theorem run_ok : ∀ (k : Nat) (a : (List UInt8) × Int), rn k 0 (argFr 0 (encA a).1) (encA a).2 = m k a.1 a.2
  | 0, _ => rfl
  | k + 1, (x0, x1) => by
    have h := s0 k (rn k) x0 x1
    rw [show (fun s : St => rn k s.lab s.fr s.hp) = go k from funext (go_ok k)] at h
    exact h
theorem snd (k : Nat) : Snd Tryd.prog cfg k ct := fn_snd (X := X) cfgOk mixed ok (np := 1) (vps := []) (vws := [0]) (decA := decA) (encA := encA) (decB := decB) (encB := encB)
  (by
    intro xs H a h
    unfold decA at h
    split at h
    · cases h; exact ⟨rfl, rfl, rfl, rfl⟩
    · cases h)
  (by
    intro v H b h
    unfold decB at h
    split at h
    · cases h; exact ⟨rfl, fun _ _ _ h => (by cases h), rfl⟩
    · cases h)
  rfl k (fun k' _ => AllS.mem (l := X) ⟨quote_closed.snd k', quote_Char.snd k', quote_Text.snd k', trivial⟩) (fun a => run_ok k a)
end quote_Scan

/-! cavil/cavillaw01.Code -/
namespace cavillaw01_Code
inductive St where
  | l1 (x0 : Er) (x1 : Int)
def St.lab : St → Nat
  | .l1 _ _ => 1
def St.fr : St → Fr
  | .l1 x0 x1 => [(0, .err x0), (3, .int .i64 x1)]
def St.hp : St → Heap
  | .l1 x0 x1 => []
def b0 (k : Nat) (J : St → Option (Int)) (x0 : Er) : Option (Int) :=
  bif x0.isNil then
    some 0
  else
    J (.l1 x0 1)
def b1 (k : Nat) (J : St → Option (Int)) (x0 : Er) (x1 : Int) : Option (Int) :=
  bif (decide (x1 ≤ 25)) then
    gk (isNo x0)
      (bif (errNo x0 == x1) then
        some x1
      else
        J (.l1 x0 (wr .i64 (x1 + 1))))
  else
    some (-1)
def go : Nat → St → Option (Int)
  | 0, _ => none
  | k + 1, .l1 x0 x1 => b1 k (go k) x0 x1
def m : Nat → Er → Option (Int)
  | 0, _ => none
  | k + 1, x0 => b0 k (go k) x0
def anns : Anns := [(6, 1, [(0, 23, false), (3, 3, false)])]
noncomputable def code : ACode := codeOf Tryd.f11 anns
def rs : List ResultVar := [.tmp 2]
def decA : List AVal → Heap → Option (Er)
  | [.err x0], [] => some x0
  | _, _ => none
def encA (a : Er) : List AVal × Heap := ([.err a], [])
def decB : AVal → Heap → Option (Int)
  | .int .i64 y0, [] => some y0
  | _, _ => none
def encB (b : Int) : Out := (.int .i64 b, [], [])
def X : List Ct := [lib_is.ct]
def ct : Ct := ⟨11, callRun cfg.tt [(23, false)] decA (fun k a => m k a) false encB⟩
theorem ok : FnOk Tryd.prog cfg 11 15 code rs := .of Tryd.func11 (by kernel_rfl) rfl rfl (by kernel_rfl) (by kernel_rfl) rfl
abbrev kend : KK (Int) := kEnd cfg.tt rs (kFin cfg.tt 0 false [3] [] [] decB)
noncomputable abbrev rn := run cfg X 15 0 code kend
theorem s0 (k : Nat) (J : Nat → Fr → Heap → Option (Int)) (x0 : Er) : stepJ cfg X 15 0 code kend k J 0 (argFr 0 (encA x0).1) (encA x0).2 = b0 k (fun s => J s.lab s.fr s.hp) x0 := by kernel_rfl
theorem s1 (k : Nat) (J : Nat → Fr → Heap → Option (Int)) (x0 : Er) (x1 : Int) : stepJ cfg X 15 0 code kend k J (St.l1 x0 x1).lab (St.l1 x0 x1).fr (St.l1 x0 x1).hp = b1 k (fun s => J s.lab s.fr s.hp) x0 x1 := by kernel_rfl
theorem go_ok : ∀ (k : Nat) (s : St), rn k s.lab s.fr s.hp = go k s
  | 0, _ => rfl
  | k + 1, .l1 x0 x1 => by
    have h := s1 k (rn k) x0 x1
    rw [show (fun s : St => rn k s.lab s.fr s.hp) = go k from funext (go_ok k)] at h
    exact h
theorem run_ok : ∀ (k : Nat) (a : Er), rn k 0 (argFr 0 (encA a).1) (encA a).2 = m k a
  | 0, _ => rfl
  | k + 1, x0 => by
    have h := s0 k (rn k) x0
    rw [show (fun s : St => rn k s.lab s.fr s.hp) = go k from funext (go_ok k)] at h
    exact h
theorem snd (k : Nat) : Snd Tryd.prog cfg k ct := fn_snd (X := X) cfgOk mixed ok (np := 0) (vps := []) (vws := []) (decA := decA) (encA := encA) (decB := decB) (encB := encB)
  (by
    intro xs H a h
    unfold decA at h
    split at h
    · cases h; exact ⟨rfl, rfl, rfl, rfl⟩
    · cases h)
  (by
    intro v H b h
    unfold decB at h
    split at h
    · cases h; exact ⟨rfl, fun _ _ _ h => (by cases h), rfl⟩
    · cases h)
  rfl k (fun k' _ => AllS.mem (l := X) ⟨lib_is.snd k', trivial⟩) (fun a => run_ok k a)
end cavillaw01_Code

/-! cavil/cavillaw10.works -/
namespace cavillaw10_works
def b0 (k : Nat) : Option (Bool) :=
  bindO (quote_Char.m k ([39, 92, 117, 48, 48, 101, 57, 39] : List UInt8)) fun r1 =>
    bindO (quote_Text.m k ([34, 97, 92, 120, 52, 49, 92, 110, 34] : List UInt8)) fun r2 =>
      bif (r1.1 == 233) then
        bif r1.2.isNil then
          bif (r2.1 == ([97, 65, 10] : List UInt8)) then
            some r2.2.isNil
          else
            some false
        else
          some false
      else
        some false
def m : Nat → Option (Bool)
  | 0 => none
  | k + 1 => b0 k
def anns : Anns := []
noncomputable def code : ACode := codeOf Tryd.f12 anns
def rs : List ResultVar := [.tmp 0]
def decA : List AVal → Heap → Option (Unit)
  | [], [] => some ()
  | _, _ => none
def encA (a : Unit) : List AVal × Heap := ([], [])
def decB : AVal → Heap → Option (Bool)
  | .bool y0, [] => some y0
  | _, _ => none
def encB (b : Bool) : Out := (.bool b, [], [])
def X : List Ct := [quote_Char.ct, quote_Text.ct]
def ct : Ct := ⟨12, callRun cfg.tt [] decA (fun k a => m k) false encB⟩
theorem ok : FnOk Tryd.prog cfg 12 27 code rs := .of Tryd.func12 (by kernel_rfl) rfl rfl (by kernel_rfl) (by kernel_rfl) rfl
abbrev kend : KK (Bool) := kEnd cfg.tt rs (kFin cfg.tt 0 false [4] [] [] decB)
noncomputable abbrev rn := run cfg X 27 0 code kend
theorem s0 (k : Nat) (J : Nat → Fr → Heap → Option (Bool)) : stepJ cfg X 27 0 code kend k J 0 (argFr 0 (encA ()).1) (encA ()).2 = b0 k := by kernel_rfl
theorem run_ok : ∀ (k : Nat) (a : Unit), rn k 0 (argFr 0 (encA a).1) (encA a).2 = m k
  | 0, _ => rfl
  | k + 1, () => by
    have h := s0 k (rn k)
    exact h
theorem snd (k : Nat) : Snd Tryd.prog cfg k ct := fn_snd (X := X) cfgOk mixed ok (np := 0) (vps := []) (vws := []) (decA := decA) (encA := encA) (decB := decB) (encB := encB)
  (by
    intro xs H a h
    unfold decA at h
    split at h
    · cases h; exact ⟨rfl, rfl, rfl, rfl⟩
    · cases h)
  (by
    intro v H b h
    unfold decB at h
    split at h
    · cases h; exact ⟨rfl, fun _ _ _ h => (by cases h), rfl⟩
    · cases h)
  rfl k (fun k' _ => AllS.mem (l := X) ⟨quote_Char.snd k', quote_Text.snd k', trivial⟩) (fun a => run_ok k a)
end cavillaw10_works

/-! cavil/cavillaw10.QuoteReads -/
namespace cavillaw10_QuoteReads
def b0 (k : Nat) (x0 : List UInt8) : Option (Bool) :=
  gk (cutB 0 (if 60 < (x0.length : Int) then 60 else (x0.length : Int)) x0.length)
    (bindO (quote_Char.m k (cut x0 0 (if 60 < (x0.length : Int) then 60 else (x0.length : Int)))) fun r1 =>
      bindO (cavilref10_Char.m k (cut x0 0 (if 60 < (x0.length : Int) then 60 else (x0.length : Int)))) fun r2 =>
        bindO (quote_Text.m k (cut x0 0 (if 60 < (x0.length : Int) then 60 else (x0.length : Int)))) fun r3 =>
          bindO (cavilref10_Text.m k (cut x0 0 (if 60 < (x0.length : Int) then 60 else (x0.length : Int)))) fun r4 =>
            bif ((wr .i64 r1.1) == r2.1) then
              bindO (cavillaw01_Code.m k r1.2) fun r5 =>
                bif (r5 == r2.2) then
                  bif (r3.1 == r4.1) then
                    bindO (cavillaw01_Code.m k r3.2) fun r6 =>
                      bif (r6 == r4.2) then
                        bindO (cavillaw10_works.m k) fun r7 =>
                          some r7
                      else
                        some false
                  else
                    some false
                else
                  some false
            else
              some false)
def m : Nat → List UInt8 → Option (Bool)
  | 0, _ => none
  | k + 1, x0 => b0 k x0
def anns : Anns := []
noncomputable def code : ACode := codeOf Tryd.f3 anns
def rs : List ResultVar := [.tmp 2]
def decA : List AVal → Heap → Option ((List UInt8))
  | [.str x0], [] => some x0
  | _, _ => none
def encA (a : (List UInt8)) : List AVal × Heap := ([.str a], [])
def decB : AVal → Heap → Option (Bool)
  | .bool y0, [] => some y0
  | _, _ => none
def encB (b : Bool) : Out := (.bool b, [], [])
def X : List Ct := [quote_Char.ct, cavilref10_Char.ct, quote_Text.ct, cavilref10_Text.ct, cavillaw01_Code.ct, cavillaw10_works.ct]
def ct : Ct := ⟨3, callRun cfg.tt [(9, false)] decA (fun k a => m k a) false encB⟩
theorem ok : FnOk Tryd.prog cfg 3 60 code rs := .of Tryd.func3 (by kernel_rfl) rfl rfl (by kernel_rfl) (by kernel_rfl) rfl
abbrev kend : KK (Bool) := kEnd cfg.tt rs (kFin cfg.tt 0 false [4] [] [] decB)
noncomputable abbrev rn := run cfg X 60 0 code kend
theorem s0 (k : Nat) (J : Nat → Fr → Heap → Option (Bool)) (x0 : List UInt8) : stepJ cfg X 60 0 code kend k J 0 (argFr 0 (encA x0).1) (encA x0).2 = b0 k x0 := by kernel_rfl
theorem run_ok : ∀ (k : Nat) (a : (List UInt8)), rn k 0 (argFr 0 (encA a).1) (encA a).2 = m k a
  | 0, _ => rfl
  | k + 1, x0 => by
    have h := s0 k (rn k) x0
    exact h
theorem snd (k : Nat) : Snd Tryd.prog cfg k ct := fn_snd (X := X) cfgOk mixed ok (np := 0) (vps := []) (vws := []) (decA := decA) (encA := encA) (decB := decB) (encB := encB)
  (by
    intro xs H a h
    unfold decA at h
    split at h
    · cases h; exact ⟨rfl, rfl, rfl, rfl⟩
    · cases h)
  (by
    intro v H b h
    unfold decB at h
    split at h
    · cases h; exact ⟨rfl, fun _ _ _ h => (by cases h), rfl⟩
    · cases h)
  rfl k (fun k' _ => AllS.mem (l := X) ⟨quote_Char.snd k', cavilref10_Char.snd k', quote_Text.snd k', cavilref10_Text.snd k', cavillaw01_Code.snd k', cavillaw10_works.snd k', trivial⟩) (fun a => run_ok k a)
end cavillaw10_QuoteReads

/-! cavil/cavillaw10.QuoteScans -/
namespace cavillaw10_QuoteScans
def b0 (k : Nat) (x0 : List UInt8) (x1 : Int) : Option (Bool) :=
  gk (cutB 0 (if 60 < (x0.length : Int) then 60 else (x0.length : Int)) x0.length)
    (bindO (quote_Scan.m k (cut x0 0 (if 60 < (x0.length : Int) then 60 else (x0.length : Int))) x1) fun r1 =>
      bindO (cavilref10_Scan.m k (cut x0 0 (if 60 < (x0.length : Int) then 60 else (x0.length : Int))) x1) fun r2 =>
        bif (r1.1 == r2.1) then
          bif (r1.2.1 == r2.2.1) then
            bindO (cavillaw01_Code.m k r1.2.2) fun r3 =>
              bif (r3 == r2.2.2) then
                bindO (cavillaw10_works.m k) fun r4 =>
                  some r4
              else
                some false
          else
            some false
        else
          some false)
def m : Nat → List UInt8 → Int → Option (Bool)
  | 0, _, _ => none
  | k + 1, x0, x1 => b0 k x0 x1
def anns : Anns := []
noncomputable def code : ACode := codeOf Tryd.f6 anns
def rs : List ResultVar := [.tmp 4]
def decA : List AVal → Heap → Option ((List UInt8) × Int)
  | [.slice 0 1 .all, .int .i64 x1], [.row 0 1 false 5 (.u8 x0)] => some (x0, x1)
  | _, _ => none
def encA (a : (List UInt8) × Int) : List AVal × Heap := ([.slice 0 1 .all, .int .i64 a.2], [.row 0 1 false 5 (.u8 a.1)])
def decB : AVal → Heap → Option (Bool)
  | .bool y0, [_] => some y0
  | _, _ => none
def encB (b : Bool) : Out := (.bool b, [], [])
def X : List Ct := [quote_Scan.ct, cavilref10_Scan.ct, cavillaw01_Code.ct, cavillaw10_works.ct]
def ct : Ct := ⟨6, callRun cfg.tt [(35, false), (3, false)] decA (fun k a => m k a.1 a.2) false encB⟩
theorem ok : FnOk Tryd.prog cfg 6 47 code rs := .of Tryd.func6 (by kernel_rfl) rfl rfl (by kernel_rfl) (by kernel_rfl) rfl
abbrev kend : KK (Bool) := kEnd cfg.tt rs (kFin cfg.tt 1 false [4] [] [0] decB)
noncomputable abbrev rn := run cfg X 47 1 code kend
theorem s0 (k : Nat) (J : Nat → Fr → Heap → Option (Bool)) (x0 : List UInt8) (x1 : Int) : stepJ cfg X 47 1 code kend k J 0 (argFr 0 (encA (x0, x1)).1) (encA (x0, x1)).2 = b0 k x0 x1 := by kernel_rfl
theorem run_ok : ∀ (k : Nat) (a : (List UInt8) × Int), rn k 0 (argFr 0 (encA a).1) (encA a).2 = m k a.1 a.2
  | 0, _ => rfl
  | k + 1, (x0, x1) => by
    have h := s0 k (rn k) x0 x1
    exact h
theorem snd (k : Nat) : Snd Tryd.prog cfg k ct := fn_snd (X := X) cfgOk mixed ok (np := 1) (vps := []) (vws := [0]) (decA := decA) (encA := encA) (decB := decB) (encB := encB)
  (by
    intro xs H a h
    unfold decA at h
    split at h
    · cases h; exact ⟨rfl, rfl, rfl, rfl⟩
    · cases h)
  (by
    intro v H b h
    unfold decB at h
    split at h
    · cases h; exact ⟨rfl, fun _ _ _ h => (by cases h), rfl⟩
    · cases h)
  rfl k (fun k' _ => AllS.mem (l := X) ⟨quote_Scan.snd k', cavilref10_Scan.snd k', cavillaw01_Code.snd k', cavillaw10_works.snd k', trivial⟩) (fun a => run_ok k a)
end cavillaw10_QuoteScans

/-! cavil/cavillaw10.QuoteWrites -/
namespace cavillaw10_QuoteWrites
def b0 (k : Nat) (x0 : List UInt8) (x1 : List UInt8) : Option (Bool) :=
  gk (cutB 0 (if 60 < (x0.length : Int) then 60 else (x0.length : Int)) x0.length)
    (gk (cutB 0 (if 20 < (x1.length : Int) then 20 else (x1.length : Int)) x1.length)
      (bindO (quote_Write.m k (cut x0 0 (if 60 < (x0.length : Int) then 60 else (x0.length : Int)))) fun r1 =>
        bindO (quote_Text.m k r1) fun r2 =>
          gk (room (r1 ++ (cut x1 0 (if 20 < (x1.length : Int) then 20 else (x1.length : Int)))).length)
            (bindO (quote_Scan.m k (r1 ++ (cut x1 0 (if 20 < (x1.length : Int) then 20 else (x1.length : Int)))) 0) fun r3 =>
              bindO (cavilref10_Write.m k (cut x0 0 (if 60 < (x0.length : Int) then 60 else (x0.length : Int)))) fun r4 =>
                bif (r1 == r4) then
                  bif (r2.1 == (cut x0 0 (if 60 < (x0.length : Int) then 60 else (x0.length : Int)))) then
                    bif r2.2.isNil then
                      bif (r3.1 == 5) then
                        bif (r3.2.1 == (r1.length : Int)) then
                          bif r3.2.2.isNil then
                            bindO (cavillaw10_works.m k) fun r5 =>
                              some r5
                          else
                            some false
                        else
                          some false
                      else
                        some false
                    else
                      some false
                  else
                    some false
                else
                  some false)))
def m : Nat → List UInt8 → List UInt8 → Option (Bool)
  | 0, _, _ => none
  | k + 1, x0, x1 => b0 k x0 x1
def anns : Anns := []
noncomputable def code : ACode := codeOf Tryd.f5 anns
def rs : List ResultVar := [.tmp 4]
def decA : List AVal → Heap → Option ((List UInt8) × (List UInt8))
  | [.str x0, .slice 0 1 .all], [.row 0 1 false 5 (.u8 x1)] => some (x0, x1)
  | _, _ => none
def encA (a : (List UInt8) × (List UInt8)) : List AVal × Heap := ([.str a.1, .slice 0 1 .all], [.row 0 1 false 5 (.u8 a.2)])
def decB : AVal → Heap → Option (Bool)
  | .bool y0, [_] => some y0
  | _, _ => none
def encB (b : Bool) : Out := (.bool b, [], [])
def X : List Ct := [quote_Write.ct, quote_Text.ct, quote_Scan.ct, cavilref10_Write.ct, cavillaw10_works.ct]
def ct : Ct := ⟨5, callRun cfg.tt [(9, false), (35, false)] decA (fun k a => m k a.1 a.2) false encB⟩
theorem ok : FnOk Tryd.prog cfg 5 67 code rs := .of Tryd.func5 (by kernel_rfl) rfl rfl (by kernel_rfl) (by kernel_rfl) rfl
abbrev kend : KK (Bool) := kEnd cfg.tt rs (kFin cfg.tt 1 false [4] [] [0] decB)
noncomputable abbrev rn := run cfg X 67 1 code kend
theorem s0 (k : Nat) (J : Nat → Fr → Heap → Option (Bool)) (x0 : List UInt8) (x1 : List UInt8) : stepJ cfg X 67 1 code kend k J 0 (argFr 0 (encA (x0, x1)).1) (encA (x0, x1)).2 = b0 k x0 x1 := by kernel_rfl
theorem run_ok : ∀ (k : Nat) (a : (List UInt8) × (List UInt8)), rn k 0 (argFr 0 (encA a).1) (encA a).2 = m k a.1 a.2
  | 0, _ => rfl
  | k + 1, (x0, x1) => by
    have h := s0 k (rn k) x0 x1
    exact h
theorem snd (k : Nat) : Snd Tryd.prog cfg k ct := fn_snd (X := X) cfgOk mixed ok (np := 1) (vps := []) (vws := [0]) (decA := decA) (encA := encA) (decB := decB) (encB := encB)
  (by
    intro xs H a h
    unfold decA at h
    split at h
    · cases h; exact ⟨rfl, rfl, rfl, rfl⟩
    · cases h)
  (by
    intro v H b h
    unfold decB at h
    split at h
    · cases h; exact ⟨rfl, fun _ _ _ h => (by cases h), rfl⟩
    · cases h)
  rfl k (fun k' _ => AllS.mem (l := X) ⟨quote_Write.snd k', quote_Text.snd k', quote_Scan.snd k', cavilref10_Write.snd k', cavillaw10_works.snd k', trivial⟩) (fun a => run_ok k a)
end cavillaw10_QuoteWrites

/-! cavil/cavillaw10.QuoteAlone -/
namespace cavillaw10_QuoteAlone
inductive St where
  | l1 (x0 : List UInt8) (x1 : List UInt8) (x2 : Int) (x3 : Int) (x4 : Int) (x5 : Bool)
def St.lab : St → Nat
  | .l1 _ _ _ _ _ _ => 1
def St.fr : St → Fr
  | .l1 x0 x1 x2 x3 x4 x5 => [(0, .slice 1 1 .all), (1, .int .u8 x2), (5, .int .i64 x3), (6, .int .i64 x4), (41, .bool x5)]
def St.hp : St → Heap
  | .l1 x0 x1 x2 x3 x4 x5 => [.row 0 1 false 5 (.u8 x0), .row 0 1 false 5 (.u8 x1)]
def b0 (k : Nat) (J : St → Option (Bool)) (x0 : List UInt8) (x1 : Int) : Option (Bool) :=
  gk (cutB 0 (if 60 < (x0.length : Int) then 60 else (x0.length : Int)) x0.length)
    (bindO (quote_Scan.m k (cut x0 0 (if 60 < (x0.length : Int) then 60 else (x0.length : Int))) (wr .i64 x1)) fun r1 =>
      bif (!r1.2.2.isNil) then
        bindO (cavillaw10_works.m k) fun r2 =>
          some r2
      else
        bif (decide (r1.2.1 < 2)) then
          J (.l1 x0 (cut x0 0 (if 60 < (x0.length : Int) then 60 else (x0.length : Int))) x1 r1.1 r1.2.1 true)
        else
          J (.l1 x0 (cut x0 0 (if 60 < (x0.length : Int) then 60 else (x0.length : Int))) x1 r1.1 r1.2.1 (decide ((wr .i64 ((wr .i64 x1) + r1.2.1)) > ((cut x0 0 (if 60 < (x0.length : Int) then 60 else (x0.length : Int))).length : Int)))))
def b1 (k : Nat) (J : St → Option (Bool)) (x0 : List UInt8) (x1 : List UInt8) (x2 : Int) (x3 : Int) (x4 : Int) (x5 : Bool) : Option (Bool) :=
  bif x5 then
    some false
  else
    gk (cutB x2 (wr .i64 ((wr .i64 x2) + x4)) x1.length)
      (bindO (quote_Scan.m k (cut x1 x2 (wr .i64 ((wr .i64 x2) + x4))) 0) fun r1 =>
        gk (cutB 0 (wr .i64 (x4 - 1)) (cut x1 x2 (wr .i64 ((wr .i64 x2) + x4))).length)
          (bindO (quote_Scan.m k (cut (cut x1 x2 (wr .i64 ((wr .i64 x2) + x4))) 0 (wr .i64 (x4 - 1))) 0) fun r2 =>
            bif (r1.1 == x3) then
              bif (r1.2.1 == x4) then
                bif r1.2.2.isNil then
                  bif (!r2.2.2.isNil) then
                    bindO (cavillaw10_works.m k) fun r3 =>
                      some r3
                  else
                    some false
                else
                  some false
              else
                some false
            else
              some false))
def go : Nat → St → Option (Bool)
  | 0, _ => none
  | k + 1, .l1 x0 x1 x2 x3 x4 x5 => b1 k (go k) x0 x1 x2 x3 x4 x5
def m : Nat → List UInt8 → Int → Option (Bool)
  | 0, _, _ => none
  | k + 1, x0, x1 => b0 k (go k) x0 x1
def anns : Anns := [(7, 1, [(0, 35, false), (1, 5, false), (5, 3, false), (6, 3, false), (41, 4, false)])]
noncomputable def code : ACode := codeOf Tryd.f4 anns
def rs : List ResultVar := [.tmp 4]
def decA : List AVal → Heap → Option ((List UInt8) × Int)
  | [.slice 0 1 .all, .int .u8 x1], [.row 0 1 false 5 (.u8 x0)] => some (x0, x1)
  | _, _ => none
def encA (a : (List UInt8) × Int) : List AVal × Heap := ([.slice 0 1 .all, .int .u8 a.2], [.row 0 1 false 5 (.u8 a.1)])
def decB : AVal → Heap → Option (Bool)
  | .bool y0, [_] => some y0
  | _, _ => none
def encB (b : Bool) : Out := (.bool b, [], [])
def X : List Ct := [quote_Scan.ct, cavillaw10_works.ct]
def ct : Ct := ⟨4, callRun cfg.tt [(35, false), (5, false)] decA (fun k a => m k a.1 a.2) false encB⟩
theorem ok : FnOk Tryd.prog cfg 4 83 code rs := .of Tryd.func4 (by kernel_rfl) rfl rfl (by kernel_rfl) (by kernel_rfl) rfl
abbrev kend : KK (Bool) := kEnd cfg.tt rs (kFin cfg.tt 1 false [4] [] [0] decB)
noncomputable abbrev rn := run cfg X 83 1 code kend
theorem s0 (k : Nat) (J : Nat → Fr → Heap → Option (Bool)) (x0 : List UInt8) (x1 : Int) : stepJ cfg X 83 1 code kend k J 0 (argFr 0 (encA (x0, x1)).1) (encA (x0, x1)).2 = b0 k (fun s => J s.lab s.fr s.hp) x0 x1 := by kernel_rfl
theorem s1 (k : Nat) (J : Nat → Fr → Heap → Option (Bool)) (x0 : List UInt8) (x1 : List UInt8) (x2 : Int) (x3 : Int) (x4 : Int) (x5 : Bool) : stepJ cfg X 83 1 code kend k J (St.l1 x0 x1 x2 x3 x4 x5).lab (St.l1 x0 x1 x2 x3 x4 x5).fr (St.l1 x0 x1 x2 x3 x4 x5).hp = b1 k (fun s => J s.lab s.fr s.hp) x0 x1 x2 x3 x4 x5 := by kernel_rfl
theorem go_ok : ∀ (k : Nat) (s : St), rn k s.lab s.fr s.hp = go k s
  | 0, _ => rfl
  | k + 1, .l1 x0 x1 x2 x3 x4 x5 => by
    have h := s1 k (rn k) x0 x1 x2 x3 x4 x5
    rw [show (fun s : St => rn k s.lab s.fr s.hp) = go k from funext (go_ok k)] at h
    exact h
theorem run_ok : ∀ (k : Nat) (a : (List UInt8) × Int), rn k 0 (argFr 0 (encA a).1) (encA a).2 = m k a.1 a.2
  | 0, _ => rfl
  | k + 1, (x0, x1) => by
    have h := s0 k (rn k) x0 x1
    rw [show (fun s : St => rn k s.lab s.fr s.hp) = go k from funext (go_ok k)] at h
    exact h
theorem snd (k : Nat) : Snd Tryd.prog cfg k ct := fn_snd (X := X) cfgOk mixed ok (np := 1) (vps := []) (vws := [0]) (decA := decA) (encA := encA) (decB := decB) (encB := encB)
  (by
    intro xs H a h
    unfold decA at h
    split at h
    · cases h; exact ⟨rfl, rfl, rfl, rfl⟩
    · cases h)
  (by
    intro v H b h
    unfold decB at h
    split at h
    · cases h; exact ⟨rfl, fun _ _ _ h => (by cases h), rfl⟩
    · cases h)
  rfl k (fun k' _ => AllS.mem (l := X) ⟨quote_Scan.snd k', cavillaw10_works.snd k', trivial⟩) (fun a => run_ok k a)
end cavillaw10_QuoteAlone
end Go.Proofs.YtjgjbdphjccpcaaDoor
