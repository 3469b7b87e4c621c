/-
  Functions of the program as Lean functions with fuel; the code comes to their answers. Written by a program of this session.
-/
import Derived.Test.YtcdcihmlmcnbjaaEngG
import Derived.Test.YtcdcihmlmcnbjaaProg
namespace Go.Proofs.Ytcdcihmlmcnbjaa
open Go Go.RowKit Eng
set_option linter.unusedVariables false
def tt : List (Nat × TK) := [(3, .int .i64), (4, .bool), (5, .int .u8), (9, .str), (22, .slice 5), (34, .arr 48 9), (36, .arr 25 9)]
theorem tok : Tok Try.prog tt := Tok.cons (show TK.ok _ _ _ from Try.underlying3) (Tok.cons (show TK.ok _ _ _ from Try.underlying4) (Tok.cons (show TK.ok _ _ _ from Try.underlying5) (Tok.cons (show TK.ok _ _ _ from Try.underlying9) (Tok.cons (show TK.ok _ _ _ from Try.underlying22) (Tok.cons (show TK.ok _ _ _ from Try.underlying34) (Tok.cons (show TK.ok _ _ _ from Try.underlying36) (Tok.nil _)))))))
theorem inf5 : infoIs Try.prog 5 (.int .u8 0) 1 := by unfold infoIs; kernel_rfl
theorem inf9 : infoIs Try.prog 9 (.string ⟨#[]⟩) 1 := by unfold infoIs; kernel_rfl
theorem inf34 : infoIs Try.prog 34 (.agg #[.string ⟨#[]⟩, .string ⟨#[]⟩, .string ⟨#[]⟩, .string ⟨#[]⟩, .string ⟨#[]⟩, .string ⟨#[]⟩, .string ⟨#[]⟩, .string ⟨#[]⟩, .string ⟨#[]⟩, .string ⟨#[]⟩, .string ⟨#[]⟩, .string ⟨#[]⟩, .string ⟨#[]⟩, .string ⟨#[]⟩, .string ⟨#[]⟩, .string ⟨#[]⟩, .string ⟨#[]⟩, .string ⟨#[]⟩, .string ⟨#[]⟩, .string ⟨#[]⟩, .string ⟨#[]⟩, .string ⟨#[]⟩, .string ⟨#[]⟩, .string ⟨#[]⟩, .string ⟨#[]⟩, .string ⟨#[]⟩, .string ⟨#[]⟩, .string ⟨#[]⟩, .string ⟨#[]⟩, .string ⟨#[]⟩, .string ⟨#[]⟩, .string ⟨#[]⟩, .string ⟨#[]⟩, .string ⟨#[]⟩, .string ⟨#[]⟩, .string ⟨#[]⟩, .string ⟨#[]⟩, .string ⟨#[]⟩, .string ⟨#[]⟩, .string ⟨#[]⟩, .string ⟨#[]⟩, .string ⟨#[]⟩, .string ⟨#[]⟩, .string ⟨#[]⟩, .string ⟨#[]⟩, .string ⟨#[]⟩, .string ⟨#[]⟩, .string ⟨#[]⟩]) 48 := by unfold infoIs; kernel_rfl
theorem inf36 : infoIs Try.prog 36 (.agg #[.string ⟨#[]⟩, .string ⟨#[]⟩, .string ⟨#[]⟩, .string ⟨#[]⟩, .string ⟨#[]⟩, .string ⟨#[]⟩, .string ⟨#[]⟩, .string ⟨#[]⟩, .string ⟨#[]⟩, .string ⟨#[]⟩, .string ⟨#[]⟩, .string ⟨#[]⟩, .string ⟨#[]⟩, .string ⟨#[]⟩, .string ⟨#[]⟩, .string ⟨#[]⟩, .string ⟨#[]⟩, .string ⟨#[]⟩, .string ⟨#[]⟩, .string ⟨#[]⟩, .string ⟨#[]⟩, .string ⟨#[]⟩, .string ⟨#[]⟩, .string ⟨#[]⟩, .string ⟨#[]⟩]) 25 := by unfold infoIs; kernel_rfl
/-! cavil/cavilref06.Nth -/
def cavilref06_Nth.l0 : Nat → Int → Int → Int → List UInt8 → Option (List UInt8)
  | 0, _, _, _, _ => none
  | k + 1, x1_3, x5_4, x6_5, a0_1 => bif decide (x6_5 < (a0_1.length : Int)) then (bif decide (0 ≤ x6_5) && decide (x6_5 < (a0_1.length : Int)) then (bif (byt a0_1 x6_5) == 32 then (bif x1_3 == 0 then (bif decide (0 ≤ x5_4) && (decide (x5_4 ≤ x6_5) && decide (x6_5 ≤ (a0_1.length : Int))) then (some (cut a0_1 x5_4 x6_5)) else none) else (cavilref06_Nth.l0 k (wr .i64 (x1_3 - 1)) (wr .i64 (x6_5 + 1)) (wr .i64 (x6_5 + 1)) a0_1)) else (cavilref06_Nth.l0 k x1_3 x5_4 (wr .i64 (x6_5 + 1)) a0_1)) else none) else (some [])
def cavilref06_Nth.f (k : Nat) (a0_1 : List UInt8) (a1_2 : Int) : Option (List UInt8) := cavilref06_Nth.l0 k a1_2 0 0 a0_1
set_option maxRecDepth 100000 in
theorem cavilref06_Nth.calls (k : Nat) (a0_1 : List UInt8) (a1_2 : Int) (r_12 : List UInt8) (w : World) (h : cavilref06_Nth.f k a0_1 a1_2 = some r_12) : Calls Try.prog 24 #[.string (mk a0_1), .int .i64 a1_2] w fun e w' => e = .returned (.string (mk r_12)) ∧ Bl w w' := by
  have H := h
  clear h
  unfold cavilref06_Nth.f at H
  have HM := Mem.refl w
  refine enter (n := 27) (args := [.string (mk a0_1), .int .i64 a1_2]) Try.func24 rfl rfl rfl ?_
  refine WC.seq ?_
  refine WC.region ?_
  refine WI.run tok 1 1 [(0, .string (mk a0_1)), (1, .int .i64 a1_2)] (by kernel_rfl) rfl ?_
  refine WI.done rfl ?_
  refine QF.next ?_
  refine WC.seq ?_
  refine WC.region ?_
  refine WI.run tok 1 1 [(0, .string (mk a0_1)), (1, .int .i64 a1_2), (5, .int .i64 0)] (by kernel_rfl) rfl ?_
  refine WI.done rfl ?_
  refine QF.next ?_
  refine WC.seq ?_
  refine WC.seq ?_
  refine WC.region ?_
  refine WI.run tok 1 1 [(0, .string (mk a0_1)), (1, .int .i64 a1_2), (5, .int .i64 0), (6, .int .i64 0)] (by kernel_rfl) rfl ?_
  refine WI.done rfl ?_
  refine QF.next ?_
  refine WC.block ?_
  refine WC.sub [(0, .string (mk a0_1)), (1, .int .i64 a1_2), (5, .int .i64 0), (6, .int .i64 0)] (by kernel_rfl) ?_
  refine WC.loop (fun kq fr' w' => ∃ (x1_3 : Int) (x5_4 : Int) (x6_5 : Int), fr' = [(0, .string (mk a0_1)), (1, .int .i64 x1_3), (5, .int .i64 x5_4), (6, .int .i64 x6_5)] ∧ cavilref06_Nth.l0 kq x1_3 x5_4 x6_5 a0_1 = some r_12 ∧ kq ≤ k ∧ Mem w w' []) k ⟨a1_2, 0, 0, rfl, H, Nat.le_refl _, HM⟩ ?_
  clear H HM
  rintro k_6' _ w' ⟨x1_3, x5_4, x6_5, rfl, H, HKk_6, HM⟩
  cases k_6' with
  | zero => exact none_t H
  | succ k_6 =>
  replace H := (show cavilref06_Nth.l0 (_ + 1) _ _ _ _ = _ from rfl).symm.trans H
  refine WC.seq ?_
  refine WC.seq ?_
  refine WC.region ?_
  refine WI.run tok 4 4 [(0, .string (mk a0_1)), (1, .int .i64 x1_3), (5, .int .i64 x5_4), (6, .int .i64 x6_5), (10, .bool (decide (x6_5 < (a0_1.length : Int))))] (by kernel_rfl) rfl ?_
  refine WI.done rfl ?_
  refine QF.next ?_
  refine WC.cond rfl (fun hb_7 => ?_) (fun hb_7 => ?_)
  · replace H := cond_t hb_7 H
    refine WC.skip ?_
    refine QF.next ?_
    refine WC.seq ?_
    refine WC.block ?_
    refine WC.seq ?_
    refine WC.region ?_
    refine WI.run tok 2 2 [(0, .string (mk a0_1)), (1, .int .i64 x1_3), (5, .int .i64 x5_4), (6, .int .i64 x6_5), (13, .string (mk a0_1)), (14, .int .i64 x6_5)] (by kernel_rfl) rfl ?_
    obtain ⟨hg_8, H⟩ := guard_t H
    refine WI.step rfl rfl rfl rfl (St.index_str tok rfl rfl rfl rfl hg_8) ?_
    rintro _ _ ⟨rfl, rfl⟩
    refine WI.run tok 1 4 [(0, .string (mk a0_1)), (1, .int .i64 x1_3), (5, .int .i64 x5_4), (6, .int .i64 x6_5), (16, .bool ((byt a0_1 x6_5) == 32))] (by kernel_rfl) rfl ?_
    refine WI.done rfl ?_
    refine QF.next ?_
    refine WC.cond rfl (fun hb_9 => ?_) (fun hb_9 => ?_)
    · replace H := cond_t hb_9 H
      refine WC.seq ?_
      refine WC.seq ?_
      refine WC.region ?_
      refine WI.run tok 2 2 [(0, .string (mk a0_1)), (1, .int .i64 x1_3), (5, .int .i64 x5_4), (6, .int .i64 x6_5), (18, .bool (x1_3 == 0))] (by kernel_rfl) rfl ?_
      refine WI.done rfl ?_
      refine QF.next ?_
      refine WC.cond rfl (fun hb_10 => ?_) (fun hb_10 => ?_)
      · replace H := cond_t hb_10 H
        refine WC.seq ?_
        refine WC.region ?_
        refine WI.run tok 3 3 [(19, .string (mk a0_1)), (20, .int .i64 x5_4), (21, .int .i64 x6_5)] (by kernel_rfl) rfl ?_
        obtain ⟨hg_11, H⟩ := guard_t H
        refine WI.step rfl rfl rfl rfl (St.slice_str tok rfl rfl rfl rfl rfl hg_11) ?_
        rintro _ _ ⟨rfl, rfl⟩
        refine WI.run tok 1 5 [(4, .string (mk (cut a0_1 x5_4 x6_5)))] (by kernel_rfl) rfl ?_
        refine WI.done rfl ?_
        refine QF.next ?_
        refine WC.ret ?_
        refine QF.then_ret ?_
        refine QF.block_ret ?_
        refine QF.then_ret ?_
        refine QF.then_ret ?_
        refine QF.block_ret ?_
        refine QF.then_ret ?_
        have H0 : (cut a0_1 x5_4 x6_5 : List UInt8) = r_12 := Option.some.inj H
        clear H
        subst H0
        exact QF.ret [4] [.string (mk (cut a0_1 x5_4 x6_5))] rfl rfl (by kernel_rfl) ⟨rfl, HM.bl⟩
      · replace H := cond_f hb_10 H
        refine WC.skip ?_
        refine QF.next ?_
        refine WC.seq ?_
        refine WC.region ?_
        refine WI.run tok 3 3 [(0, .string (mk a0_1)), (1, .int .i64 (wr .i64 (x1_3 - 1))), (6, .int .i64 x6_5)] (by kernel_rfl) rfl ?_
        refine WI.done rfl ?_
        refine QF.next ?_
        refine WC.region ?_
        refine WI.run tok 3 3 [(0, .string (mk a0_1)), (1, .int .i64 (wr .i64 (x1_3 - 1))), (5, .int .i64 (wr .i64 (x6_5 + 1))), (6, .int .i64 x6_5)] (by kernel_rfl) rfl ?_
        refine WI.done rfl ?_
        refine QF.block_normal ?_
        refine QF.next ?_
        refine WC.region ?_
        refine WI.run tok 3 3 [(0, .string (mk a0_1)), (1, .int .i64 (wr .i64 (x1_3 - 1))), (5, .int .i64 (wr .i64 (x6_5 + 1))), (6, .int .i64 (wr .i64 (x6_5 + 1)))] (by kernel_rfl) rfl ?_
        refine WI.done rfl ?_
        exact QF.again k_6 (by omega) [(0, .string (mk a0_1)), (1, .int .i64 (wr .i64 (x1_3 - 1))), (5, .int .i64 (wr .i64 (x6_5 + 1))), (6, .int .i64 (wr .i64 (x6_5 + 1)))] (by kernel_rfl) ⟨(wr .i64 (x1_3 - 1)), (wr .i64 (x6_5 + 1)), (wr .i64 (x6_5 + 1)), rfl, H, by omega, HM⟩
    · replace H := cond_f hb_9 H
      refine WC.skip ?_
      refine QF.block_normal ?_
      refine QF.next ?_
      refine WC.region ?_
      refine WI.run tok 3 3 [(0, .string (mk a0_1)), (1, .int .i64 x1_3), (5, .int .i64 x5_4), (6, .int .i64 (wr .i64 (x6_5 + 1)))] (by kernel_rfl) rfl ?_
      refine WI.done rfl ?_
      exact QF.again k_6 (by omega) [(0, .string (mk a0_1)), (1, .int .i64 x1_3), (5, .int .i64 x5_4), (6, .int .i64 (wr .i64 (x6_5 + 1)))] (by kernel_rfl) ⟨x1_3, x5_4, (wr .i64 (x6_5 + 1)), rfl, H, by omega, HM⟩
  · replace H := cond_f hb_7 H
    refine WC.exit ?_
    refine QF.then_exit ?_
    refine QF.then_exit ?_
    refine QF.block_here ?_
    refine QF.next ?_
    refine WC.seq ?_
    refine WC.region ?_
    refine WI.run tok 1 1 [(4, .string (mk []))] (by kernel_rfl) rfl ?_
    refine WI.done rfl ?_
    refine QF.next ?_
    refine WC.ret ?_
    have H0 : ([] : List UInt8) = r_12 := Option.some.inj H
    clear H
    subst H0
    exact QF.ret [4] [.string (mk [])] rfl rfl (by kernel_rfl) ⟨rfl, HM.bl⟩
/-! cavil/cavilref06.Spell -/
def cavilref06_Spell.f (k : Nat) (a0_1 : Int) : Option (List UInt8) := bif (decide (a0_1 ≥ 1)) && (decide (a0_1 ≤ 5)) then ((cavilref06_Nth.f k ([110, 97, 109, 101, 32, 105, 110, 116, 32, 102, 108, 111, 97, 116, 32, 99, 104, 97, 114, 32, 115, 116, 114, 105, 110, 103, 32] : List UInt8) (wr .i64 (a0_1 - 1))).bind fun r_3 => (some r_3)) else (bif (decide (a0_1 ≥ 10)) && (decide (a0_1 < 40)) then ((cavilref06_Nth.f k ([98, 114, 101, 97, 107, 32, 99, 97, 115, 101, 32, 99, 104, 97, 110, 32, 99, 111, 110, 115, 116, 32, 99, 111, 110, 116, 105, 110, 117, 101, 32, 100, 101, 102, 97, 117, 108, 116, 32, 100, 101, 102, 101, 114, 32, 101, 108, 115, 101, 32, 102, 97, 108, 108, 116, 104, 114, 111, 117, 103, 104, 32, 102, 111, 114, 32, 102, 117, 110, 99, 32, 103, 111, 32, 103, 111, 116, 111, 32, 105, 102, 32, 105, 109, 112, 111, 114, 116, 32, 105, 110, 116, 101, 114, 102, 97, 99, 101, 32, 109, 97, 112, 32, 112, 97, 99, 107, 97, 103, 101, 32, 114, 97, 110, 103, 101, 32, 114, 101, 116, 117, 114, 110, 32, 115, 101, 108, 101, 99, 116, 32, 115, 116, 114, 117, 99, 116, 32, 115, 119, 105, 116, 99, 104, 32, 116, 121, 112, 101, 32, 118, 97, 114, 32] : List UInt8) (wr .i64 (a0_1 - 10))).bind fun r_8 => (some r_8)) else (bif (decide (a0_1 ≥ 40)) && (decide (a0_1 < 100)) then ((cavilref06_Nth.f k ([43, 32, 45, 32, 42, 32, 47, 32, 37, 32, 38, 32, 124, 32, 94, 32, 60, 60, 32, 62, 62, 32, 38, 94, 32, 43, 61, 32, 45, 61, 32, 42, 61, 32, 47, 61, 32, 37, 61, 32, 38, 61, 32, 124, 61, 32, 94, 61, 32, 60, 60, 61, 32, 62, 62, 61, 32, 38, 94, 61, 32, 38, 38, 32, 124, 124, 32, 60, 45, 32, 43, 43, 32, 45, 45, 32, 61, 61, 32, 60, 32, 62, 32, 61, 32, 33, 32, 126, 32, 33, 61, 32, 60, 61, 32, 62, 61, 32, 58, 61, 32, 46, 46, 46, 32, 40, 32, 91, 32, 123, 32, 44, 32, 46, 32, 41, 32, 93, 32, 125, 32, 59, 32, 58, 32] : List UInt8) (wr .i64 (a0_1 - 40))).bind fun r_13 => (some r_13)) else (some [])))
set_option maxRecDepth 100000 in
theorem cavilref06_Spell.calls (k : Nat) (a0_1 : Int) (r_17 : List UInt8) (w : World) (h : cavilref06_Spell.f k a0_1 = some r_17) : Calls Try.prog 12 #[.int .i64 a0_1] w fun e w' => e = .returned (.string (mk r_17)) ∧ Bl w w' := by
  have H := h
  clear h
  unfold cavilref06_Spell.f at H
  have HM := Mem.refl w
  refine enter (n := 30) (args := [.int .i64 a0_1]) Try.func12 rfl rfl rfl ?_
  refine WC.seq ?_
  refine WC.region ?_
  refine WI.run tok 1 1 [(0, .int .i64 a0_1)] (by kernel_rfl) rfl ?_
  refine WI.done rfl ?_
  refine QF.next ?_
  refine WC.seq ?_
  refine WC.seq ?_
  refine WC.region ?_
  refine WI.run tok 3 3 [(0, .int .i64 a0_1), (5, .bool (decide (a0_1 ≥ 1)))] (by kernel_rfl) rfl ?_
  refine WI.runAnd tok 5 _ rfl 3 6 8 (decide (a0_1 ≤ 5)) [(0, .int .i64 a0_1)] (by kernel_rfl) (by kernel_rfl) rfl ?_
  refine WI.done rfl ?_
  refine QF.next ?_
  refine WC.cond rfl (fun hb_2 => ?_) (fun hb_2 => ?_)
  · replace H := cond_t hb_2 H
    refine WC.seq ?_
    refine WC.region ?_
    refine WI.run tok 2 2 [(10, .int .i64 (wr .i64 (a0_1 - 1)))] (by kernel_rfl) rfl ?_
    obtain ⟨r_3, hc_4, H⟩ := bind_t H
    refine WI.callB (cavilref06_Nth.calls k ([110, 97, 109, 101, 32, 105, 110, 116, 32, 102, 108, 111, 97, 116, 32, 99, 104, 97, 114, 32, 115, 116, 114, 105, 110, 103, 32] : List UInt8) (wr .i64 (a0_1 - 1)) r_3 _  hc_4) rfl rfl rfl (by kernel_rfl) (by kernel_rfl) (fun w_6 hw_5 => ?_)
    replace HM := HM.call hw_5
    clear hw_5
    refine WI.run tok 1 4 [(2, .string (mk r_3))] (by kernel_rfl) rfl ?_
    refine WI.done rfl ?_
    refine QF.next ?_
    refine WC.ret ?_
    refine QF.then_ret ?_
    have H0 : (r_3 : List UInt8) = r_17 := Option.some.inj H
    clear H
    subst H0
    exact QF.ret [2] [.string (mk r_3)] rfl rfl (by kernel_rfl) ⟨rfl, HM.bl⟩
  · replace H := cond_f hb_2 H
    refine WC.skip ?_
    refine QF.next ?_
    refine WC.seq ?_
    refine WC.seq ?_
    refine WC.region ?_
    refine WI.run tok 3 3 [(0, .int .i64 a0_1), (14, .bool (decide (a0_1 ≥ 10)))] (by kernel_rfl) rfl ?_
    refine WI.runAnd tok 14 _ rfl 3 6 17 (decide (a0_1 < 40)) [(0, .int .i64 a0_1)] (by kernel_rfl) (by kernel_rfl) rfl ?_
    refine WI.done rfl ?_
    refine QF.next ?_
    refine WC.cond rfl (fun hb_7 => ?_) (fun hb_7 => ?_)
    · replace H := cond_t hb_7 H
      refine WC.seq ?_
      refine WC.region ?_
      refine WI.run tok 2 2 [(19, .int .i64 (wr .i64 (a0_1 - 10)))] (by kernel_rfl) rfl ?_
      obtain ⟨r_8, hc_9, H⟩ := bind_t H
      refine WI.callB (cavilref06_Nth.calls k ([98, 114, 101, 97, 107, 32, 99, 97, 115, 101, 32, 99, 104, 97, 110, 32, 99, 111, 110, 115, 116, 32, 99, 111, 110, 116, 105, 110, 117, 101, 32, 100, 101, 102, 97, 117, 108, 116, 32, 100, 101, 102, 101, 114, 32, 101, 108, 115, 101, 32, 102, 97, 108, 108, 116, 104, 114, 111, 117, 103, 104, 32, 102, 111, 114, 32, 102, 117, 110, 99, 32, 103, 111, 32, 103, 111, 116, 111, 32, 105, 102, 32, 105, 109, 112, 111, 114, 116, 32, 105, 110, 116, 101, 114, 102, 97, 99, 101, 32, 109, 97, 112, 32, 112, 97, 99, 107, 97, 103, 101, 32, 114, 97, 110, 103, 101, 32, 114, 101, 116, 117, 114, 110, 32, 115, 101, 108, 101, 99, 116, 32, 115, 116, 114, 117, 99, 116, 32, 115, 119, 105, 116, 99, 104, 32, 116, 121, 112, 101, 32, 118, 97, 114, 32] : List UInt8) (wr .i64 (a0_1 - 10)) r_8 _  hc_9) rfl rfl rfl (by kernel_rfl) (by kernel_rfl) (fun w_11 hw_10 => ?_)
      replace HM := HM.call hw_10
      clear hw_10
      refine WI.run tok 1 4 [(2, .string (mk r_8))] (by kernel_rfl) rfl ?_
      refine WI.done rfl ?_
      refine QF.next ?_
      refine WC.ret ?_
      refine QF.then_ret ?_
      have H0 : (r_8 : List UInt8) = r_17 := Option.some.inj H
      clear H
      subst H0
      exact QF.ret [2] [.string (mk r_8)] rfl rfl (by kernel_rfl) ⟨rfl, HM.bl⟩
    · replace H := cond_f hb_7 H
      refine WC.skip ?_
      refine QF.next ?_
      refine WC.seq ?_
      refine WC.seq ?_
      refine WC.region ?_
      refine WI.run tok 3 3 [(0, .int .i64 a0_1), (23, .bool (decide (a0_1 ≥ 40)))] (by kernel_rfl) rfl ?_
      refine WI.runAnd tok 23 _ rfl 3 6 26 (decide (a0_1 < 100)) [(0, .int .i64 a0_1)] (by kernel_rfl) (by kernel_rfl) rfl ?_
      refine WI.done rfl ?_
      refine QF.next ?_
      refine WC.cond rfl (fun hb_12 => ?_) (fun hb_12 => ?_)
      · replace H := cond_t hb_12 H
        refine WC.seq ?_
        refine WC.region ?_
        refine WI.run tok 2 2 [(28, .int .i64 (wr .i64 (a0_1 - 40)))] (by kernel_rfl) rfl ?_
        obtain ⟨r_13, hc_14, H⟩ := bind_t H
        refine WI.callB (cavilref06_Nth.calls k ([43, 32, 45, 32, 42, 32, 47, 32, 37, 32, 38, 32, 124, 32, 94, 32, 60, 60, 32, 62, 62, 32, 38, 94, 32, 43, 61, 32, 45, 61, 32, 42, 61, 32, 47, 61, 32, 37, 61, 32, 38, 61, 32, 124, 61, 32, 94, 61, 32, 60, 60, 61, 32, 62, 62, 61, 32, 38, 94, 61, 32, 38, 38, 32, 124, 124, 32, 60, 45, 32, 43, 43, 32, 45, 45, 32, 61, 61, 32, 60, 32, 62, 32, 61, 32, 33, 32, 126, 32, 33, 61, 32, 60, 61, 32, 62, 61, 32, 58, 61, 32, 46, 46, 46, 32, 40, 32, 91, 32, 123, 32, 44, 32, 46, 32, 41, 32, 93, 32, 125, 32, 59, 32, 58, 32] : List UInt8) (wr .i64 (a0_1 - 40)) r_13 _  hc_14) rfl rfl rfl (by kernel_rfl) (by kernel_rfl) (fun w_16 hw_15 => ?_)
        replace HM := HM.call hw_15
        clear hw_15
        refine WI.run tok 1 4 [(2, .string (mk r_13))] (by kernel_rfl) rfl ?_
        refine WI.done rfl ?_
        refine QF.next ?_
        refine WC.ret ?_
        refine QF.then_ret ?_
        have H0 : (r_13 : List UInt8) = r_17 := Option.some.inj H
        clear H
        subst H0
        exact QF.ret [2] [.string (mk r_13)] rfl rfl (by kernel_rfl) ⟨rfl, HM.bl⟩
      · replace H := cond_f hb_12 H
        refine WC.skip ?_
        refine QF.next ?_
        refine WC.seq ?_
        refine WC.region ?_
        refine WI.run tok 1 1 [(2, .string (mk []))] (by kernel_rfl) rfl ?_
        refine WI.done rfl ?_
        refine QF.next ?_
        refine WC.ret ?_
        have H0 : ([] : List UInt8) = r_17 := Option.some.inj H
        clear H
        subst H0
        exact QF.ret [2] [.string (mk [])] rfl rfl (by kernel_rfl) ⟨rfl, HM.bl⟩
/-! cavil/cavilref06.Keyword -/
def cavilref06_Keyword.l0 : Nat → Int → List UInt8 → Option (Int)
  | 0, _, _ => none
  | k + 1, x3_2, a0_1 => bif decide (x3_2 < 35) then ((cavilref06_Spell.f k x3_2).bind fun r_5 => (bif r_5 == a0_1 then (some x3_2) else (cavilref06_Keyword.l0 k (wr .i64 (x3_2 + 1)) a0_1))) else (some 0)
def cavilref06_Keyword.f (k : Nat) (a0_1 : List UInt8) : Option (Int) := cavilref06_Keyword.l0 k 10 a0_1
set_option maxRecDepth 100000 in
theorem cavilref06_Keyword.calls (k : Nat) (a0_1 : List UInt8) (r_10 : Int) (w : World) (h : cavilref06_Keyword.f k a0_1 = some r_10) : Calls Try.prog 13 #[.string (mk a0_1)] w fun e w' => e = .returned (.int .i64 r_10) ∧ Bl w w' := by
  have H := h
  clear h
  unfold cavilref06_Keyword.f at H
  have HM := Mem.refl w
  refine enter (n := 13) (args := [.string (mk a0_1)]) Try.func13 rfl rfl rfl ?_
  refine WC.seq ?_
  refine WC.region ?_
  refine WI.run tok 1 1 [(0, .string (mk a0_1))] (by kernel_rfl) rfl ?_
  refine WI.done rfl ?_
  refine QF.next ?_
  refine WC.seq ?_
  refine WC.seq ?_
  refine WC.region ?_
  refine WI.run tok 1 1 [(0, .string (mk a0_1)), (3, .int .i64 10)] (by kernel_rfl) rfl ?_
  refine WI.done rfl ?_
  refine QF.next ?_
  refine WC.block ?_
  refine WC.sub [(0, .string (mk a0_1)), (3, .int .i64 10)] (by kernel_rfl) ?_
  refine WC.loop (fun kq fr' w' => ∃ (x3_2 : Int), fr' = [(0, .string (mk a0_1)), (3, .int .i64 x3_2)] ∧ cavilref06_Keyword.l0 kq x3_2 a0_1 = some r_10 ∧ kq ≤ k ∧ Mem w w' []) k ⟨10, rfl, H, Nat.le_refl _, HM⟩ ?_
  clear H HM
  rintro k_3' _ w' ⟨x3_2, rfl, H, HKk_3, HM⟩
  cases k_3' with
  | zero => exact none_t H
  | succ k_3 =>
  replace H := (show cavilref06_Keyword.l0 (_ + 1) _ _ = _ from rfl).symm.trans H
  refine WC.seq ?_
  refine WC.seq ?_
  refine WC.region ?_
  refine WI.run tok 2 2 [(0, .string (mk a0_1)), (3, .int .i64 x3_2), (5, .bool (decide (x3_2 < 35)))] (by kernel_rfl) rfl ?_
  refine WI.done rfl ?_
  refine QF.next ?_
  refine WC.cond rfl (fun hb_4 => ?_) (fun hb_4 => ?_)
  · replace H := cond_t hb_4 H
    refine WC.skip ?_
    refine QF.next ?_
    refine WC.seq ?_
    refine WC.block ?_
    refine WC.seq ?_
    refine WC.region ?_
    refine WI.run tok 1 1 [(0, .string (mk a0_1)), (3, .int .i64 x3_2), (8, .int .i64 x3_2)] (by kernel_rfl) rfl ?_
    obtain ⟨r_5, hc_6, H⟩ := bind_t H
    refine WI.callB (cavilref06_Spell.calls k_3 x3_2 r_5 _  hc_6) rfl rfl rfl (by kernel_rfl) (by kernel_rfl) (fun w_8 hw_7 => ?_)
    replace HM := HM.call hw_7
    clear hw_7
    refine WI.run tok 2 4 [(0, .string (mk a0_1)), (3, .int .i64 x3_2), (11, .bool (r_5 == a0_1))] (by kernel_rfl) rfl ?_
    refine WI.done rfl ?_
    refine QF.next ?_
    refine WC.cond rfl (fun hb_9 => ?_) (fun hb_9 => ?_)
    · replace H := cond_t hb_9 H
      refine WC.seq ?_
      refine WC.region ?_
      refine WI.run tok 2 2 [(2, .int .i64 x3_2)] (by kernel_rfl) rfl ?_
      refine WI.done rfl ?_
      refine QF.next ?_
      refine WC.ret ?_
      refine QF.block_ret ?_
      refine QF.then_ret ?_
      refine QF.then_ret ?_
      refine QF.block_ret ?_
      refine QF.then_ret ?_
      have H0 : (x3_2 : Int) = r_10 := Option.some.inj H
      clear H
      subst H0
      exact QF.ret [2] [.int .i64 x3_2] rfl rfl (by kernel_rfl) ⟨rfl, HM.bl⟩
    · replace H := cond_f hb_9 H
      refine WC.skip ?_
      refine QF.block_normal ?_
      refine QF.next ?_
      refine WC.region ?_
      refine WI.run tok 3 3 [(0, .string (mk a0_1)), (3, .int .i64 (wr .i64 (x3_2 + 1)))] (by kernel_rfl) rfl ?_
      refine WI.done rfl ?_
      exact QF.again k_3 (by omega) [(0, .string (mk a0_1)), (3, .int .i64 (wr .i64 (x3_2 + 1)))] (by kernel_rfl) ⟨(wr .i64 (x3_2 + 1)), rfl, H, by omega, HM⟩
  · replace H := cond_f hb_4 H
    refine WC.exit ?_
    refine QF.then_exit ?_
    refine QF.then_exit ?_
    refine QF.block_here ?_
    refine QF.next ?_
    refine WC.seq ?_
    refine WC.region ?_
    refine WI.run tok 1 1 [(2, .int .i64 0)] (by kernel_rfl) rfl ?_
    refine WI.done rfl ?_
    refine QF.next ?_
    refine WC.ret ?_
    have H0 : (0 : Int) = r_10 := Option.some.inj H
    clear H
    subst H0
    exact QF.ret [2] [.int .i64 0] rfl rfl (by kernel_rfl) ⟨rfl, HM.bl⟩
/-! cavil/cavilref06.In -/
def cavilref06_In.l0 : Nat → Int → List UInt8 → List UInt8 → Option (Bool)
  | 0, _, _, _ => none
  | k + 1, x6_7, a1_2, r_3 => bif decide (x6_7 < 20) then (bif !(r_3 == ([] : List UInt8)) then ((cavilref06_Nth.f k a1_2 x6_7).bind fun r_11 => (bif r_11 == r_3 then (some true) else (cavilref06_In.l0 k (wr .i64 (x6_7 + 1)) a1_2 r_3))) else (cavilref06_In.l0 k (wr .i64 (x6_7 + 1)) a1_2 r_3)) else (some false)
def cavilref06_In.f (k : Nat) (a0_1 : Int) (a1_2 : List UInt8) : Option (Bool) := (cavilref06_Spell.f k a0_1).bind fun r_3 => (cavilref06_In.l0 k 0 a1_2 r_3)
set_option maxRecDepth 100000 in
theorem cavilref06_In.calls (k : Nat) (a0_1 : Int) (a1_2 : List UInt8) (r_16 : Bool) (w : World) (h : cavilref06_In.f k a0_1 a1_2 = some r_16) : Calls Try.prog 25 #[.int .i64 a0_1, .string (mk a1_2)] w fun e w' => e = .returned (.bool r_16) ∧ Bl w w' := by
  have H := h
  clear h
  unfold cavilref06_In.f at H
  have HM := Mem.refl w
  refine enter (n := 22) (args := [.int .i64 a0_1, .string (mk a1_2)]) Try.func25 rfl rfl rfl ?_
  refine WC.seq ?_
  refine WC.region ?_
  refine WI.run tok 1 1 [(0, .int .i64 a0_1), (1, .string (mk a1_2))] (by kernel_rfl) rfl ?_
  refine WI.done rfl ?_
  refine QF.next ?_
  refine WC.seq ?_
  refine WC.region ?_
  refine WI.run tok 1 1 [(1, .string (mk a1_2)), (7, .int .i64 a0_1)] (by kernel_rfl) rfl ?_
  obtain ⟨r_3, hc_4, H⟩ := bind_t H
  refine WI.callB (cavilref06_Spell.calls k a0_1 r_3 _  hc_4) rfl rfl rfl (by kernel_rfl) (by kernel_rfl) (fun w_6 hw_5 => ?_)
  replace HM := HM.call hw_5
  clear hw_5
  refine WI.run tok 1 3 [(1, .string (mk a1_2)), (5, .string (mk r_3))] (by kernel_rfl) rfl ?_
  refine WI.done rfl ?_
  refine QF.next ?_
  refine WC.seq ?_
  refine WC.seq ?_
  refine WC.region ?_
  refine WI.run tok 1 1 [(1, .string (mk a1_2)), (5, .string (mk r_3)), (6, .int .i64 0)] (by kernel_rfl) rfl ?_
  refine WI.done rfl ?_
  refine QF.next ?_
  refine WC.block ?_
  refine WC.sub [(1, .string (mk a1_2)), (5, .string (mk r_3)), (6, .int .i64 0)] (by kernel_rfl) ?_
  refine WC.loop (fun kq fr' w' => ∃ (x6_7 : Int), fr' = [(1, .string (mk a1_2)), (5, .string (mk r_3)), (6, .int .i64 x6_7)] ∧ cavilref06_In.l0 kq x6_7 a1_2 r_3 = some r_16 ∧ kq ≤ k ∧ Mem w w' []) k ⟨0, rfl, H, Nat.le_refl _, HM⟩ ?_
  clear H HM
  rintro k_8' _ w' ⟨x6_7, rfl, H, HKk_8, HM⟩
  cases k_8' with
  | zero => exact none_t H
  | succ k_8 =>
  replace H := (show cavilref06_In.l0 (_ + 1) _ _ _ = _ from rfl).symm.trans H
  refine WC.seq ?_
  refine WC.seq ?_
  refine WC.region ?_
  refine WI.run tok 2 2 [(1, .string (mk a1_2)), (5, .string (mk r_3)), (6, .int .i64 x6_7), (10, .bool (decide (x6_7 < 20)))] (by kernel_rfl) rfl ?_
  refine WI.done rfl ?_
  refine QF.next ?_
  refine WC.cond rfl (fun hb_9 => ?_) (fun hb_9 => ?_)
  · replace H := cond_t hb_9 H
    refine WC.skip ?_
    refine QF.next ?_
    refine WC.seq ?_
    refine WC.block ?_
    refine WC.seq ?_
    refine WC.region ?_
    refine WI.run tok 3 3 [(1, .string (mk a1_2)), (5, .string (mk r_3)), (6, .int .i64 x6_7), (15, .bool (!(r_3 == ([] : List UInt8))))] (by kernel_rfl) rfl ?_
    refine WI.split 15 _ rfl (fun hb_10 => ?_) (fun hb_10 => ?_)
    · replace H := cond_t hb_10 H
      refine WI.run tok 2 5 [(1, .string (mk a1_2)), (5, .string (mk r_3)), (6, .int .i64 x6_7), (15, .bool true), (16, .string (mk a1_2)), (17, .int .i64 x6_7)] (by kernel_rfl) rfl ?_
      obtain ⟨r_11, hc_12, H⟩ := bind_t H
      refine WI.callB (cavilref06_Nth.calls k_8 a1_2 x6_7 r_11 _  hc_12) rfl rfl rfl (by kernel_rfl) (by kernel_rfl) (fun w_14 hw_13 => ?_)
      replace HM := HM.call hw_13
      clear hw_13
      refine WI.run tok 3 9 [(1, .string (mk a1_2)), (5, .string (mk r_3)), (6, .int .i64 x6_7), (21, .bool (r_11 == r_3))] (by kernel_rfl) rfl ?_
      refine WI.done rfl ?_
      refine QF.next ?_
      refine WC.cond rfl (fun hb_15 => ?_) (fun hb_15 => ?_)
      · replace H := cond_t hb_15 H
        refine WC.seq ?_
        refine WC.region ?_
        refine WI.run tok 1 1 [(4, .bool true)] (by kernel_rfl) rfl ?_
        refine WI.done rfl ?_
        refine QF.next ?_
        refine WC.ret ?_
        refine QF.block_ret ?_
        refine QF.then_ret ?_
        refine QF.then_ret ?_
        refine QF.block_ret ?_
        refine QF.then_ret ?_
        have H0 : (true : Bool) = r_16 := Option.some.inj H
        clear H
        subst H0
        exact QF.ret [4] [.bool true] rfl rfl (by kernel_rfl) ⟨rfl, HM.bl⟩
      · replace H := cond_f hb_15 H
        refine WC.skip ?_
        refine QF.block_normal ?_
        refine QF.next ?_
        refine WC.region ?_
        refine WI.run tok 3 3 [(1, .string (mk a1_2)), (5, .string (mk r_3)), (6, .int .i64 (wr .i64 (x6_7 + 1)))] (by kernel_rfl) rfl ?_
        refine WI.done rfl ?_
        exact QF.again k_8 (by omega) [(1, .string (mk a1_2)), (5, .string (mk r_3)), (6, .int .i64 (wr .i64 (x6_7 + 1)))] (by kernel_rfl) ⟨(wr .i64 (x6_7 + 1)), rfl, H, by omega, HM⟩
    · replace H := cond_f hb_10 H
      refine WI.run tok 6 9 [(1, .string (mk a1_2)), (5, .string (mk r_3)), (6, .int .i64 x6_7), (21, .bool false)] (by kernel_rfl) rfl ?_
      refine WI.done rfl ?_
      refine QF.next ?_
      refine WC.condF rfl ?_
      refine WC.skip ?_
      refine QF.block_normal ?_
      refine QF.next ?_
      refine WC.region ?_
      refine WI.run tok 3 3 [(1, .string (mk a1_2)), (5, .string (mk r_3)), (6, .int .i64 (wr .i64 (x6_7 + 1)))] (by kernel_rfl) rfl ?_
      refine WI.done rfl ?_
      exact QF.again k_8 (by omega) [(1, .string (mk a1_2)), (5, .string (mk r_3)), (6, .int .i64 (wr .i64 (x6_7 + 1)))] (by kernel_rfl) ⟨(wr .i64 (x6_7 + 1)), rfl, H, by omega, HM⟩
  · replace H := cond_f hb_9 H
    refine WC.exit ?_
    refine QF.then_exit ?_
    refine QF.then_exit ?_
    refine QF.block_here ?_
    refine QF.next ?_
    refine WC.seq ?_
    refine WC.region ?_
    refine WI.run tok 1 1 [(4, .bool false)] (by kernel_rfl) rfl ?_
    refine WI.done rfl ?_
    refine QF.next ?_
    refine WC.ret ?_
    have H0 : (false : Bool) = r_16 := Option.some.inj H
    clear H
    subst H0
    exact QF.ret [4] [.bool false] rfl rfl (by kernel_rfl) ⟨rfl, HM.bl⟩
/-! cavil/token.Prec -/
mutual
def token_Prec.j0 : Nat → Bool → Int → Option (Int)
  | 0, _, _ => none
  | k + 1, x8_4, a0_1 => bif x8_4 then (some 3) else (bif a0_1 == 40 then (token_Prec.j1 k (a0_1 == 40) a0_1) else (bif a0_1 == 41 then (token_Prec.j1 k (a0_1 == 41) a0_1) else (bif a0_1 == 46 then (token_Prec.j1 k (a0_1 == 46) a0_1) else (token_Prec.j1 k (a0_1 == 47) a0_1))))
def token_Prec.j1 : Nat → Bool → Int → Option (Int)
  | 0, _, _ => none
  | k + 1, x15_12, a0_1 => bif x15_12 then (some 4) else (bif a0_1 == 42 then (bif a0_1 == 42 then (some 5) else (some 0)) else (bif a0_1 == 43 then (bif a0_1 == 43 then (some 5) else (some 0)) else (bif a0_1 == 44 then (bif a0_1 == 44 then (some 5) else (some 0)) else (bif a0_1 == 48 then (bif a0_1 == 48 then (some 5) else (some 0)) else (bif a0_1 == 49 then (bif a0_1 == 49 then (some 5) else (some 0)) else (bif a0_1 == 45 then (bif a0_1 == 45 then (some 5) else (some 0)) else (bif a0_1 == 50 then (some 5) else (some 0))))))))
end
def token_Prec.f (k : Nat) (a0_1 : Int) : Option (Int) := bif a0_1 == 63 then (some 1) else (bif a0_1 == 62 then (some 2) else (bif a0_1 == 67 then (token_Prec.j0 k (a0_1 == 67) a0_1) else (bif a0_1 == 73 then (token_Prec.j0 k (a0_1 == 73) a0_1) else (bif a0_1 == 68 then (token_Prec.j0 k (a0_1 == 68) a0_1) else (bif a0_1 == 74 then (token_Prec.j0 k (a0_1 == 74) a0_1) else (bif a0_1 == 69 then (token_Prec.j0 k (a0_1 == 69) a0_1) else (token_Prec.j0 k (a0_1 == 75) a0_1)))))))
set_option maxRecDepth 100000 in
theorem token_Prec.calls (k : Nat) (a0_1 : Int) (r_31 : Int) (w : World) (h : token_Prec.f k a0_1 = some r_31) : Calls Try.prog 14 #[.int .i64 a0_1] w fun e w' => e = .returned (.int .i64 r_31) ∧ Bl w w' := by
  have H := h
  clear h
  unfold token_Prec.f at H
  have HM := Mem.refl w
  refine enter (n := 28) (args := [.int .i64 a0_1]) Try.func14 rfl rfl rfl ?_
  refine WC.seq ?_
  refine WC.region ?_
  refine WI.run tok 1 1 [(0, .int .i64 a0_1)] (by kernel_rfl) rfl ?_
  refine WI.done rfl ?_
  refine QF.next ?_
  refine WC.seq ?_
  refine WC.seq ?_
  refine WC.region ?_
  refine WI.run tok 1 1 [(3, .int .i64 a0_1)] (by kernel_rfl) rfl ?_
  refine WI.done rfl ?_
  refine QF.next ?_
  refine WC.block ?_
  refine WC.seq ?_
  refine WC.region ?_
  refine WI.run tok 2 2 [(3, .int .i64 a0_1), (4, .bool (a0_1 == 63))] (by kernel_rfl) rfl ?_
  refine WI.done rfl ?_
  refine QF.next ?_
  refine WC.cond rfl (fun hb_2 => ?_) (fun hb_2 => ?_)
  · replace H := cond_t hb_2 H
    refine WC.seq ?_
    refine WC.region ?_
    refine WI.run tok 1 1 [(2, .int .i64 1)] (by kernel_rfl) rfl ?_
    refine WI.done rfl ?_
    refine QF.next ?_
    refine WC.ret ?_
    refine QF.block_ret ?_
    refine QF.then_ret ?_
    have H0 : (1 : Int) = r_31 := Option.some.inj H
    clear H
    subst H0
    exact QF.ret [2] [.int .i64 1] rfl rfl (by kernel_rfl) ⟨rfl, HM.bl⟩
  · replace H := cond_f hb_2 H
    refine WC.seq ?_
    refine WC.region ?_
    refine WI.run tok 2 2 [(3, .int .i64 a0_1), (6, .bool (a0_1 == 62))] (by kernel_rfl) rfl ?_
    refine WI.done rfl ?_
    refine QF.next ?_
    refine WC.cond rfl (fun hb_3 => ?_) (fun hb_3 => ?_)
    · replace H := cond_t hb_3 H
      refine WC.seq ?_
      refine WC.region ?_
      refine WI.run tok 1 1 [(2, .int .i64 2)] (by kernel_rfl) rfl ?_
      refine WI.done rfl ?_
      refine QF.next ?_
      refine WC.ret ?_
      refine QF.block_ret ?_
      refine QF.then_ret ?_
      have H0 : (2 : Int) = r_31 := Option.some.inj H
      clear H
      subst H0
      exact QF.ret [2] [.int .i64 2] rfl rfl (by kernel_rfl) ⟨rfl, HM.bl⟩
    · replace H := cond_f hb_3 H
      refine WC.cut (fun fr' w' => ∃ (kq : Nat) (x8_4 : Bool), fr' = [(3, .int .i64 a0_1), (8, .bool x8_4)] ∧ token_Prec.j0 kq x8_4 a0_1 = some r_31 ∧ kq ≤ k ∧ Mem w w' []) ?_ ?_
      · refine WC.seq ?_
        refine WC.region ?_
        refine WI.run tok 2 2 [(3, .int .i64 a0_1), (8, .bool (a0_1 == 67))] (by kernel_rfl) rfl ?_
        refine WI.done rfl ?_
        refine QF.next ?_
        refine WC.cond rfl (fun hb_5 => ?_) (fun hb_5 => ?_)
        · replace H := cond_t hb_5 H
          refine WC.skip ?_
          exact QF.meet [(3, .int .i64 a0_1), (8, .bool (a0_1 == 67))] (by kernel_rfl) ⟨k, (a0_1 == 67), rfl, H, by omega, HM⟩
        · replace H := cond_f hb_5 H
          refine WC.seq ?_
          refine WC.region ?_
          refine WI.run tok 2 2 [(3, .int .i64 a0_1), (8, .bool (a0_1 == 73))] (by kernel_rfl) rfl ?_
          refine WI.done rfl ?_
          refine QF.next ?_
          refine WC.cond rfl (fun hb_6 => ?_) (fun hb_6 => ?_)
          · replace H := cond_t hb_6 H
            refine WC.skip ?_
            exact QF.meet [(3, .int .i64 a0_1), (8, .bool (a0_1 == 73))] (by kernel_rfl) ⟨k, (a0_1 == 73), rfl, H, by omega, HM⟩
          · replace H := cond_f hb_6 H
            refine WC.seq ?_
            refine WC.region ?_
            refine WI.run tok 2 2 [(3, .int .i64 a0_1), (8, .bool (a0_1 == 68))] (by kernel_rfl) rfl ?_
            refine WI.done rfl ?_
            refine QF.next ?_
            refine WC.cond rfl (fun hb_7 => ?_) (fun hb_7 => ?_)
            · replace H := cond_t hb_7 H
              refine WC.skip ?_
              exact QF.meet [(3, .int .i64 a0_1), (8, .bool (a0_1 == 68))] (by kernel_rfl) ⟨k, (a0_1 == 68), rfl, H, by omega, HM⟩
            · replace H := cond_f hb_7 H
              refine WC.seq ?_
              refine WC.region ?_
              refine WI.run tok 2 2 [(3, .int .i64 a0_1), (8, .bool (a0_1 == 74))] (by kernel_rfl) rfl ?_
              refine WI.done rfl ?_
              refine QF.next ?_
              refine WC.cond rfl (fun hb_8 => ?_) (fun hb_8 => ?_)
              · replace H := cond_t hb_8 H
                refine WC.skip ?_
                exact QF.meet [(3, .int .i64 a0_1), (8, .bool (a0_1 == 74))] (by kernel_rfl) ⟨k, (a0_1 == 74), rfl, H, by omega, HM⟩
              · replace H := cond_f hb_8 H
                refine WC.seq ?_
                refine WC.region ?_
                refine WI.run tok 2 2 [(3, .int .i64 a0_1), (8, .bool (a0_1 == 69))] (by kernel_rfl) rfl ?_
                refine WI.done rfl ?_
                refine QF.next ?_
                refine WC.cond rfl (fun hb_9 => ?_) (fun hb_9 => ?_)
                · replace H := cond_t hb_9 H
                  refine WC.skip ?_
                  exact QF.meet [(3, .int .i64 a0_1), (8, .bool (a0_1 == 69))] (by kernel_rfl) ⟨k, (a0_1 == 69), rfl, H, by omega, HM⟩
                · replace H := cond_f hb_9 H
                  refine WC.region ?_
                  refine WI.run tok 2 2 [(3, .int .i64 a0_1), (8, .bool (a0_1 == 75))] (by kernel_rfl) rfl ?_
                  refine WI.done rfl ?_
                  exact QF.meet [(3, .int .i64 a0_1), (8, .bool (a0_1 == 75))] (by kernel_rfl) ⟨k, (a0_1 == 75), rfl, H, by omega, HM⟩
      · clear H HM
        rintro _ w' ⟨k_10', x8_4, rfl, H, HKk_10, HM⟩
        cases k_10' with
        | zero => exact none_t H
        | succ k_10 =>
        replace H := (show token_Prec.j0 (_ + 1) _ _ = _ from rfl).symm.trans H
        refine WC.cond rfl (fun hb_11 => ?_) (fun hb_11 => ?_)
        · replace H := cond_t hb_11 H
          refine WC.seq ?_
          refine WC.region ?_
          refine WI.run tok 1 1 [(2, .int .i64 3)] (by kernel_rfl) rfl ?_
          refine WI.done rfl ?_
          refine QF.next ?_
          refine WC.ret ?_
          refine QF.block_ret ?_
          refine QF.then_ret ?_
          have H0 : (3 : Int) = r_31 := Option.some.inj H
          clear H
          subst H0
          exact QF.ret [2] [.int .i64 3] rfl rfl (by kernel_rfl) ⟨rfl, HM.bl⟩
        · replace H := cond_f hb_11 H
          refine WC.cut (fun fr' w' => ∃ (kq : Nat) (x15_12 : Bool), fr' = [(3, .int .i64 a0_1), (15, .bool x15_12)] ∧ token_Prec.j1 kq x15_12 a0_1 = some r_31 ∧ kq ≤ k_10 ∧ Mem w w' []) ?_ ?_
          · refine WC.seq ?_
            refine WC.region ?_
            refine WI.run tok 2 2 [(3, .int .i64 a0_1), (15, .bool (a0_1 == 40))] (by kernel_rfl) rfl ?_
            refine WI.done rfl ?_
            refine QF.next ?_
            refine WC.cond rfl (fun hb_13 => ?_) (fun hb_13 => ?_)
            · replace H := cond_t hb_13 H
              refine WC.skip ?_
              exact QF.meet [(3, .int .i64 a0_1), (15, .bool (a0_1 == 40))] (by kernel_rfl) ⟨k_10, (a0_1 == 40), rfl, H, by omega, HM⟩
            · replace H := cond_f hb_13 H
              refine WC.seq ?_
              refine WC.region ?_
              refine WI.run tok 2 2 [(3, .int .i64 a0_1), (15, .bool (a0_1 == 41))] (by kernel_rfl) rfl ?_
              refine WI.done rfl ?_
              refine QF.next ?_
              refine WC.cond rfl (fun hb_14 => ?_) (fun hb_14 => ?_)
              · replace H := cond_t hb_14 H
                refine WC.skip ?_
                exact QF.meet [(3, .int .i64 a0_1), (15, .bool (a0_1 == 41))] (by kernel_rfl) ⟨k_10, (a0_1 == 41), rfl, H, by omega, HM⟩
              · replace H := cond_f hb_14 H
                refine WC.seq ?_
                refine WC.region ?_
                refine WI.run tok 2 2 [(3, .int .i64 a0_1), (15, .bool (a0_1 == 46))] (by kernel_rfl) rfl ?_
                refine WI.done rfl ?_
                refine QF.next ?_
                refine WC.cond rfl (fun hb_15 => ?_) (fun hb_15 => ?_)
                · replace H := cond_t hb_15 H
                  refine WC.skip ?_
                  exact QF.meet [(3, .int .i64 a0_1), (15, .bool (a0_1 == 46))] (by kernel_rfl) ⟨k_10, (a0_1 == 46), rfl, H, by omega, HM⟩
                · replace H := cond_f hb_15 H
                  refine WC.region ?_
                  refine WI.run tok 2 2 [(3, .int .i64 a0_1), (15, .bool (a0_1 == 47))] (by kernel_rfl) rfl ?_
                  refine WI.done rfl ?_
                  exact QF.meet [(3, .int .i64 a0_1), (15, .bool (a0_1 == 47))] (by kernel_rfl) ⟨k_10, (a0_1 == 47), rfl, H, by omega, HM⟩
          · clear H HM
            rintro _ w' ⟨k_16', x15_12, rfl, H, HKk_16, HM⟩
            cases k_16' with
            | zero => exact none_t H
            | succ k_16 =>
            replace H := (show token_Prec.j1 (_ + 1) _ _ = _ from rfl).symm.trans H
            refine WC.cond rfl (fun hb_17 => ?_) (fun hb_17 => ?_)
            · replace H := cond_t hb_17 H
              refine WC.seq ?_
              refine WC.region ?_
              refine WI.run tok 1 1 [(2, .int .i64 4)] (by kernel_rfl) rfl ?_
              refine WI.done rfl ?_
              refine QF.next ?_
              refine WC.ret ?_
              refine QF.block_ret ?_
              refine QF.then_ret ?_
              have H0 : (4 : Int) = r_31 := Option.some.inj H
              clear H
              subst H0
              exact QF.ret [2] [.int .i64 4] rfl rfl (by kernel_rfl) ⟨rfl, HM.bl⟩
            · replace H := cond_f hb_17 H
              refine WC.seq ?_
              refine WC.seq ?_
              refine WC.region ?_
              refine WI.run tok 2 2 [(3, .int .i64 a0_1), (20, .bool (a0_1 == 42))] (by kernel_rfl) rfl ?_
              refine WI.done rfl ?_
              refine QF.next ?_
              refine WC.cond rfl (fun hb_18 => ?_) (fun hb_18 => ?_)
              · replace H := cond_t hb_18 H
                refine WC.skip ?_
                refine QF.next ?_
                refine WC.cond rfl (fun hb_19 => ?_) (fun hb_19 => ?_)
                · replace H := cond_t hb_19 H
                  refine WC.seq ?_
                  refine WC.region ?_
                  refine WI.run tok 1 1 [(2, .int .i64 5)] (by kernel_rfl) rfl ?_
                  refine WI.done rfl ?_
                  refine QF.next ?_
                  refine WC.ret ?_
                  refine QF.block_ret ?_
                  refine QF.then_ret ?_
                  have H0 : (5 : Int) = r_31 := Option.some.inj H
                  clear H
                  subst H0
                  exact QF.ret [2] [.int .i64 5] rfl rfl (by kernel_rfl) ⟨rfl, HM.bl⟩
                · replace H := cond_f hb_19 H
                  refine WC.skip ?_
                  refine QF.block_normal ?_
                  refine QF.next ?_
                  refine WC.seq ?_
                  refine WC.region ?_
                  refine WI.run tok 1 1 [(2, .int .i64 0)] (by kernel_rfl) rfl ?_
                  refine WI.done rfl ?_
                  refine QF.next ?_
                  refine WC.ret ?_
                  have H0 : (0 : Int) = r_31 := Option.some.inj H
                  clear H
                  subst H0
                  exact QF.ret [2] [.int .i64 0] rfl rfl (by kernel_rfl) ⟨rfl, HM.bl⟩
              · replace H := cond_f hb_18 H
                refine WC.seq ?_
                refine WC.region ?_
                refine WI.run tok 2 2 [(3, .int .i64 a0_1), (20, .bool (a0_1 == 43))] (by kernel_rfl) rfl ?_
                refine WI.done rfl ?_
                refine QF.next ?_
                refine WC.cond rfl (fun hb_20 => ?_) (fun hb_20 => ?_)
                · replace H := cond_t hb_20 H
                  refine WC.skip ?_
                  refine QF.next ?_
                  refine WC.cond rfl (fun hb_21 => ?_) (fun hb_21 => ?_)
                  · replace H := cond_t hb_21 H
                    refine WC.seq ?_
                    refine WC.region ?_
                    refine WI.run tok 1 1 [(2, .int .i64 5)] (by kernel_rfl) rfl ?_
                    refine WI.done rfl ?_
                    refine QF.next ?_
                    refine WC.ret ?_
                    refine QF.block_ret ?_
                    refine QF.then_ret ?_
                    have H0 : (5 : Int) = r_31 := Option.some.inj H
                    clear H
                    subst H0
                    exact QF.ret [2] [.int .i64 5] rfl rfl (by kernel_rfl) ⟨rfl, HM.bl⟩
                  · replace H := cond_f hb_21 H
                    refine WC.skip ?_
                    refine QF.block_normal ?_
                    refine QF.next ?_
                    refine WC.seq ?_
                    refine WC.region ?_
                    refine WI.run tok 1 1 [(2, .int .i64 0)] (by kernel_rfl) rfl ?_
                    refine WI.done rfl ?_
                    refine QF.next ?_
                    refine WC.ret ?_
                    have H0 : (0 : Int) = r_31 := Option.some.inj H
                    clear H
                    subst H0
                    exact QF.ret [2] [.int .i64 0] rfl rfl (by kernel_rfl) ⟨rfl, HM.bl⟩
                · replace H := cond_f hb_20 H
                  refine WC.seq ?_
                  refine WC.region ?_
                  refine WI.run tok 2 2 [(3, .int .i64 a0_1), (20, .bool (a0_1 == 44))] (by kernel_rfl) rfl ?_
                  refine WI.done rfl ?_
                  refine QF.next ?_
                  refine WC.cond rfl (fun hb_22 => ?_) (fun hb_22 => ?_)
                  · replace H := cond_t hb_22 H
                    refine WC.skip ?_
                    refine QF.next ?_
                    refine WC.cond rfl (fun hb_23 => ?_) (fun hb_23 => ?_)
                    · replace H := cond_t hb_23 H
                      refine WC.seq ?_
                      refine WC.region ?_
                      refine WI.run tok 1 1 [(2, .int .i64 5)] (by kernel_rfl) rfl ?_
                      refine WI.done rfl ?_
                      refine QF.next ?_
                      refine WC.ret ?_
                      refine QF.block_ret ?_
                      refine QF.then_ret ?_
                      have H0 : (5 : Int) = r_31 := Option.some.inj H
                      clear H
                      subst H0
                      exact QF.ret [2] [.int .i64 5] rfl rfl (by kernel_rfl) ⟨rfl, HM.bl⟩
                    · replace H := cond_f hb_23 H
                      refine WC.skip ?_
                      refine QF.block_normal ?_
                      refine QF.next ?_
                      refine WC.seq ?_
                      refine WC.region ?_
                      refine WI.run tok 1 1 [(2, .int .i64 0)] (by kernel_rfl) rfl ?_
                      refine WI.done rfl ?_
                      refine QF.next ?_
                      refine WC.ret ?_
                      have H0 : (0 : Int) = r_31 := Option.some.inj H
                      clear H
                      subst H0
                      exact QF.ret [2] [.int .i64 0] rfl rfl (by kernel_rfl) ⟨rfl, HM.bl⟩
                  · replace H := cond_f hb_22 H
                    refine WC.seq ?_
                    refine WC.region ?_
                    refine WI.run tok 2 2 [(3, .int .i64 a0_1), (20, .bool (a0_1 == 48))] (by kernel_rfl) rfl ?_
                    refine WI.done rfl ?_
                    refine QF.next ?_
                    refine WC.cond rfl (fun hb_24 => ?_) (fun hb_24 => ?_)
                    · replace H := cond_t hb_24 H
                      refine WC.skip ?_
                      refine QF.next ?_
                      refine WC.cond rfl (fun hb_25 => ?_) (fun hb_25 => ?_)
                      · replace H := cond_t hb_25 H
                        refine WC.seq ?_
                        refine WC.region ?_
                        refine WI.run tok 1 1 [(2, .int .i64 5)] (by kernel_rfl) rfl ?_
                        refine WI.done rfl ?_
                        refine QF.next ?_
                        refine WC.ret ?_
                        refine QF.block_ret ?_
                        refine QF.then_ret ?_
                        have H0 : (5 : Int) = r_31 := Option.some.inj H
                        clear H
                        subst H0
                        exact QF.ret [2] [.int .i64 5] rfl rfl (by kernel_rfl) ⟨rfl, HM.bl⟩
                      · replace H := cond_f hb_25 H
                        refine WC.skip ?_
                        refine QF.block_normal ?_
                        refine QF.next ?_
                        refine WC.seq ?_
                        refine WC.region ?_
                        refine WI.run tok 1 1 [(2, .int .i64 0)] (by kernel_rfl) rfl ?_
                        refine WI.done rfl ?_
                        refine QF.next ?_
                        refine WC.ret ?_
                        have H0 : (0 : Int) = r_31 := Option.some.inj H
                        clear H
                        subst H0
                        exact QF.ret [2] [.int .i64 0] rfl rfl (by kernel_rfl) ⟨rfl, HM.bl⟩
                    · replace H := cond_f hb_24 H
                      refine WC.seq ?_
                      refine WC.region ?_
                      refine WI.run tok 2 2 [(3, .int .i64 a0_1), (20, .bool (a0_1 == 49))] (by kernel_rfl) rfl ?_
                      refine WI.done rfl ?_
                      refine QF.next ?_
                      refine WC.cond rfl (fun hb_26 => ?_) (fun hb_26 => ?_)
                      · replace H := cond_t hb_26 H
                        refine WC.skip ?_
                        refine QF.next ?_
                        refine WC.cond rfl (fun hb_27 => ?_) (fun hb_27 => ?_)
                        · replace H := cond_t hb_27 H
                          refine WC.seq ?_
                          refine WC.region ?_
                          refine WI.run tok 1 1 [(2, .int .i64 5)] (by kernel_rfl) rfl ?_
                          refine WI.done rfl ?_
                          refine QF.next ?_
                          refine WC.ret ?_
                          refine QF.block_ret ?_
                          refine QF.then_ret ?_
                          have H0 : (5 : Int) = r_31 := Option.some.inj H
                          clear H
                          subst H0
                          exact QF.ret [2] [.int .i64 5] rfl rfl (by kernel_rfl) ⟨rfl, HM.bl⟩
                        · replace H := cond_f hb_27 H
                          refine WC.skip ?_
                          refine QF.block_normal ?_
                          refine QF.next ?_
                          refine WC.seq ?_
                          refine WC.region ?_
                          refine WI.run tok 1 1 [(2, .int .i64 0)] (by kernel_rfl) rfl ?_
                          refine WI.done rfl ?_
                          refine QF.next ?_
                          refine WC.ret ?_
                          have H0 : (0 : Int) = r_31 := Option.some.inj H
                          clear H
                          subst H0
                          exact QF.ret [2] [.int .i64 0] rfl rfl (by kernel_rfl) ⟨rfl, HM.bl⟩
                      · replace H := cond_f hb_26 H
                        refine WC.seq ?_
                        refine WC.region ?_
                        refine WI.run tok 2 2 [(3, .int .i64 a0_1), (20, .bool (a0_1 == 45))] (by kernel_rfl) rfl ?_
                        refine WI.done rfl ?_
                        refine QF.next ?_
                        refine WC.cond rfl (fun hb_28 => ?_) (fun hb_28 => ?_)
                        · replace H := cond_t hb_28 H
                          refine WC.skip ?_
                          refine QF.next ?_
                          refine WC.cond rfl (fun hb_29 => ?_) (fun hb_29 => ?_)
                          · replace H := cond_t hb_29 H
                            refine WC.seq ?_
                            refine WC.region ?_
                            refine WI.run tok 1 1 [(2, .int .i64 5)] (by kernel_rfl) rfl ?_
                            refine WI.done rfl ?_
                            refine QF.next ?_
                            refine WC.ret ?_
                            refine QF.block_ret ?_
                            refine QF.then_ret ?_
                            have H0 : (5 : Int) = r_31 := Option.some.inj H
                            clear H
                            subst H0
                            exact QF.ret [2] [.int .i64 5] rfl rfl (by kernel_rfl) ⟨rfl, HM.bl⟩
                          · replace H := cond_f hb_29 H
                            refine WC.skip ?_
                            refine QF.block_normal ?_
                            refine QF.next ?_
                            refine WC.seq ?_
                            refine WC.region ?_
                            refine WI.run tok 1 1 [(2, .int .i64 0)] (by kernel_rfl) rfl ?_
                            refine WI.done rfl ?_
                            refine QF.next ?_
                            refine WC.ret ?_
                            have H0 : (0 : Int) = r_31 := Option.some.inj H
                            clear H
                            subst H0
                            exact QF.ret [2] [.int .i64 0] rfl rfl (by kernel_rfl) ⟨rfl, HM.bl⟩
                        · replace H := cond_f hb_28 H
                          refine WC.region ?_
                          refine WI.run tok 2 2 [(20, .bool (a0_1 == 50))] (by kernel_rfl) rfl ?_
                          refine WI.done rfl ?_
                          refine QF.next ?_
                          refine WC.cond rfl (fun hb_30 => ?_) (fun hb_30 => ?_)
                          · replace H := cond_t hb_30 H
                            refine WC.seq ?_
                            refine WC.region ?_
                            refine WI.run tok 1 1 [(2, .int .i64 5)] (by kernel_rfl) rfl ?_
                            refine WI.done rfl ?_
                            refine QF.next ?_
                            refine WC.ret ?_
                            refine QF.block_ret ?_
                            refine QF.then_ret ?_
                            have H0 : (5 : Int) = r_31 := Option.some.inj H
                            clear H
                            subst H0
                            exact QF.ret [2] [.int .i64 5] rfl rfl (by kernel_rfl) ⟨rfl, HM.bl⟩
                          · replace H := cond_f hb_30 H
                            refine WC.skip ?_
                            refine QF.block_normal ?_
                            refine QF.next ?_
                            refine WC.seq ?_
                            refine WC.region ?_
                            refine WI.run tok 1 1 [(2, .int .i64 0)] (by kernel_rfl) rfl ?_
                            refine WI.done rfl ?_
                            refine QF.next ?_
                            refine WC.ret ?_
                            have H0 : (0 : Int) = r_31 := Option.some.inj H
                            clear H
                            subst H0
                            exact QF.ret [2] [.int .i64 0] rfl rfl (by kernel_rfl) ⟨rfl, HM.bl⟩
/-! cavil/token.Base -/
def token_Base.f (k : Nat) (a0_1 : Int) : Option (Int) := bif (decide (a0_1 ≥ 51)) && (decide (a0_1 ≤ 61)) then (some (wr .i64 ((wr .i64 (a0_1 - 51)) + 40))) else (bif a0_1 == 65 then (some 40) else (bif a0_1 == 66 then (some 41) else (some 0)))
set_option maxRecDepth 100000 in
theorem token_Base.calls (k : Nat) (a0_1 : Int) (r_5 : Int) (w : World) (h : token_Base.f k a0_1 = some r_5) : Calls Try.prog 18 #[.int .i64 a0_1] w fun e w' => e = .returned (.int .i64 r_5) ∧ Bl w w' := by
  have H := h
  clear h
  unfold token_Base.f at H
  have HM := Mem.refl w
  refine enter (n := 19) (args := [.int .i64 a0_1]) Try.func18 rfl rfl rfl ?_
  refine WC.seq ?_
  refine WC.region ?_
  refine WI.run tok 1 1 [(0, .int .i64 a0_1)] (by kernel_rfl) rfl ?_
  refine WI.done rfl ?_
  refine QF.next ?_
  refine WC.seq ?_
  refine WC.block ?_
  refine WC.seq ?_
  refine WC.region ?_
  refine WI.run tok 3 3 [(0, .int .i64 a0_1), (6, .bool (decide (a0_1 ≥ 51)))] (by kernel_rfl) rfl ?_
  refine WI.runAnd tok 6 _ rfl 3 6 9 (decide (a0_1 ≤ 61)) [(0, .int .i64 a0_1)] (by kernel_rfl) (by kernel_rfl) rfl ?_
  refine WI.run tok 1 7 [(0, .int .i64 a0_1), (3, .bool ((decide (a0_1 ≥ 51)) && (decide (a0_1 ≤ 61))))] (by kernel_rfl) rfl ?_
  refine WI.done rfl ?_
  refine QF.next ?_
  refine WC.cond rfl (fun hb_2 => ?_) (fun hb_2 => ?_)
  · replace H := cond_t hb_2 H
    refine WC.seq ?_
    refine WC.region ?_
    refine WI.run tok 4 4 [(2, .int .i64 (wr .i64 ((wr .i64 (a0_1 - 51)) + 40)))] (by kernel_rfl) rfl ?_
    refine WI.done rfl ?_
    refine QF.next ?_
    refine WC.ret ?_
    refine QF.block_ret ?_
    refine QF.then_ret ?_
    have H0 : (wr .i64 ((wr .i64 (a0_1 - 51)) + 40) : Int) = r_5 := Option.some.inj H
    clear H
    subst H0
    exact QF.ret [2] [.int .i64 (wr .i64 ((wr .i64 (a0_1 - 51)) + 40))] rfl rfl (by kernel_rfl) ⟨rfl, HM.bl⟩
  · replace H := cond_f hb_2 H
    refine WC.seq ?_
    refine WC.region ?_
    refine WI.run tok 3 3 [(0, .int .i64 a0_1), (13, .bool (a0_1 == 65))] (by kernel_rfl) rfl ?_
    refine WI.done rfl ?_
    refine QF.next ?_
    refine WC.cond rfl (fun hb_3 => ?_) (fun hb_3 => ?_)
    · replace H := cond_t hb_3 H
      refine WC.seq ?_
      refine WC.region ?_
      refine WI.run tok 1 1 [(2, .int .i64 40)] (by kernel_rfl) rfl ?_
      refine WI.done rfl ?_
      refine QF.next ?_
      refine WC.ret ?_
      refine QF.block_ret ?_
      refine QF.then_ret ?_
      have H0 : (40 : Int) = r_5 := Option.some.inj H
      clear H
      subst H0
      exact QF.ret [2] [.int .i64 40] rfl rfl (by kernel_rfl) ⟨rfl, HM.bl⟩
    · replace H := cond_f hb_3 H
      refine WC.seq ?_
      refine WC.region ?_
      refine WI.run tok 3 3 [(16, .bool (a0_1 == 66))] (by kernel_rfl) rfl ?_
      refine WI.done rfl ?_
      refine QF.next ?_
      refine WC.cond rfl (fun hb_4 => ?_) (fun hb_4 => ?_)
      · replace H := cond_t hb_4 H
        refine WC.seq ?_
        refine WC.region ?_
        refine WI.run tok 1 1 [(2, .int .i64 41)] (by kernel_rfl) rfl ?_
        refine WI.done rfl ?_
        refine QF.next ?_
        refine WC.ret ?_
        refine QF.block_ret ?_
        refine QF.then_ret ?_
        have H0 : (41 : Int) = r_5 := Option.some.inj H
        clear H
        subst H0
        exact QF.ret [2] [.int .i64 41] rfl rfl (by kernel_rfl) ⟨rfl, HM.bl⟩
      · replace H := cond_f hb_4 H
        refine WC.skip ?_
        refine QF.block_normal ?_
        refine QF.next ?_
        refine WC.seq ?_
        refine WC.region ?_
        refine WI.run tok 1 1 [(2, .int .i64 0)] (by kernel_rfl) rfl ?_
        refine WI.done rfl ?_
        refine QF.next ?_
        refine WC.ret ?_
        have H0 : (0 : Int) = r_5 := Option.some.inj H
        clear H
        subst H0
        exact QF.ret [2] [.int .i64 0] rfl rfl (by kernel_rfl) ⟨rfl, HM.bl⟩
/-! cavil/token.Unary -/
def token_Unary.f (k : Nat) (a0_1 : Int) : Option (Bool) := bif a0_1 == 40 then (bif a0_1 == 40 then (some true) else (some false)) else (bif a0_1 == 41 then (bif a0_1 == 41 then (some true) else (some false)) else (bif a0_1 == 71 then (bif a0_1 == 71 then (some true) else (some false)) else (bif a0_1 == 47 then (bif a0_1 == 47 then (some true) else (some false)) else (bif a0_1 == 42 then (bif a0_1 == 42 then (some true) else (some false)) else (bif a0_1 == 45 then (bif a0_1 == 45 then (some true) else (some false)) else (bif a0_1 == 64 then (some true) else (some false)))))))
set_option maxRecDepth 100000 in
theorem token_Unary.calls (k : Nat) (a0_1 : Int) (r_15 : Bool) (w : World) (h : token_Unary.f k a0_1 = some r_15) : Calls Try.prog 16 #[.int .i64 a0_1] w fun e w' => e = .returned (.bool r_15) ∧ Bl w w' := by
  have H := h
  clear h
  unfold token_Unary.f at H
  have HM := Mem.refl w
  refine enter (n := 12) (args := [.int .i64 a0_1]) Try.func16 rfl rfl rfl ?_
  refine WC.seq ?_
  refine WC.region ?_
  refine WI.run tok 1 1 [(0, .int .i64 a0_1)] (by kernel_rfl) rfl ?_
  refine WI.done rfl ?_
  refine QF.next ?_
  refine WC.seq ?_
  refine WC.seq ?_
  refine WC.region ?_
  refine WI.run tok 1 1 [(3, .int .i64 a0_1)] (by kernel_rfl) rfl ?_
  refine WI.done rfl ?_
  refine QF.next ?_
  refine WC.block ?_
  refine WC.seq ?_
  refine WC.seq ?_
  refine WC.region ?_
  refine WI.run tok 2 2 [(3, .int .i64 a0_1), (4, .bool (a0_1 == 40))] (by kernel_rfl) rfl ?_
  refine WI.done rfl ?_
  refine QF.next ?_
  refine WC.cond rfl (fun hb_2 => ?_) (fun hb_2 => ?_)
  · replace H := cond_t hb_2 H
    refine WC.skip ?_
    refine QF.next ?_
    refine WC.cond rfl (fun hb_3 => ?_) (fun hb_3 => ?_)
    · replace H := cond_t hb_3 H
      refine WC.seq ?_
      refine WC.region ?_
      refine WI.run tok 1 1 [(2, .bool true)] (by kernel_rfl) rfl ?_
      refine WI.done rfl ?_
      refine QF.next ?_
      refine WC.ret ?_
      refine QF.block_ret ?_
      refine QF.then_ret ?_
      have H0 : (true : Bool) = r_15 := Option.some.inj H
      clear H
      subst H0
      exact QF.ret [2] [.bool true] rfl rfl (by kernel_rfl) ⟨rfl, HM.bl⟩
    · replace H := cond_f hb_3 H
      refine WC.skip ?_
      refine QF.block_normal ?_
      refine QF.next ?_
      refine WC.seq ?_
      refine WC.region ?_
      refine WI.run tok 1 1 [(2, .bool false)] (by kernel_rfl) rfl ?_
      refine WI.done rfl ?_
      refine QF.next ?_
      refine WC.ret ?_
      have H0 : (false : Bool) = r_15 := Option.some.inj H
      clear H
      subst H0
      exact QF.ret [2] [.bool false] rfl rfl (by kernel_rfl) ⟨rfl, HM.bl⟩
  · replace H := cond_f hb_2 H
    refine WC.seq ?_
    refine WC.region ?_
    refine WI.run tok 2 2 [(3, .int .i64 a0_1), (4, .bool (a0_1 == 41))] (by kernel_rfl) rfl ?_
    refine WI.done rfl ?_
    refine QF.next ?_
    refine WC.cond rfl (fun hb_4 => ?_) (fun hb_4 => ?_)
    · replace H := cond_t hb_4 H
      refine WC.skip ?_
      refine QF.next ?_
      refine WC.cond rfl (fun hb_5 => ?_) (fun hb_5 => ?_)
      · replace H := cond_t hb_5 H
        refine WC.seq ?_
        refine WC.region ?_
        refine WI.run tok 1 1 [(2, .bool true)] (by kernel_rfl) rfl ?_
        refine WI.done rfl ?_
        refine QF.next ?_
        refine WC.ret ?_
        refine QF.block_ret ?_
        refine QF.then_ret ?_
        have H0 : (true : Bool) = r_15 := Option.some.inj H
        clear H
        subst H0
        exact QF.ret [2] [.bool true] rfl rfl (by kernel_rfl) ⟨rfl, HM.bl⟩
      · replace H := cond_f hb_5 H
        refine WC.skip ?_
        refine QF.block_normal ?_
        refine QF.next ?_
        refine WC.seq ?_
        refine WC.region ?_
        refine WI.run tok 1 1 [(2, .bool false)] (by kernel_rfl) rfl ?_
        refine WI.done rfl ?_
        refine QF.next ?_
        refine WC.ret ?_
        have H0 : (false : Bool) = r_15 := Option.some.inj H
        clear H
        subst H0
        exact QF.ret [2] [.bool false] rfl rfl (by kernel_rfl) ⟨rfl, HM.bl⟩
    · replace H := cond_f hb_4 H
      refine WC.seq ?_
      refine WC.region ?_
      refine WI.run tok 2 2 [(3, .int .i64 a0_1), (4, .bool (a0_1 == 71))] (by kernel_rfl) rfl ?_
      refine WI.done rfl ?_
      refine QF.next ?_
      refine WC.cond rfl (fun hb_6 => ?_) (fun hb_6 => ?_)
      · replace H := cond_t hb_6 H
        refine WC.skip ?_
        refine QF.next ?_
        refine WC.cond rfl (fun hb_7 => ?_) (fun hb_7 => ?_)
        · replace H := cond_t hb_7 H
          refine WC.seq ?_
          refine WC.region ?_
          refine WI.run tok 1 1 [(2, .bool true)] (by kernel_rfl) rfl ?_
          refine WI.done rfl ?_
          refine QF.next ?_
          refine WC.ret ?_
          refine QF.block_ret ?_
          refine QF.then_ret ?_
          have H0 : (true : Bool) = r_15 := Option.some.inj H
          clear H
          subst H0
          exact QF.ret [2] [.bool true] rfl rfl (by kernel_rfl) ⟨rfl, HM.bl⟩
        · replace H := cond_f hb_7 H
          refine WC.skip ?_
          refine QF.block_normal ?_
          refine QF.next ?_
          refine WC.seq ?_
          refine WC.region ?_
          refine WI.run tok 1 1 [(2, .bool false)] (by kernel_rfl) rfl ?_
          refine WI.done rfl ?_
          refine QF.next ?_
          refine WC.ret ?_
          have H0 : (false : Bool) = r_15 := Option.some.inj H
          clear H
          subst H0
          exact QF.ret [2] [.bool false] rfl rfl (by kernel_rfl) ⟨rfl, HM.bl⟩
      · replace H := cond_f hb_6 H
        refine WC.seq ?_
        refine WC.region ?_
        refine WI.run tok 2 2 [(3, .int .i64 a0_1), (4, .bool (a0_1 == 47))] (by kernel_rfl) rfl ?_
        refine WI.done rfl ?_
        refine QF.next ?_
        refine WC.cond rfl (fun hb_8 => ?_) (fun hb_8 => ?_)
        · replace H := cond_t hb_8 H
          refine WC.skip ?_
          refine QF.next ?_
          refine WC.cond rfl (fun hb_9 => ?_) (fun hb_9 => ?_)
          · replace H := cond_t hb_9 H
            refine WC.seq ?_
            refine WC.region ?_
            refine WI.run tok 1 1 [(2, .bool true)] (by kernel_rfl) rfl ?_
            refine WI.done rfl ?_
            refine QF.next ?_
            refine WC.ret ?_
            refine QF.block_ret ?_
            refine QF.then_ret ?_
            have H0 : (true : Bool) = r_15 := Option.some.inj H
            clear H
            subst H0
            exact QF.ret [2] [.bool true] rfl rfl (by kernel_rfl) ⟨rfl, HM.bl⟩
          · replace H := cond_f hb_9 H
            refine WC.skip ?_
            refine QF.block_normal ?_
            refine QF.next ?_
            refine WC.seq ?_
            refine WC.region ?_
            refine WI.run tok 1 1 [(2, .bool false)] (by kernel_rfl) rfl ?_
            refine WI.done rfl ?_
            refine QF.next ?_
            refine WC.ret ?_
            have H0 : (false : Bool) = r_15 := Option.some.inj H
            clear H
            subst H0
            exact QF.ret [2] [.bool false] rfl rfl (by kernel_rfl) ⟨rfl, HM.bl⟩
        · replace H := cond_f hb_8 H
          refine WC.seq ?_
          refine WC.region ?_
          refine WI.run tok 2 2 [(3, .int .i64 a0_1), (4, .bool (a0_1 == 42))] (by kernel_rfl) rfl ?_
          refine WI.done rfl ?_
          refine QF.next ?_
          refine WC.cond rfl (fun hb_10 => ?_) (fun hb_10 => ?_)
          · replace H := cond_t hb_10 H
            refine WC.skip ?_
            refine QF.next ?_
            refine WC.cond rfl (fun hb_11 => ?_) (fun hb_11 => ?_)
            · replace H := cond_t hb_11 H
              refine WC.seq ?_
              refine WC.region ?_
              refine WI.run tok 1 1 [(2, .bool true)] (by kernel_rfl) rfl ?_
              refine WI.done rfl ?_
              refine QF.next ?_
              refine WC.ret ?_
              refine QF.block_ret ?_
              refine QF.then_ret ?_
              have H0 : (true : Bool) = r_15 := Option.some.inj H
              clear H
              subst H0
              exact QF.ret [2] [.bool true] rfl rfl (by kernel_rfl) ⟨rfl, HM.bl⟩
            · replace H := cond_f hb_11 H
              refine WC.skip ?_
              refine QF.block_normal ?_
              refine QF.next ?_
              refine WC.seq ?_
              refine WC.region ?_
              refine WI.run tok 1 1 [(2, .bool false)] (by kernel_rfl) rfl ?_
              refine WI.done rfl ?_
              refine QF.next ?_
              refine WC.ret ?_
              have H0 : (false : Bool) = r_15 := Option.some.inj H
              clear H
              subst H0
              exact QF.ret [2] [.bool false] rfl rfl (by kernel_rfl) ⟨rfl, HM.bl⟩
          · replace H := cond_f hb_10 H
            refine WC.seq ?_
            refine WC.region ?_
            refine WI.run tok 2 2 [(3, .int .i64 a0_1), (4, .bool (a0_1 == 45))] (by kernel_rfl) rfl ?_
            refine WI.done rfl ?_
            refine QF.next ?_
            refine WC.cond rfl (fun hb_12 => ?_) (fun hb_12 => ?_)
            · replace H := cond_t hb_12 H
              refine WC.skip ?_
              refine QF.next ?_
              refine WC.cond rfl (fun hb_13 => ?_) (fun hb_13 => ?_)
              · replace H := cond_t hb_13 H
                refine WC.seq ?_
                refine WC.region ?_
                refine WI.run tok 1 1 [(2, .bool true)] (by kernel_rfl) rfl ?_
                refine WI.done rfl ?_
                refine QF.next ?_
                refine WC.ret ?_
                refine QF.block_ret ?_
                refine QF.then_ret ?_
                have H0 : (true : Bool) = r_15 := Option.some.inj H
                clear H
                subst H0
                exact QF.ret [2] [.bool true] rfl rfl (by kernel_rfl) ⟨rfl, HM.bl⟩
              · replace H := cond_f hb_13 H
                refine WC.skip ?_
                refine QF.block_normal ?_
                refine QF.next ?_
                refine WC.seq ?_
                refine WC.region ?_
                refine WI.run tok 1 1 [(2, .bool false)] (by kernel_rfl) rfl ?_
                refine WI.done rfl ?_
                refine QF.next ?_
                refine WC.ret ?_
                have H0 : (false : Bool) = r_15 := Option.some.inj H
                clear H
                subst H0
                exact QF.ret [2] [.bool false] rfl rfl (by kernel_rfl) ⟨rfl, HM.bl⟩
            · replace H := cond_f hb_12 H
              refine WC.region ?_
              refine WI.run tok 2 2 [(4, .bool (a0_1 == 64))] (by kernel_rfl) rfl ?_
              refine WI.done rfl ?_
              refine QF.next ?_
              refine WC.cond rfl (fun hb_14 => ?_) (fun hb_14 => ?_)
              · replace H := cond_t hb_14 H
                refine WC.seq ?_
                refine WC.region ?_
                refine WI.run tok 1 1 [(2, .bool true)] (by kernel_rfl) rfl ?_
                refine WI.done rfl ?_
                refine QF.next ?_
                refine WC.ret ?_
                refine QF.block_ret ?_
                refine QF.then_ret ?_
                have H0 : (true : Bool) = r_15 := Option.some.inj H
                clear H
                subst H0
                exact QF.ret [2] [.bool true] rfl rfl (by kernel_rfl) ⟨rfl, HM.bl⟩
              · replace H := cond_f hb_14 H
                refine WC.skip ?_
                refine QF.block_normal ?_
                refine QF.next ?_
                refine WC.seq ?_
                refine WC.region ?_
                refine WI.run tok 1 1 [(2, .bool false)] (by kernel_rfl) rfl ?_
                refine WI.done rfl ?_
                refine QF.next ?_
                refine WC.ret ?_
                have H0 : (false : Bool) = r_15 := Option.some.inj H
                clear H
                subst H0
                exact QF.ret [2] [.bool false] rfl rfl (by kernel_rfl) ⟨rfl, HM.bl⟩
/-! cavil/token.Ends -/
mutual
def token_Ends.j0 : Nat → Int → Option (Bool)
  | 0, _ => none
  | k + 1, a0_1 => bif a0_1 == 10 then (bif a0_1 == 10 then (some true) else (token_Ends.j1 k a0_1)) else (bif a0_1 == 14 then (bif a0_1 == 14 then (some true) else (token_Ends.j1 k a0_1)) else (bif a0_1 == 18 then (bif a0_1 == 18 then (some true) else (token_Ends.j1 k a0_1)) else (bif a0_1 == 29 then (some true) else (token_Ends.j1 k a0_1))))
def token_Ends.j1 : Nat → Int → Option (Bool)
  | 0, _ => none
  | k + 1, a0_1 => bif a0_1 == 65 then (bif a0_1 == 65 then (some true) else (some false)) else (bif a0_1 == 66 then (bif a0_1 == 66 then (some true) else (some false)) else (bif a0_1 == 83 then (bif a0_1 == 83 then (some true) else (some false)) else (bif a0_1 == 84 then (bif a0_1 == 84 then (some true) else (some false)) else (bif a0_1 == 85 then (some true) else (some false)))))
end
def token_Ends.f (k : Nat) (a0_1 : Int) : Option (Bool) := bif a0_1 == 1 then (bif a0_1 == 1 then (some true) else (token_Ends.j0 k a0_1)) else (bif a0_1 == 2 then (bif a0_1 == 2 then (some true) else (token_Ends.j0 k a0_1)) else (bif a0_1 == 3 then (bif a0_1 == 3 then (some true) else (token_Ends.j0 k a0_1)) else (bif a0_1 == 4 then (bif a0_1 == 4 then (some true) else (token_Ends.j0 k a0_1)) else (bif a0_1 == 5 then (some true) else (token_Ends.j0 k a0_1)))))
set_option maxRecDepth 100000 in
theorem token_Ends.calls (k : Nat) (a0_1 : Int) (r_29 : Bool) (w : World) (h : token_Ends.f k a0_1 = some r_29) : Calls Try.prog 20 #[.int .i64 a0_1] w fun e w' => e = .returned (.bool r_29) ∧ Bl w w' := by
  have H := h
  clear h
  unfold token_Ends.f at H
  have HM := Mem.refl w
  refine enter (n := 21) (args := [.int .i64 a0_1]) Try.func20 rfl rfl rfl ?_
  refine WC.seq ?_
  refine WC.region ?_
  refine WI.run tok 1 1 [(0, .int .i64 a0_1)] (by kernel_rfl) rfl ?_
  refine WI.done rfl ?_
  refine QF.next ?_
  refine WC.seq ?_
  refine WC.seq ?_
  refine WC.region ?_
  refine WI.run tok 1 1 [(3, .int .i64 a0_1)] (by kernel_rfl) rfl ?_
  refine WI.done rfl ?_
  refine QF.next ?_
  refine WC.block ?_
  refine WC.seq ?_
  refine WC.block ?_
  refine WC.block ?_
  refine WC.block ?_
  refine WC.seq ?_
  refine WC.cut (fun fr' w' => ∃ (kq : Nat), fr' = [(3, .int .i64 a0_1)] ∧ token_Ends.j0 kq a0_1 = some r_29 ∧ kq ≤ k ∧ Mem w w' []) ?_ ?_
  · refine WC.seq ?_
    refine WC.seq ?_
    refine WC.region ?_
    refine WI.run tok 2 2 [(3, .int .i64 a0_1), (4, .bool (a0_1 == 1))] (by kernel_rfl) rfl ?_
    refine WI.done rfl ?_
    refine QF.next ?_
    refine WC.cond rfl (fun hb_2 => ?_) (fun hb_2 => ?_)
    · replace H := cond_t hb_2 H
      refine WC.skip ?_
      refine QF.next ?_
      refine WC.cond rfl (fun hb_3 => ?_) (fun hb_3 => ?_)
      · replace H := cond_t hb_3 H
        refine WC.exit ?_
        refine QF.then_exit ?_
        refine QF.then_exit ?_
        refine QF.block_here ?_
        refine QF.block_normal ?_
        refine QF.block_normal ?_
        refine QF.next ?_
        refine WC.seq ?_
        refine WC.seq ?_
        refine WC.region ?_
        refine WI.run tok 1 1 [(2, .bool true)] (by kernel_rfl) rfl ?_
        refine WI.done rfl ?_
        refine QF.next ?_
        refine WC.ret ?_
        refine QF.then_ret ?_
        refine QF.block_ret ?_
        refine QF.then_ret ?_
        have H0 : (true : Bool) = r_29 := Option.some.inj H
        clear H
        subst H0
        exact QF.ret [2] [.bool true] rfl rfl (by kernel_rfl) ⟨rfl, HM.bl⟩
      · replace H := cond_f hb_3 H
        refine WC.skip ?_
        exact QF.meet [(3, .int .i64 a0_1)] (by kernel_rfl) ⟨k, rfl, H, by omega, HM⟩
    · replace H := cond_f hb_2 H
      refine WC.seq ?_
      refine WC.region ?_
      refine WI.run tok 2 2 [(3, .int .i64 a0_1), (4, .bool (a0_1 == 2))] (by kernel_rfl) rfl ?_
      refine WI.done rfl ?_
      refine QF.next ?_
      refine WC.cond rfl (fun hb_4 => ?_) (fun hb_4 => ?_)
      · replace H := cond_t hb_4 H
        refine WC.skip ?_
        refine QF.next ?_
        refine WC.cond rfl (fun hb_5 => ?_) (fun hb_5 => ?_)
        · replace H := cond_t hb_5 H
          refine WC.exit ?_
          refine QF.then_exit ?_
          refine QF.then_exit ?_
          refine QF.block_here ?_
          refine QF.block_normal ?_
          refine QF.block_normal ?_
          refine QF.next ?_
          refine WC.seq ?_
          refine WC.seq ?_
          refine WC.region ?_
          refine WI.run tok 1 1 [(2, .bool true)] (by kernel_rfl) rfl ?_
          refine WI.done rfl ?_
          refine QF.next ?_
          refine WC.ret ?_
          refine QF.then_ret ?_
          refine QF.block_ret ?_
          refine QF.then_ret ?_
          have H0 : (true : Bool) = r_29 := Option.some.inj H
          clear H
          subst H0
          exact QF.ret [2] [.bool true] rfl rfl (by kernel_rfl) ⟨rfl, HM.bl⟩
        · replace H := cond_f hb_5 H
          refine WC.skip ?_
          exact QF.meet [(3, .int .i64 a0_1)] (by kernel_rfl) ⟨k, rfl, H, by omega, HM⟩
      · replace H := cond_f hb_4 H
        refine WC.seq ?_
        refine WC.region ?_
        refine WI.run tok 2 2 [(3, .int .i64 a0_1), (4, .bool (a0_1 == 3))] (by kernel_rfl) rfl ?_
        refine WI.done rfl ?_
        refine QF.next ?_
        refine WC.cond rfl (fun hb_6 => ?_) (fun hb_6 => ?_)
        · replace H := cond_t hb_6 H
          refine WC.skip ?_
          refine QF.next ?_
          refine WC.cond rfl (fun hb_7 => ?_) (fun hb_7 => ?_)
          · replace H := cond_t hb_7 H
            refine WC.exit ?_
            refine QF.then_exit ?_
            refine QF.then_exit ?_
            refine QF.block_here ?_
            refine QF.block_normal ?_
            refine QF.block_normal ?_
            refine QF.next ?_
            refine WC.seq ?_
            refine WC.seq ?_
            refine WC.region ?_
            refine WI.run tok 1 1 [(2, .bool true)] (by kernel_rfl) rfl ?_
            refine WI.done rfl ?_
            refine QF.next ?_
            refine WC.ret ?_
            refine QF.then_ret ?_
            refine QF.block_ret ?_
            refine QF.then_ret ?_
            have H0 : (true : Bool) = r_29 := Option.some.inj H
            clear H
            subst H0
            exact QF.ret [2] [.bool true] rfl rfl (by kernel_rfl) ⟨rfl, HM.bl⟩
          · replace H := cond_f hb_7 H
            refine WC.skip ?_
            exact QF.meet [(3, .int .i64 a0_1)] (by kernel_rfl) ⟨k, rfl, H, by omega, HM⟩
        · replace H := cond_f hb_6 H
          refine WC.seq ?_
          refine WC.region ?_
          refine WI.run tok 2 2 [(3, .int .i64 a0_1), (4, .bool (a0_1 == 4))] (by kernel_rfl) rfl ?_
          refine WI.done rfl ?_
          refine QF.next ?_
          refine WC.cond rfl (fun hb_8 => ?_) (fun hb_8 => ?_)
          · replace H := cond_t hb_8 H
            refine WC.skip ?_
            refine QF.next ?_
            refine WC.cond rfl (fun hb_9 => ?_) (fun hb_9 => ?_)
            · replace H := cond_t hb_9 H
              refine WC.exit ?_
              refine QF.then_exit ?_
              refine QF.then_exit ?_
              refine QF.block_here ?_
              refine QF.block_normal ?_
              refine QF.block_normal ?_
              refine QF.next ?_
              refine WC.seq ?_
              refine WC.seq ?_
              refine WC.region ?_
              refine WI.run tok 1 1 [(2, .bool true)] (by kernel_rfl) rfl ?_
              refine WI.done rfl ?_
              refine QF.next ?_
              refine WC.ret ?_
              refine QF.then_ret ?_
              refine QF.block_ret ?_
              refine QF.then_ret ?_
              have H0 : (true : Bool) = r_29 := Option.some.inj H
              clear H
              subst H0
              exact QF.ret [2] [.bool true] rfl rfl (by kernel_rfl) ⟨rfl, HM.bl⟩
            · replace H := cond_f hb_9 H
              refine WC.skip ?_
              exact QF.meet [(3, .int .i64 a0_1)] (by kernel_rfl) ⟨k, rfl, H, by omega, HM⟩
          · replace H := cond_f hb_8 H
            refine WC.region ?_
            refine WI.run tok 2 2 [(3, .int .i64 a0_1), (4, .bool (a0_1 == 5))] (by kernel_rfl) rfl ?_
            refine WI.done rfl ?_
            refine QF.next ?_
            refine WC.cond rfl (fun hb_10 => ?_) (fun hb_10 => ?_)
            · replace H := cond_t hb_10 H
              refine WC.exit ?_
              refine QF.then_exit ?_
              refine QF.then_exit ?_
              refine QF.block_here ?_
              refine QF.block_normal ?_
              refine QF.block_normal ?_
              refine QF.next ?_
              refine WC.seq ?_
              refine WC.seq ?_
              refine WC.region ?_
              refine WI.run tok 1 1 [(2, .bool true)] (by kernel_rfl) rfl ?_
              refine WI.done rfl ?_
              refine QF.next ?_
              refine WC.ret ?_
              refine QF.then_ret ?_
              refine QF.block_ret ?_
              refine QF.then_ret ?_
              have H0 : (true : Bool) = r_29 := Option.some.inj H
              clear H
              subst H0
              exact QF.ret [2] [.bool true] rfl rfl (by kernel_rfl) ⟨rfl, HM.bl⟩
            · replace H := cond_f hb_10 H
              refine WC.skip ?_
              exact QF.meet [(3, .int .i64 a0_1)] (by kernel_rfl) ⟨k, rfl, H, by omega, HM⟩
  · clear H HM
    rintro _ w' ⟨k_11', rfl, H, HKk_11, HM⟩
    cases k_11' with
    | zero => exact none_t H
    | succ k_11 =>
    replace H := (show token_Ends.j0 (_ + 1) _ = _ from rfl).symm.trans H
    refine WC.cut (fun fr' w' => ∃ (kq : Nat), fr' = [(3, .int .i64 a0_1)] ∧ token_Ends.j1 kq a0_1 = some r_29 ∧ kq ≤ k_11 ∧ Mem w w' []) ?_ ?_
    · refine WC.seq ?_
      refine WC.seq ?_
      refine WC.region ?_
      refine WI.run tok 2 2 [(3, .int .i64 a0_1), (10, .bool (a0_1 == 10))] (by kernel_rfl) rfl ?_
      refine WI.done rfl ?_
      refine QF.next ?_
      refine WC.cond rfl (fun hb_12 => ?_) (fun hb_12 => ?_)
      · replace H := cond_t hb_12 H
        refine WC.skip ?_
        refine QF.next ?_
        refine WC.cond rfl (fun hb_13 => ?_) (fun hb_13 => ?_)
        · replace H := cond_t hb_13 H
          refine WC.exit ?_
          refine QF.then_exit ?_
          refine QF.then_exit ?_
          refine QF.block_other rfl ?_
          refine QF.block_here ?_
          refine QF.block_normal ?_
          refine QF.next ?_
          refine WC.seq ?_
          refine WC.seq ?_
          refine WC.region ?_
          refine WI.run tok 1 1 [(2, .bool true)] (by kernel_rfl) rfl ?_
          refine WI.done rfl ?_
          refine QF.next ?_
          refine WC.ret ?_
          refine QF.then_ret ?_
          refine QF.block_ret ?_
          refine QF.then_ret ?_
          have H0 : (true : Bool) = r_29 := Option.some.inj H
          clear H
          subst H0
          exact QF.ret [2] [.bool true] rfl rfl (by kernel_rfl) ⟨rfl, HM.bl⟩
        · replace H := cond_f hb_13 H
          refine WC.skip ?_
          exact QF.meet [(3, .int .i64 a0_1)] (by kernel_rfl) ⟨k_11, rfl, H, by omega, HM⟩
      · replace H := cond_f hb_12 H
        refine WC.seq ?_
        refine WC.region ?_
        refine WI.run tok 2 2 [(3, .int .i64 a0_1), (10, .bool (a0_1 == 14))] (by kernel_rfl) rfl ?_
        refine WI.done rfl ?_
        refine QF.next ?_
        refine WC.cond rfl (fun hb_14 => ?_) (fun hb_14 => ?_)
        · replace H := cond_t hb_14 H
          refine WC.skip ?_
          refine QF.next ?_
          refine WC.cond rfl (fun hb_15 => ?_) (fun hb_15 => ?_)
          · replace H := cond_t hb_15 H
            refine WC.exit ?_
            refine QF.then_exit ?_
            refine QF.then_exit ?_
            refine QF.block_other rfl ?_
            refine QF.block_here ?_
            refine QF.block_normal ?_
            refine QF.next ?_
            refine WC.seq ?_
            refine WC.seq ?_
            refine WC.region ?_
            refine WI.run tok 1 1 [(2, .bool true)] (by kernel_rfl) rfl ?_
            refine WI.done rfl ?_
            refine QF.next ?_
            refine WC.ret ?_
            refine QF.then_ret ?_
            refine QF.block_ret ?_
            refine QF.then_ret ?_
            have H0 : (true : Bool) = r_29 := Option.some.inj H
            clear H
            subst H0
            exact QF.ret [2] [.bool true] rfl rfl (by kernel_rfl) ⟨rfl, HM.bl⟩
          · replace H := cond_f hb_15 H
            refine WC.skip ?_
            exact QF.meet [(3, .int .i64 a0_1)] (by kernel_rfl) ⟨k_11, rfl, H, by omega, HM⟩
        · replace H := cond_f hb_14 H
          refine WC.seq ?_
          refine WC.region ?_
          refine WI.run tok 2 2 [(3, .int .i64 a0_1), (10, .bool (a0_1 == 18))] (by kernel_rfl) rfl ?_
          refine WI.done rfl ?_
          refine QF.next ?_
          refine WC.cond rfl (fun hb_16 => ?_) (fun hb_16 => ?_)
          · replace H := cond_t hb_16 H
            refine WC.skip ?_
            refine QF.next ?_
            refine WC.cond rfl (fun hb_17 => ?_) (fun hb_17 => ?_)
            · replace H := cond_t hb_17 H
              refine WC.exit ?_
              refine QF.then_exit ?_
              refine QF.then_exit ?_
              refine QF.block_other rfl ?_
              refine QF.block_here ?_
              refine QF.block_normal ?_
              refine QF.next ?_
              refine WC.seq ?_
              refine WC.seq ?_
              refine WC.region ?_
              refine WI.run tok 1 1 [(2, .bool true)] (by kernel_rfl) rfl ?_
              refine WI.done rfl ?_
              refine QF.next ?_
              refine WC.ret ?_
              refine QF.then_ret ?_
              refine QF.block_ret ?_
              refine QF.then_ret ?_
              have H0 : (true : Bool) = r_29 := Option.some.inj H
              clear H
              subst H0
              exact QF.ret [2] [.bool true] rfl rfl (by kernel_rfl) ⟨rfl, HM.bl⟩
            · replace H := cond_f hb_17 H
              refine WC.skip ?_
              exact QF.meet [(3, .int .i64 a0_1)] (by kernel_rfl) ⟨k_11, rfl, H, by omega, HM⟩
          · replace H := cond_f hb_16 H
            refine WC.region ?_
            refine WI.run tok 2 2 [(3, .int .i64 a0_1), (10, .bool (a0_1 == 29))] (by kernel_rfl) rfl ?_
            refine WI.done rfl ?_
            refine QF.next ?_
            refine WC.cond rfl (fun hb_18 => ?_) (fun hb_18 => ?_)
            · replace H := cond_t hb_18 H
              refine WC.exit ?_
              refine QF.then_exit ?_
              refine QF.then_exit ?_
              refine QF.block_other rfl ?_
              refine QF.block_here ?_
              refine QF.block_normal ?_
              refine QF.next ?_
              refine WC.seq ?_
              refine WC.seq ?_
              refine WC.region ?_
              refine WI.run tok 1 1 [(2, .bool true)] (by kernel_rfl) rfl ?_
              refine WI.done rfl ?_
              refine QF.next ?_
              refine WC.ret ?_
              refine QF.then_ret ?_
              refine QF.block_ret ?_
              refine QF.then_ret ?_
              have H0 : (true : Bool) = r_29 := Option.some.inj H
              clear H
              subst H0
              exact QF.ret [2] [.bool true] rfl rfl (by kernel_rfl) ⟨rfl, HM.bl⟩
            · replace H := cond_f hb_18 H
              refine WC.skip ?_
              exact QF.meet [(3, .int .i64 a0_1)] (by kernel_rfl) ⟨k_11, rfl, H, by omega, HM⟩
    · clear H HM
      rintro _ w' ⟨k_19', rfl, H, HKk_19, HM⟩
      cases k_19' with
      | zero => exact none_t H
      | succ k_19 =>
      replace H := (show token_Ends.j1 (_ + 1) _ = _ from rfl).symm.trans H
      refine WC.seq ?_
      refine WC.seq ?_
      refine WC.region ?_
      refine WI.run tok 2 2 [(3, .int .i64 a0_1), (15, .bool (a0_1 == 65))] (by kernel_rfl) rfl ?_
      refine WI.done rfl ?_
      refine QF.next ?_
      refine WC.cond rfl (fun hb_20 => ?_) (fun hb_20 => ?_)
      · replace H := cond_t hb_20 H
        refine WC.skip ?_
        refine QF.next ?_
        refine WC.cond rfl (fun hb_21 => ?_) (fun hb_21 => ?_)
        · replace H := cond_t hb_21 H
          refine WC.exit ?_
          refine QF.then_exit ?_
          refine QF.block_other rfl ?_
          refine QF.block_other rfl ?_
          refine QF.block_here ?_
          refine QF.next ?_
          refine WC.seq ?_
          refine WC.seq ?_
          refine WC.region ?_
          refine WI.run tok 1 1 [(2, .bool true)] (by kernel_rfl) rfl ?_
          refine WI.done rfl ?_
          refine QF.next ?_
          refine WC.ret ?_
          refine QF.then_ret ?_
          refine QF.block_ret ?_
          refine QF.then_ret ?_
          have H0 : (true : Bool) = r_29 := Option.some.inj H
          clear H
          subst H0
          exact QF.ret [2] [.bool true] rfl rfl (by kernel_rfl) ⟨rfl, HM.bl⟩
        · replace H := cond_f hb_21 H
          refine WC.skip ?_
          refine QF.next ?_
          refine WC.exit ?_
          refine QF.block_other rfl ?_
          refine QF.block_other rfl ?_
          refine QF.block_other rfl ?_
          refine QF.then_exit ?_
          refine QF.block_here ?_
          refine QF.next ?_
          refine WC.seq ?_
          refine WC.region ?_
          refine WI.run tok 1 1 [(2, .bool false)] (by kernel_rfl) rfl ?_
          refine WI.done rfl ?_
          refine QF.next ?_
          refine WC.ret ?_
          have H0 : (false : Bool) = r_29 := Option.some.inj H
          clear H
          subst H0
          exact QF.ret [2] [.bool false] rfl rfl (by kernel_rfl) ⟨rfl, HM.bl⟩
      · replace H := cond_f hb_20 H
        refine WC.seq ?_
        refine WC.region ?_
        refine WI.run tok 2 2 [(3, .int .i64 a0_1), (15, .bool (a0_1 == 66))] (by kernel_rfl) rfl ?_
        refine WI.done rfl ?_
        refine QF.next ?_
        refine WC.cond rfl (fun hb_22 => ?_) (fun hb_22 => ?_)
        · replace H := cond_t hb_22 H
          refine WC.skip ?_
          refine QF.next ?_
          refine WC.cond rfl (fun hb_23 => ?_) (fun hb_23 => ?_)
          · replace H := cond_t hb_23 H
            refine WC.exit ?_
            refine QF.then_exit ?_
            refine QF.block_other rfl ?_
            refine QF.block_other rfl ?_
            refine QF.block_here ?_
            refine QF.next ?_
            refine WC.seq ?_
            refine WC.seq ?_
            refine WC.region ?_
            refine WI.run tok 1 1 [(2, .bool true)] (by kernel_rfl) rfl ?_
            refine WI.done rfl ?_
            refine QF.next ?_
            refine WC.ret ?_
            refine QF.then_ret ?_
            refine QF.block_ret ?_
            refine QF.then_ret ?_
            have H0 : (true : Bool) = r_29 := Option.some.inj H
            clear H
            subst H0
            exact QF.ret [2] [.bool true] rfl rfl (by kernel_rfl) ⟨rfl, HM.bl⟩
          · replace H := cond_f hb_23 H
            refine WC.skip ?_
            refine QF.next ?_
            refine WC.exit ?_
            refine QF.block_other rfl ?_
            refine QF.block_other rfl ?_
            refine QF.block_other rfl ?_
            refine QF.then_exit ?_
            refine QF.block_here ?_
            refine QF.next ?_
            refine WC.seq ?_
            refine WC.region ?_
            refine WI.run tok 1 1 [(2, .bool false)] (by kernel_rfl) rfl ?_
            refine WI.done rfl ?_
            refine QF.next ?_
            refine WC.ret ?_
            have H0 : (false : Bool) = r_29 := Option.some.inj H
            clear H
            subst H0
            exact QF.ret [2] [.bool false] rfl rfl (by kernel_rfl) ⟨rfl, HM.bl⟩
        · replace H := cond_f hb_22 H
          refine WC.seq ?_
          refine WC.region ?_
          refine WI.run tok 2 2 [(3, .int .i64 a0_1), (15, .bool (a0_1 == 83))] (by kernel_rfl) rfl ?_
          refine WI.done rfl ?_
          refine QF.next ?_
          refine WC.cond rfl (fun hb_24 => ?_) (fun hb_24 => ?_)
          · replace H := cond_t hb_24 H
            refine WC.skip ?_
            refine QF.next ?_
            refine WC.cond rfl (fun hb_25 => ?_) (fun hb_25 => ?_)
            · replace H := cond_t hb_25 H
              refine WC.exit ?_
              refine QF.then_exit ?_
              refine QF.block_other rfl ?_
              refine QF.block_other rfl ?_
              refine QF.block_here ?_
              refine QF.next ?_
              refine WC.seq ?_
              refine WC.seq ?_
              refine WC.region ?_
              refine WI.run tok 1 1 [(2, .bool true)] (by kernel_rfl) rfl ?_
              refine WI.done rfl ?_
              refine QF.next ?_
              refine WC.ret ?_
              refine QF.then_ret ?_
              refine QF.block_ret ?_
              refine QF.then_ret ?_
              have H0 : (true : Bool) = r_29 := Option.some.inj H
              clear H
              subst H0
              exact QF.ret [2] [.bool true] rfl rfl (by kernel_rfl) ⟨rfl, HM.bl⟩
            · replace H := cond_f hb_25 H
              refine WC.skip ?_
              refine QF.next ?_
              refine WC.exit ?_
              refine QF.block_other rfl ?_
              refine QF.block_other rfl ?_
              refine QF.block_other rfl ?_
              refine QF.then_exit ?_
              refine QF.block_here ?_
              refine QF.next ?_
              refine WC.seq ?_
              refine WC.region ?_
              refine WI.run tok 1 1 [(2, .bool false)] (by kernel_rfl) rfl ?_
              refine WI.done rfl ?_
              refine QF.next ?_
              refine WC.ret ?_
              have H0 : (false : Bool) = r_29 := Option.some.inj H
              clear H
              subst H0
              exact QF.ret [2] [.bool false] rfl rfl (by kernel_rfl) ⟨rfl, HM.bl⟩
          · replace H := cond_f hb_24 H
            refine WC.seq ?_
            refine WC.region ?_
            refine WI.run tok 2 2 [(3, .int .i64 a0_1), (15, .bool (a0_1 == 84))] (by kernel_rfl) rfl ?_
            refine WI.done rfl ?_
            refine QF.next ?_
            refine WC.cond rfl (fun hb_26 => ?_) (fun hb_26 => ?_)
            · replace H := cond_t hb_26 H
              refine WC.skip ?_
              refine QF.next ?_
              refine WC.cond rfl (fun hb_27 => ?_) (fun hb_27 => ?_)
              · replace H := cond_t hb_27 H
                refine WC.exit ?_
                refine QF.then_exit ?_
                refine QF.block_other rfl ?_
                refine QF.block_other rfl ?_
                refine QF.block_here ?_
                refine QF.next ?_
                refine WC.seq ?_
                refine WC.seq ?_
                refine WC.region ?_
                refine WI.run tok 1 1 [(2, .bool true)] (by kernel_rfl) rfl ?_
                refine WI.done rfl ?_
                refine QF.next ?_
                refine WC.ret ?_
                refine QF.then_ret ?_
                refine QF.block_ret ?_
                refine QF.then_ret ?_
                have H0 : (true : Bool) = r_29 := Option.some.inj H
                clear H
                subst H0
                exact QF.ret [2] [.bool true] rfl rfl (by kernel_rfl) ⟨rfl, HM.bl⟩
              · replace H := cond_f hb_27 H
                refine WC.skip ?_
                refine QF.next ?_
                refine WC.exit ?_
                refine QF.block_other rfl ?_
                refine QF.block_other rfl ?_
                refine QF.block_other rfl ?_
                refine QF.then_exit ?_
                refine QF.block_here ?_
                refine QF.next ?_
                refine WC.seq ?_
                refine WC.region ?_
                refine WI.run tok 1 1 [(2, .bool false)] (by kernel_rfl) rfl ?_
                refine WI.done rfl ?_
                refine QF.next ?_
                refine WC.ret ?_
                have H0 : (false : Bool) = r_29 := Option.some.inj H
                clear H
                subst H0
                exact QF.ret [2] [.bool false] rfl rfl (by kernel_rfl) ⟨rfl, HM.bl⟩
            · replace H := cond_f hb_26 H
              refine WC.region ?_
              refine WI.run tok 2 2 [(15, .bool (a0_1 == 85))] (by kernel_rfl) rfl ?_
              refine WI.done rfl ?_
              refine QF.next ?_
              refine WC.cond rfl (fun hb_28 => ?_) (fun hb_28 => ?_)
              · replace H := cond_t hb_28 H
                refine WC.exit ?_
                refine QF.then_exit ?_
                refine QF.block_other rfl ?_
                refine QF.block_other rfl ?_
                refine QF.block_here ?_
                refine QF.next ?_
                refine WC.seq ?_
                refine WC.seq ?_
                refine WC.region ?_
                refine WI.run tok 1 1 [(2, .bool true)] (by kernel_rfl) rfl ?_
                refine WI.done rfl ?_
                refine QF.next ?_
                refine WC.ret ?_
                refine QF.then_ret ?_
                refine QF.block_ret ?_
                refine QF.then_ret ?_
                have H0 : (true : Bool) = r_29 := Option.some.inj H
                clear H
                subst H0
                exact QF.ret [2] [.bool true] rfl rfl (by kernel_rfl) ⟨rfl, HM.bl⟩
              · replace H := cond_f hb_28 H
                refine WC.skip ?_
                refine QF.next ?_
                refine WC.exit ?_
                refine QF.block_other rfl ?_
                refine QF.block_other rfl ?_
                refine QF.block_other rfl ?_
                refine QF.then_exit ?_
                refine QF.block_here ?_
                refine QF.next ?_
                refine WC.seq ?_
                refine WC.region ?_
                refine WI.run tok 1 1 [(2, .bool false)] (by kernel_rfl) rfl ?_
                refine WI.done rfl ?_
                refine QF.next ?_
                refine WC.ret ?_
                have H0 : (false : Bool) = r_29 := Option.some.inj H
                clear H
                subst H0
                exact QF.ret [2] [.bool false] rfl rfl (by kernel_rfl) ⟨rfl, HM.bl⟩
/-! cavil/cavilref06.Ends -/
def cavilref06_Ends.f (k : Nat) (a0_1 : Int) : Option (Bool) := bif (decide (a0_1 ≥ 1)) && (decide (a0_1 ≤ 5)) then (some true) else ((cavilref06_In.f k a0_1 ([98, 114, 101, 97, 107, 32, 99, 111, 110, 116, 105, 110, 117, 101, 32, 102, 97, 108, 108, 116, 104, 114, 111, 117, 103, 104, 32, 114, 101, 116, 117, 114, 110, 32, 43, 43, 32, 45, 45, 32, 41, 32, 93, 32, 125, 32] : List UInt8)).bind fun r_3 => (bif r_3 then (some (decide (a0_1 ≥ 10))) else (some false)))
set_option maxRecDepth 100000 in
theorem cavilref06_Ends.calls (k : Nat) (a0_1 : Int) (r_8 : Bool) (w : World) (h : cavilref06_Ends.f k a0_1 = some r_8) : Calls Try.prog 21 #[.int .i64 a0_1] w fun e w' => e = .returned (.bool r_8) ∧ Bl w w' := by
  have H := h
  clear h
  unfold cavilref06_Ends.f at H
  have HM := Mem.refl w
  refine enter (n := 17) (args := [.int .i64 a0_1]) Try.func21 rfl rfl rfl ?_
  refine WC.seq ?_
  refine WC.region ?_
  refine WI.run tok 1 1 [(0, .int .i64 a0_1)] (by kernel_rfl) rfl ?_
  refine WI.done rfl ?_
  refine QF.next ?_
  refine WC.seq ?_
  refine WC.region ?_
  refine WI.run tok 3 3 [(0, .int .i64 a0_1), (5, .bool (decide (a0_1 ≥ 1)))] (by kernel_rfl) rfl ?_
  refine WI.runAnd tok 5 _ rfl 3 6 8 (decide (a0_1 ≤ 5)) [(0, .int .i64 a0_1)] (by kernel_rfl) (by kernel_rfl) rfl ?_
  refine WI.run tok 1 7 [(0, .int .i64 a0_1), (9, .bool ((decide (a0_1 ≥ 1)) && (decide (a0_1 ≤ 5))))] (by kernel_rfl) rfl ?_
  refine WI.split 9 _ rfl (fun hb_2 => ?_) (fun hb_2 => ?_)
  · replace H := cond_t hb_2 H
    refine WI.run tok 8 15 [(2, .bool true)] (by kernel_rfl) rfl ?_
    refine WI.done rfl ?_
    refine QF.next ?_
    refine WC.ret ?_
    have H0 : (true : Bool) = r_8 := Option.some.inj H
    clear H
    subst H0
    exact QF.ret [2] [.bool true] rfl rfl (by kernel_rfl) ⟨rfl, HM.bl⟩
  · replace H := cond_f hb_2 H
    refine WI.run tok 1 8 [(0, .int .i64 a0_1), (9, .bool false), (10, .int .i64 a0_1)] (by kernel_rfl) rfl ?_
    obtain ⟨r_3, hc_4, H⟩ := bind_t H
    refine WI.callB (cavilref06_In.calls k a0_1 ([98, 114, 101, 97, 107, 32, 99, 111, 110, 116, 105, 110, 117, 101, 32, 102, 97, 108, 108, 116, 104, 114, 111, 117, 103, 104, 32, 114, 101, 116, 117, 114, 110, 32, 43, 43, 32, 45, 45, 32, 41, 32, 93, 32, 125, 32] : List UInt8) r_3 _  hc_4) rfl rfl rfl (by kernel_rfl) (by kernel_rfl) (fun w_6 hw_5 => ?_)
    replace HM := HM.call hw_5
    clear hw_5
    refine WI.run tok 1 10 [(0, .int .i64 a0_1), (9, .bool false), (12, .bool r_3)] (by kernel_rfl) rfl ?_
    refine WI.split 12 _ rfl (fun hb_7 => ?_) (fun hb_7 => ?_)
    · replace H := cond_t hb_7 H
      refine WI.run tok 5 15 [(2, .bool (decide (a0_1 ≥ 10)))] (by kernel_rfl) rfl ?_
      refine WI.done rfl ?_
      refine QF.next ?_
      refine WC.ret ?_
      have H0 : (decide (a0_1 ≥ 10) : Bool) = r_8 := Option.some.inj H
      clear H
      subst H0
      exact QF.ret [2] [.bool (decide (a0_1 ≥ 10))] rfl rfl (by kernel_rfl) ⟨rfl, HM.bl⟩
    · replace H := cond_f hb_7 H
      refine WI.run tok 5 15 [(2, .bool false)] (by kernel_rfl) rfl ?_
      refine WI.done rfl ?_
      refine QF.next ?_
      refine WC.ret ?_
      have H0 : (false : Bool) = r_8 := Option.some.inj H
      clear H
      subst H0
      exact QF.ret [2] [.bool false] rfl rfl (by kernel_rfl) ⟨rfl, HM.bl⟩
/-! cavil/cavilref06.Unary -/
def cavilref06_Unary.f (k : Nat) (a0_1 : Int) : Option (Bool) := bif decide (a0_1 ≥ 40) then ((cavilref06_In.f k a0_1 ([43, 32, 45, 32, 33, 32, 94, 32, 42, 32, 38, 32, 60, 45, 32] : List UInt8)).bind fun r_3 => (some r_3)) else (some false)
set_option maxRecDepth 100000 in
theorem cavilref06_Unary.calls (k : Nat) (a0_1 : Int) (r_7 : Bool) (w : World) (h : cavilref06_Unary.f k a0_1 = some r_7) : Calls Try.prog 17 #[.int .i64 a0_1] w fun e w' => e = .returned (.bool r_7) ∧ Bl w w' := by
  have H := h
  clear h
  unfold cavilref06_Unary.f at H
  have HM := Mem.refl w
  refine enter (n := 9) (args := [.int .i64 a0_1]) Try.func17 rfl rfl rfl ?_
  refine WC.seq ?_
  refine WC.region ?_
  refine WI.run tok 1 1 [(0, .int .i64 a0_1)] (by kernel_rfl) rfl ?_
  refine WI.done rfl ?_
  refine QF.next ?_
  refine WC.seq ?_
  refine WC.region ?_
  refine WI.run tok 3 3 [(0, .int .i64 a0_1), (5, .bool (decide (a0_1 ≥ 40)))] (by kernel_rfl) rfl ?_
  refine WI.split 5 _ rfl (fun hb_2 => ?_) (fun hb_2 => ?_)
  · replace H := cond_t hb_2 H
    refine WI.run tok 1 4 [(5, .bool true), (6, .int .i64 a0_1)] (by kernel_rfl) rfl ?_
    obtain ⟨r_3, hc_4, H⟩ := bind_t H
    refine WI.callB (cavilref06_In.calls k a0_1 ([43, 32, 45, 32, 33, 32, 94, 32, 42, 32, 38, 32, 60, 45, 32] : List UInt8) r_3 _  hc_4) rfl rfl rfl (by kernel_rfl) (by kernel_rfl) (fun w_6 hw_5 => ?_)
    replace HM := HM.call hw_5
    clear hw_5
    refine WI.run tok 2 7 [(2, .bool r_3)] (by kernel_rfl) rfl ?_
    refine WI.done rfl ?_
    refine QF.next ?_
    refine WC.ret ?_
    have H0 : (r_3 : Bool) = r_7 := Option.some.inj H
    clear H
    subst H0
    exact QF.ret [2] [.bool r_3] rfl rfl (by kernel_rfl) ⟨rfl, HM.bl⟩
  · replace H := cond_f hb_2 H
    refine WI.run tok 4 7 [(2, .bool false)] (by kernel_rfl) rfl ?_
    refine WI.done rfl ?_
    refine QF.next ?_
    refine WC.ret ?_
    have H0 : (false : Bool) = r_7 := Option.some.inj H
    clear H
    subst H0
    exact QF.ret [2] [.bool false] rfl rfl (by kernel_rfl) ⟨rfl, HM.bl⟩
/-! cavil/cavilref06.Prec -/
def cavilref06_Prec.f (k : Nat) (a0_1 : Int) : Option (Int) := bif decide (a0_1 < 40) then (some 0) else ((cavilref06_In.f k a0_1 ([124, 124, 32] : List UInt8)).bind fun r_3 => (bif r_3 then (some 1) else ((cavilref06_In.f k a0_1 ([38, 38, 32] : List UInt8)).bind fun r_8 => (bif r_8 then (some 2) else ((cavilref06_In.f k a0_1 ([61, 61, 32, 33, 61, 32, 60, 32, 60, 61, 32, 62, 32, 62, 61, 32] : List UInt8)).bind fun r_13 => (bif r_13 then (some 3) else ((cavilref06_In.f k a0_1 ([43, 32, 45, 32, 124, 32, 94, 32] : List UInt8)).bind fun r_18 => (bif r_18 then (some 4) else ((cavilref06_In.f k a0_1 ([42, 32, 47, 32, 37, 32, 60, 60, 32, 62, 62, 32, 38, 32, 38, 94, 32] : List UInt8)).bind fun r_23 => (bif r_23 then (some 5) else (some 0)))))))))))
set_option maxRecDepth 100000 in
theorem cavilref06_Prec.calls (k : Nat) (a0_1 : Int) (r_28 : Int) (w : World) (h : cavilref06_Prec.f k a0_1 = some r_28) : Calls Try.prog 15 #[.int .i64 a0_1] w fun e w' => e = .returned (.int .i64 r_28) ∧ Bl w w' := by
  have H := h
  clear h
  unfold cavilref06_Prec.f at H
  have HM := Mem.refl w
  refine enter (n := 15) (args := [.int .i64 a0_1]) Try.func15 rfl rfl rfl ?_
  refine WC.seq ?_
  refine WC.region ?_
  refine WI.run tok 1 1 [(0, .int .i64 a0_1)] (by kernel_rfl) rfl ?_
  refine WI.done rfl ?_
  refine QF.next ?_
  refine WC.seq ?_
  refine WC.seq ?_
  refine WC.region ?_
  refine WI.run tok 2 2 [(0, .int .i64 a0_1), (4, .bool (decide (a0_1 < 40)))] (by kernel_rfl) rfl ?_
  refine WI.done rfl ?_
  refine QF.next ?_
  refine WC.cond rfl (fun hb_2 => ?_) (fun hb_2 => ?_)
  · replace H := cond_t hb_2 H
    refine WC.seq ?_
    refine WC.region ?_
    refine WI.run tok 1 1 [(2, .int .i64 0)] (by kernel_rfl) rfl ?_
    refine WI.done rfl ?_
    refine QF.next ?_
    refine WC.ret ?_
    refine QF.then_ret ?_
    have H0 : (0 : Int) = r_28 := Option.some.inj H
    clear H
    subst H0
    exact QF.ret [2] [.int .i64 0] rfl rfl (by kernel_rfl) ⟨rfl, HM.bl⟩
  · replace H := cond_f hb_2 H
    refine WC.skip ?_
    refine QF.next ?_
    refine WC.seq ?_
    refine WC.seq ?_
    refine WC.region ?_
    refine WI.run tok 1 1 [(0, .int .i64 a0_1), (5, .int .i64 a0_1)] (by kernel_rfl) rfl ?_
    obtain ⟨r_3, hc_4, H⟩ := bind_t H
    refine WI.callB (cavilref06_In.calls k a0_1 ([124, 124, 32] : List UInt8) r_3 _  hc_4) rfl rfl rfl (by kernel_rfl) (by kernel_rfl) (fun w_6 hw_5 => ?_)
    replace HM := HM.call hw_5
    clear hw_5
    refine WI.done rfl ?_
    refine QF.next ?_
    refine WC.cond rfl (fun hb_7 => ?_) (fun hb_7 => ?_)
    · replace H := cond_t hb_7 H
      refine WC.seq ?_
      refine WC.region ?_
      refine WI.run tok 1 1 [(2, .int .i64 1)] (by kernel_rfl) rfl ?_
      refine WI.done rfl ?_
      refine QF.next ?_
      refine WC.ret ?_
      refine QF.then_ret ?_
      have H0 : (1 : Int) = r_28 := Option.some.inj H
      clear H
      subst H0
      exact QF.ret [2] [.int .i64 1] rfl rfl (by kernel_rfl) ⟨rfl, HM.bl⟩
    · replace H := cond_f hb_7 H
      refine WC.skip ?_
      refine QF.next ?_
      refine WC.seq ?_
      refine WC.seq ?_
      refine WC.region ?_
      refine WI.run tok 1 1 [(0, .int .i64 a0_1), (7, .int .i64 a0_1)] (by kernel_rfl) rfl ?_
      obtain ⟨r_8, hc_9, H⟩ := bind_t H
      refine WI.callB (cavilref06_In.calls k a0_1 ([38, 38, 32] : List UInt8) r_8 _  hc_9) rfl rfl rfl (by kernel_rfl) (by kernel_rfl) (fun w_11 hw_10 => ?_)
      replace HM := HM.call hw_10
      clear hw_10
      refine WI.done rfl ?_
      refine QF.next ?_
      refine WC.cond rfl (fun hb_12 => ?_) (fun hb_12 => ?_)
      · replace H := cond_t hb_12 H
        refine WC.seq ?_
        refine WC.region ?_
        refine WI.run tok 1 1 [(2, .int .i64 2)] (by kernel_rfl) rfl ?_
        refine WI.done rfl ?_
        refine QF.next ?_
        refine WC.ret ?_
        refine QF.then_ret ?_
        have H0 : (2 : Int) = r_28 := Option.some.inj H
        clear H
        subst H0
        exact QF.ret [2] [.int .i64 2] rfl rfl (by kernel_rfl) ⟨rfl, HM.bl⟩
      · replace H := cond_f hb_12 H
        refine WC.skip ?_
        refine QF.next ?_
        refine WC.seq ?_
        refine WC.seq ?_
        refine WC.region ?_
        refine WI.run tok 1 1 [(0, .int .i64 a0_1), (9, .int .i64 a0_1)] (by kernel_rfl) rfl ?_
        obtain ⟨r_13, hc_14, H⟩ := bind_t H
        refine WI.callB (cavilref06_In.calls k a0_1 ([61, 61, 32, 33, 61, 32, 60, 32, 60, 61, 32, 62, 32, 62, 61, 32] : List UInt8) r_13 _  hc_14) rfl rfl rfl (by kernel_rfl) (by kernel_rfl) (fun w_16 hw_15 => ?_)
        replace HM := HM.call hw_15
        clear hw_15
        refine WI.done rfl ?_
        refine QF.next ?_
        refine WC.cond rfl (fun hb_17 => ?_) (fun hb_17 => ?_)
        · replace H := cond_t hb_17 H
          refine WC.seq ?_
          refine WC.region ?_
          refine WI.run tok 1 1 [(2, .int .i64 3)] (by kernel_rfl) rfl ?_
          refine WI.done rfl ?_
          refine QF.next ?_
          refine WC.ret ?_
          refine QF.then_ret ?_
          have H0 : (3 : Int) = r_28 := Option.some.inj H
          clear H
          subst H0
          exact QF.ret [2] [.int .i64 3] rfl rfl (by kernel_rfl) ⟨rfl, HM.bl⟩
        · replace H := cond_f hb_17 H
          refine WC.skip ?_
          refine QF.next ?_
          refine WC.seq ?_
          refine WC.seq ?_
          refine WC.region ?_
          refine WI.run tok 1 1 [(0, .int .i64 a0_1), (11, .int .i64 a0_1)] (by kernel_rfl) rfl ?_
          obtain ⟨r_18, hc_19, H⟩ := bind_t H
          refine WI.callB (cavilref06_In.calls k a0_1 ([43, 32, 45, 32, 124, 32, 94, 32] : List UInt8) r_18 _  hc_19) rfl rfl rfl (by kernel_rfl) (by kernel_rfl) (fun w_21 hw_20 => ?_)
          replace HM := HM.call hw_20
          clear hw_20
          refine WI.done rfl ?_
          refine QF.next ?_
          refine WC.cond rfl (fun hb_22 => ?_) (fun hb_22 => ?_)
          · replace H := cond_t hb_22 H
            refine WC.seq ?_
            refine WC.region ?_
            refine WI.run tok 1 1 [(2, .int .i64 4)] (by kernel_rfl) rfl ?_
            refine WI.done rfl ?_
            refine QF.next ?_
            refine WC.ret ?_
            refine QF.then_ret ?_
            have H0 : (4 : Int) = r_28 := Option.some.inj H
            clear H
            subst H0
            exact QF.ret [2] [.int .i64 4] rfl rfl (by kernel_rfl) ⟨rfl, HM.bl⟩
          · replace H := cond_f hb_22 H
            refine WC.skip ?_
            refine QF.next ?_
            refine WC.seq ?_
            refine WC.seq ?_
            refine WC.region ?_
            refine WI.run tok 1 1 [(13, .int .i64 a0_1)] (by kernel_rfl) rfl ?_
            obtain ⟨r_23, hc_24, H⟩ := bind_t H
            refine WI.callB (cavilref06_In.calls k a0_1 ([42, 32, 47, 32, 37, 32, 60, 60, 32, 62, 62, 32, 38, 32, 38, 94, 32] : List UInt8) r_23 _  hc_24) rfl rfl rfl (by kernel_rfl) (by kernel_rfl) (fun w_26 hw_25 => ?_)
            replace HM := HM.call hw_25
            clear hw_25
            refine WI.done rfl ?_
            refine QF.next ?_
            refine WC.cond rfl (fun hb_27 => ?_) (fun hb_27 => ?_)
            · replace H := cond_t hb_27 H
              refine WC.seq ?_
              refine WC.region ?_
              refine WI.run tok 1 1 [(2, .int .i64 5)] (by kernel_rfl) rfl ?_
              refine WI.done rfl ?_
              refine QF.next ?_
              refine WC.ret ?_
              refine QF.then_ret ?_
              have H0 : (5 : Int) = r_28 := Option.some.inj H
              clear H
              subst H0
              exact QF.ret [2] [.int .i64 5] rfl rfl (by kernel_rfl) ⟨rfl, HM.bl⟩
            · replace H := cond_f hb_27 H
              refine WC.skip ?_
              refine QF.next ?_
              refine WC.seq ?_
              refine WC.region ?_
              refine WI.run tok 1 1 [(2, .int .i64 0)] (by kernel_rfl) rfl ?_
              refine WI.done rfl ?_
              refine QF.next ?_
              refine WC.ret ?_
              have H0 : (0 : Int) = r_28 := Option.some.inj H
              clear H
              subst H0
              exact QF.ret [2] [.int .i64 0] rfl rfl (by kernel_rfl) ⟨rfl, HM.bl⟩
/-! cavil/cavilref06.Base -/
mutual
def cavilref06_Base.l0 : Nat → Int → List UInt8 → Option (Int)
  | 0, _, _ => none
  | k + 1, x4_8, r_2 => bif decide (x4_8 < 51) then ((cavilref06_Spell.f k x4_8).bind fun r_11 => (bif decide (0 ≤ (0 : Int)) && (decide ((0 : Int) ≤ (wr .i64 ((r_2.length : Int) - 1))) && decide ((wr .i64 ((r_2.length : Int) - 1)) ≤ (r_2.length : Int))) then (bif r_11 == (cut r_2 0 (wr .i64 ((r_2.length : Int) - 1))) then (some x4_8) else (cavilref06_Base.l0 k (wr .i64 (x4_8 + 1)) r_2)) else none)) else (some 0)
def cavilref06_Base.l1 : Nat → Int → List UInt8 → Option (Int)
  | 0, _, _ => none
  | k + 1, x4_17, r_2 => bif decide (x4_17 < 51) then ((cavilref06_Spell.f k x4_17).bind fun r_20 => (bif decide (0 ≤ (0 : Int)) && (decide ((0 : Int) ≤ (wr .i64 ((r_2.length : Int) - 1))) && decide ((wr .i64 ((r_2.length : Int) - 1)) ≤ (r_2.length : Int))) then (bif r_20 == (cut r_2 0 (wr .i64 ((r_2.length : Int) - 1))) then (some x4_17) else (cavilref06_Base.l1 k (wr .i64 (x4_17 + 1)) r_2)) else none)) else (some 0)
end
def cavilref06_Base.f (k : Nat) (a0_1 : Int) : Option (Int) := (cavilref06_Spell.f k a0_1).bind fun r_2 => (bif (decide (a0_1 < 40)) || (r_2 == ([] : List UInt8)) then (some 0) else (bif (r_2 == ([43, 43] : List UInt8)) || (r_2 == ([45, 45] : List UInt8)) then (cavilref06_Base.l0 k 40 r_2) else (bif decide (a0_1 ≥ 51) then (bif decide (a0_1 ≤ 61) then (cavilref06_Base.l1 k 40 r_2) else (some 0)) else (some 0))))
set_option maxRecDepth 100000 in
theorem cavilref06_Base.calls (k : Nat) (a0_1 : Int) (r_24 : Int) (w : World) (h : cavilref06_Base.f k a0_1 = some r_24) : Calls Try.prog 19 #[.int .i64 a0_1] w fun e w' => e = .returned (.int .i64 r_24) ∧ Bl w w' := by
  have H := h
  clear h
  unfold cavilref06_Base.f at H
  have HM := Mem.refl w
  refine enter (n := 40) (args := [.int .i64 a0_1]) Try.func19 rfl rfl rfl ?_
  refine WC.seq ?_
  refine WC.region ?_
  refine WI.run tok 1 1 [(0, .int .i64 a0_1)] (by kernel_rfl) rfl ?_
  refine WI.done rfl ?_
  refine QF.next ?_
  refine WC.seq ?_
  refine WC.region ?_
  refine WI.run tok 1 1 [(0, .int .i64 a0_1), (5, .int .i64 a0_1)] (by kernel_rfl) rfl ?_
  obtain ⟨r_2, hc_3, H⟩ := bind_t H
  refine WI.callB (cavilref06_Spell.calls k a0_1 r_2 _  hc_3) rfl rfl rfl (by kernel_rfl) (by kernel_rfl) (fun w_5 hw_4 => ?_)
  replace HM := HM.call hw_4
  clear hw_4
  refine WI.run tok 1 3 [(0, .int .i64 a0_1), (3, .string (mk r_2))] (by kernel_rfl) rfl ?_
  refine WI.done rfl ?_
  refine QF.next ?_
  refine WC.seq ?_
  refine WC.seq ?_
  refine WC.region ?_
  refine WI.run tok 3 3 [(0, .int .i64 a0_1), (3, .string (mk r_2)), (9, .bool (decide (a0_1 < 40)))] (by kernel_rfl) rfl ?_
  refine WI.runOr tok 9 _ rfl 3 6 12 (r_2 == ([] : List UInt8)) [(0, .int .i64 a0_1), (3, .string (mk r_2))] (by kernel_rfl) (by kernel_rfl) rfl ?_
  refine WI.done rfl ?_
  refine QF.next ?_
  refine WC.cond rfl (fun hb_6 => ?_) (fun hb_6 => ?_)
  · replace H := cond_t hb_6 H
    refine WC.seq ?_
    refine WC.region ?_
    refine WI.run tok 1 1 [(2, .int .i64 0)] (by kernel_rfl) rfl ?_
    refine WI.done rfl ?_
    refine QF.next ?_
    refine WC.ret ?_
    refine QF.then_ret ?_
    have H0 : (0 : Int) = r_24 := Option.some.inj H
    clear H
    subst H0
    exact QF.ret [2] [.int .i64 0] rfl rfl (by kernel_rfl) ⟨rfl, HM.bl⟩
  · replace H := cond_f hb_6 H
    refine WC.skip ?_
    refine QF.next ?_
    refine WC.seq ?_
    refine WC.seq ?_
    refine WC.region ?_
    refine WI.run tok 3 3 [(0, .int .i64 a0_1), (3, .string (mk r_2)), (15, .bool (r_2 == ([43, 43] : List UInt8)))] (by kernel_rfl) rfl ?_
    refine WI.runOr tok 15 _ rfl 3 6 18 (r_2 == ([45, 45] : List UInt8)) [(0, .int .i64 a0_1), (3, .string (mk r_2))] (by kernel_rfl) (by kernel_rfl) rfl ?_
    refine WI.run tok 1 7 [(0, .int .i64 a0_1), (3, .string (mk r_2)), (19, .bool ((r_2 == ([43, 43] : List UInt8)) || (r_2 == ([45, 45] : List UInt8))))] (by kernel_rfl) rfl ?_
    refine WI.split 19 _ rfl (fun hb_7 => ?_) (fun hb_7 => ?_)
    · replace H := cond_t hb_7 H
      refine WI.run tok 7 14 [(3, .string (mk r_2)), (26, .bool true)] (by kernel_rfl) rfl ?_
      refine WI.done rfl ?_
      refine QF.next ?_
      refine WC.condT rfl ?_
      refine WC.seq ?_
      refine WC.region ?_
      refine WI.run tok 1 1 [(3, .string (mk r_2)), (4, .int .i64 40)] (by kernel_rfl) rfl ?_
      refine WI.done rfl ?_
      refine QF.next ?_
      refine WC.block ?_
      refine WC.sub [(3, .string (mk r_2)), (4, .int .i64 40)] (by kernel_rfl) ?_
      refine WC.loop (fun kq fr' w' => ∃ (x4_8 : Int), fr' = [(3, .string (mk r_2)), (4, .int .i64 x4_8)] ∧ cavilref06_Base.l0 kq x4_8 r_2 = some r_24 ∧ kq ≤ k ∧ Mem w w' []) k ⟨40, rfl, H, Nat.le_refl _, HM⟩ ?_
      clear H HM
      rintro k_9' _ w' ⟨x4_8, rfl, H, HKk_9, HM⟩
      cases k_9' with
      | zero => exact none_t H
      | succ k_9 =>
      replace H := (show cavilref06_Base.l0 (_ + 1) _ _ = _ from rfl).symm.trans H
      refine WC.seq ?_
      refine WC.seq ?_
      refine WC.region ?_
      refine WI.run tok 2 2 [(3, .string (mk r_2)), (4, .int .i64 x4_8), (28, .bool (decide (x4_8 < 51)))] (by kernel_rfl) rfl ?_
      refine WI.done rfl ?_
      refine QF.next ?_
      refine WC.cond rfl (fun hb_10 => ?_) (fun hb_10 => ?_)
      · replace H := cond_t hb_10 H
        refine WC.skip ?_
        refine QF.next ?_
        refine WC.seq ?_
        refine WC.block ?_
        refine WC.seq ?_
        obtain ⟨r_11, hc_12, H⟩ := bind_t H
        obtain ⟨hg_13, H⟩ := guard_t H
        refine WC.drawM (by kernel_rfl) tok HM (by kernel_rfl) [.int .i64 x4_8, .string (mk r_11), .string (mk r_2), .string (mk r_2), .int .i64 (r_2.length : Int), .int .i64 (wr .i64 ((r_2.length : Int) - 1)), .string (mk (cut r_2 0 (wr .i64 ((r_2.length : Int) - 1)))), .bool (r_11 == (cut r_2 0 (wr .i64 ((r_2.length : Int) - 1))))] [1, 6] (by kernel_rfl) ⟨fun w' HM => ⟨_, rfl, by kernel_rfl, St.sub [(31, .int .i64 x4_8)] (by kernel_rfl) ((St.callB (cavilref06_Spell.calls k_9 x4_8 r_11 w'  hc_12) (by kernel_rfl) rfl).mono fun _ _ ⟨hu, hb⟩ => ⟨hu, HM.call hb⟩)⟩, fun w' HM => ⟨_, rfl, by kernel_rfl, St.sub [(33, .string (mk r_2)), (36, .int .i64 (wr .i64 ((r_2.length : Int) - 1)))] (by kernel_rfl) ((St.slice_str tok rfl rfl rfl rfl rfl hg_13).mono fun _ _ ⟨hu, hw⟩ => ⟨hu, hw ▸ HM⟩)⟩, trivial⟩ ?_
        clear HM
        intro w' HM
        refine QF.sub [(3, .string (mk r_2)), (4, .int .i64 x4_8), (38, .bool (r_11 == (cut r_2 0 (wr .i64 ((r_2.length : Int) - 1)))))] (by kernel_rfl) ?_
        refine QF.next ?_
        refine WC.cond rfl (fun hb_14 => ?_) (fun hb_14 => ?_)
        · replace H := cond_t hb_14 H
          refine WC.seq ?_
          refine WC.region ?_
          refine WI.run tok 2 2 [(2, .int .i64 x4_8)] (by kernel_rfl) rfl ?_
          refine WI.done rfl ?_
          refine QF.next ?_
          refine WC.ret ?_
          refine QF.block_ret ?_
          refine QF.then_ret ?_
          refine QF.then_ret ?_
          refine QF.block_ret ?_
          refine QF.then_ret ?_
          have H0 : (x4_8 : Int) = r_24 := Option.some.inj H
          clear H
          subst H0
          exact QF.ret [2] [.int .i64 x4_8] rfl rfl (by kernel_rfl) ⟨rfl, HM.bl⟩
        · replace H := cond_f hb_14 H
          refine WC.skip ?_
          refine QF.block_normal ?_
          refine QF.next ?_
          refine WC.region ?_
          refine WI.run tok 3 3 [(3, .string (mk r_2)), (4, .int .i64 (wr .i64 (x4_8 + 1)))] (by kernel_rfl) rfl ?_
          refine WI.done rfl ?_
          exact QF.again k_9 (by omega) [(3, .string (mk r_2)), (4, .int .i64 (wr .i64 (x4_8 + 1)))] (by kernel_rfl) ⟨(wr .i64 (x4_8 + 1)), rfl, H, by omega, HM⟩
      · replace H := cond_f hb_10 H
        refine WC.exit ?_
        refine QF.then_exit ?_
        refine QF.then_exit ?_
        refine QF.block_here ?_
        refine QF.next ?_
        refine WC.seq ?_
        refine WC.region ?_
        refine WI.run tok 1 1 [(2, .int .i64 0)] (by kernel_rfl) rfl ?_
        refine WI.done rfl ?_
        refine QF.next ?_
        refine WC.ret ?_
        have H0 : (0 : Int) = r_24 := Option.some.inj H
        clear H
        subst H0
        exact QF.ret [2] [.int .i64 0] rfl rfl (by kernel_rfl) ⟨rfl, HM.bl⟩
    · replace H := cond_f hb_7 H
      refine WI.run tok 3 10 [(0, .int .i64 a0_1), (3, .string (mk r_2)), (19, .bool false), (22, .bool (decide (a0_1 ≥ 51)))] (by kernel_rfl) rfl ?_
      refine WI.split 22 _ rfl (fun hb_15 => ?_) (fun hb_15 => ?_)
      · replace H := cond_t hb_15 H
        refine WI.run tok 4 14 [(3, .string (mk r_2)), (26, .bool (decide (a0_1 ≤ 61)))] (by kernel_rfl) rfl ?_
        refine WI.done rfl ?_
        refine QF.next ?_
        refine WC.cond rfl (fun hb_16 => ?_) (fun hb_16 => ?_)
        · replace H := cond_t hb_16 H
          refine WC.seq ?_
          refine WC.region ?_
          refine WI.run tok 1 1 [(3, .string (mk r_2)), (4, .int .i64 40)] (by kernel_rfl) rfl ?_
          refine WI.done rfl ?_
          refine QF.next ?_
          refine WC.block ?_
          refine WC.sub [(3, .string (mk r_2)), (4, .int .i64 40)] (by kernel_rfl) ?_
          refine WC.loop (fun kq fr' w' => ∃ (x4_17 : Int), fr' = [(3, .string (mk r_2)), (4, .int .i64 x4_17)] ∧ cavilref06_Base.l1 kq x4_17 r_2 = some r_24 ∧ kq ≤ k ∧ Mem w w' []) k ⟨40, rfl, H, Nat.le_refl _, HM⟩ ?_
          clear H HM
          rintro k_18' _ w' ⟨x4_17, rfl, H, HKk_18, HM⟩
          cases k_18' with
          | zero => exact none_t H
          | succ k_18 =>
          replace H := (show cavilref06_Base.l1 (_ + 1) _ _ = _ from rfl).symm.trans H
          refine WC.seq ?_
          refine WC.seq ?_
          refine WC.region ?_
          refine WI.run tok 2 2 [(3, .string (mk r_2)), (4, .int .i64 x4_17), (28, .bool (decide (x4_17 < 51)))] (by kernel_rfl) rfl ?_
          refine WI.done rfl ?_
          refine QF.next ?_
          refine WC.cond rfl (fun hb_19 => ?_) (fun hb_19 => ?_)
          · replace H := cond_t hb_19 H
            refine WC.skip ?_
            refine QF.next ?_
            refine WC.seq ?_
            refine WC.block ?_
            refine WC.seq ?_
            obtain ⟨r_20, hc_21, H⟩ := bind_t H
            obtain ⟨hg_22, H⟩ := guard_t H
            refine WC.drawM (by kernel_rfl) tok HM (by kernel_rfl) [.int .i64 x4_17, .string (mk r_20), .string (mk r_2), .string (mk r_2), .int .i64 (r_2.length : Int), .int .i64 (wr .i64 ((r_2.length : Int) - 1)), .string (mk (cut r_2 0 (wr .i64 ((r_2.length : Int) - 1)))), .bool (r_20 == (cut r_2 0 (wr .i64 ((r_2.length : Int) - 1))))] [1, 6] (by kernel_rfl) ⟨fun w' HM => ⟨_, rfl, by kernel_rfl, St.sub [(31, .int .i64 x4_17)] (by kernel_rfl) ((St.callB (cavilref06_Spell.calls k_18 x4_17 r_20 w'  hc_21) (by kernel_rfl) rfl).mono fun _ _ ⟨hu, hb⟩ => ⟨hu, HM.call hb⟩)⟩, fun w' HM => ⟨_, rfl, by kernel_rfl, St.sub [(33, .string (mk r_2)), (36, .int .i64 (wr .i64 ((r_2.length : Int) - 1)))] (by kernel_rfl) ((St.slice_str tok rfl rfl rfl rfl rfl hg_22).mono fun _ _ ⟨hu, hw⟩ => ⟨hu, hw ▸ HM⟩)⟩, trivial⟩ ?_
            clear HM
            intro w' HM
            refine QF.sub [(3, .string (mk r_2)), (4, .int .i64 x4_17), (38, .bool (r_20 == (cut r_2 0 (wr .i64 ((r_2.length : Int) - 1)))))] (by kernel_rfl) ?_
            refine QF.next ?_
            refine WC.cond rfl (fun hb_23 => ?_) (fun hb_23 => ?_)
            · replace H := cond_t hb_23 H
              refine WC.seq ?_
              refine WC.region ?_
              refine WI.run tok 2 2 [(2, .int .i64 x4_17)] (by kernel_rfl) rfl ?_
              refine WI.done rfl ?_
              refine QF.next ?_
              refine WC.ret ?_
              refine QF.block_ret ?_
              refine QF.then_ret ?_
              refine QF.then_ret ?_
              refine QF.block_ret ?_
              refine QF.then_ret ?_
              have H0 : (x4_17 : Int) = r_24 := Option.some.inj H
              clear H
              subst H0
              exact QF.ret [2] [.int .i64 x4_17] rfl rfl (by kernel_rfl) ⟨rfl, HM.bl⟩
            · replace H := cond_f hb_23 H
              refine WC.skip ?_
              refine QF.block_normal ?_
              refine QF.next ?_
              refine WC.region ?_
              refine WI.run tok 3 3 [(3, .string (mk r_2)), (4, .int .i64 (wr .i64 (x4_17 + 1)))] (by kernel_rfl) rfl ?_
              refine WI.done rfl ?_
              exact QF.again k_18 (by omega) [(3, .string (mk r_2)), (4, .int .i64 (wr .i64 (x4_17 + 1)))] (by kernel_rfl) ⟨(wr .i64 (x4_17 + 1)), rfl, H, by omega, HM⟩
          · replace H := cond_f hb_19 H
            refine WC.exit ?_
            refine QF.then_exit ?_
            refine QF.then_exit ?_
            refine QF.block_here ?_
            refine QF.next ?_
            refine WC.seq ?_
            refine WC.region ?_
            refine WI.run tok 1 1 [(2, .int .i64 0)] (by kernel_rfl) rfl ?_
            refine WI.done rfl ?_
            refine QF.next ?_
            refine WC.ret ?_
            have H0 : (0 : Int) = r_24 := Option.some.inj H
            clear H
            subst H0
            exact QF.ret [2] [.int .i64 0] rfl rfl (by kernel_rfl) ⟨rfl, HM.bl⟩
        · replace H := cond_f hb_16 H
          refine WC.skip ?_
          refine QF.next ?_
          refine WC.seq ?_
          refine WC.region ?_
          refine WI.run tok 1 1 [(2, .int .i64 0)] (by kernel_rfl) rfl ?_
          refine WI.done rfl ?_
          refine QF.next ?_
          refine WC.ret ?_
          have H0 : (0 : Int) = r_24 := Option.some.inj H
          clear H
          subst H0
          exact QF.ret [2] [.int .i64 0] rfl rfl (by kernel_rfl) ⟨rfl, HM.bl⟩
      · replace H := cond_f hb_15 H
        refine WI.run tok 4 14 [(3, .string (mk r_2)), (26, .bool false)] (by kernel_rfl) rfl ?_
        refine WI.done rfl ?_
        refine QF.next ?_
        refine WC.condF rfl ?_
        refine WC.skip ?_
        refine QF.next ?_
        refine WC.seq ?_
        refine WC.region ?_
        refine WI.run tok 1 1 [(2, .int .i64 0)] (by kernel_rfl) rfl ?_
        refine WI.done rfl ?_
        refine QF.next ?_
        refine WC.ret ?_
        have H0 : (0 : Int) = r_24 := Option.some.inj H
        clear H
        subst H0
        exact QF.ret [2] [.int .i64 0] rfl rfl (by kernel_rfl) ⟨rfl, HM.bl⟩
/-! cavil/token.keywords -/
def token_keywords.arr0 : List (List UInt8) := [[98, 114, 101, 97, 107], [99, 97, 115, 101], [99, 104, 97, 110], [99, 111, 110, 115, 116], [99, 111, 110, 116, 105, 110, 117, 101], [100, 101, 102, 97, 117, 108, 116], [100, 101, 102, 101, 114], [101, 108, 115, 101], [102, 97, 108, 108, 116, 104, 114, 111, 117, 103, 104], [102, 111, 114], [102, 117, 110, 99], [103, 111], [103, 111, 116, 111], [105, 102], [105, 109, 112, 111, 114, 116], [105, 110, 116, 101, 114, 102, 97, 99, 101], [109, 97, 112], [112, 97, 99, 107, 97, 103, 101], [114, 97, 110, 103, 101], [114, 101, 116, 117, 114, 110], [115, 101, 108, 101, 99, 116], [115, 116, 114, 117, 99, 116], [115, 119, 105, 116, 99, 104], [116, 121, 112, 101], [118, 97, 114]]
def token_keywords.f (k : Nat) : Option (List (List UInt8)) := some token_keywords.arr0
set_option maxRecDepth 100000 in
theorem token_keywords.calls (k : Nat) (r_2 : List (List UInt8)) (w : World) (h : token_keywords.f k  = some r_2) : Calls Try.prog 23 #[] w fun e w' => e = .returned (.agg (r_2.map encS).toArray) ∧ Bl w w' := by
  have H := h
  clear h
  unfold token_keywords.f at H
  have HM := Mem.refl w
  refine enter (n := 2) (args := []) Try.func23 rfl rfl rfl ?_
  refine WC.seq ?_
  refine WC.region ?_
  refine WI.step rfl rfl rfl rfl (St.alloc HM rfl (cl := ([[], [], [], [], [], [], [], [], [], [], [], [], [], [], [], [], [], [], [], [], [], [], [], [], []] : List (List UInt8)).map encS) inf36 rfl) ?_
  clear HM
  rintro _ w' ⟨b_1, rfl, HM⟩
  refine WI.done rfl ?_
  refine QF.next ?_
  refine WC.seq ?_
  refine WC.region ?_
  refine WI.build rfl rfl rfl [.string (mk [98, 114, 101, 97, 107]), .string (mk [99, 97, 115, 101]), .string (mk [99, 104, 97, 110]), .string (mk [99, 111, 110, 115, 116]), .string (mk [99, 111, 110, 116, 105, 110, 117, 101]), .string (mk [100, 101, 102, 97, 117, 108, 116]), .string (mk [100, 101, 102, 101, 114]), .string (mk [101, 108, 115, 101]), .string (mk [102, 97, 108, 108, 116, 104, 114, 111, 117, 103, 104]), .string (mk [102, 111, 114]), .string (mk [102, 117, 110, 99]), .string (mk [103, 111]), .string (mk [103, 111, 116, 111]), .string (mk [105, 102]), .string (mk [105, 109, 112, 111, 114, 116]), .string (mk [105, 110, 116, 101, 114, 102, 97, 99, 101]), .string (mk [109, 97, 112]), .string (mk [112, 97, 99, 107, 97, 103, 101]), .string (mk [114, 97, 110, 103, 101]), .string (mk [114, 101, 116, 117, 114, 110]), .string (mk [115, 101, 108, 101, 99, 116]), .string (mk [115, 116, 114, 117, 99, 116]), .string (mk [115, 119, 105, 116, 99, 104]), .string (mk [116, 121, 112, 101]), .string (mk [118, 97, 114])] rfl (token_keywords.arr0.map encS) (by kernel_rfl) ?_
  refine WI.step0 rfl rfl rfl (St.store HM rfl rfl rfl (i := 0) rfl inf36 (token_keywords.arr0.map encS) rfl (by simp [(show token_keywords.arr0.length = 25 from rfl)]) rfl (by simp [(show token_keywords.arr0.length = 25 from rfl)]) [(b_1, token_keywords.arr0.map encS, 36, (0, 0))] (by rw [splice_all _ _ (by simp [(show token_keywords.arr0.length = 25 from rfl)])]; rfl)) ?_
  clear HM
  rintro _ w' HM
  refine WI.done rfl ?_
  refine QF.next ?_
  refine WC.ret ?_
  have H0 : (token_keywords.arr0 : List (List UInt8)) = r_2 := Option.some.inj H
  clear H
  subst H0
  exact QF.retM tok HM [.cell 0 36] [.agg (token_keywords.arr0.map encS).toArray] rfl rfl ⟨⟨0, _, _, _, _, _, rfl, rfl, rfl, .inr ⟨rfl, rfl, _, by simpa [(show token_keywords.arr0.length = 25 from rfl)] using inf36⟩⟩, trivial⟩ ⟨rfl, HM.bl⟩
/-! cavil/token.operators -/
def token_operators.arr0 : List (List UInt8) := [[43], [45], [42], [47], [37], [38], [124], [94], [60, 60], [62, 62], [38, 94], [43, 61], [45, 61], [42, 61], [47, 61], [37, 61], [38, 61], [124, 61], [94, 61], [60, 60, 61], [62, 62, 61], [38, 94, 61], [38, 38], [124, 124], [60, 45], [43, 43], [45, 45], [61, 61], [60], [62], [61], [33], [126], [33, 61], [60, 61], [62, 61], [58, 61], [46, 46, 46], [40], [91], [123], [44], [46], [41], [93], [125], [59], [58]]
def token_operators.f (k : Nat) : Option (List (List UInt8)) := some token_operators.arr0
set_option maxRecDepth 100000 in
theorem token_operators.calls (k : Nat) (r_2 : List (List UInt8)) (w : World) (h : token_operators.f k  = some r_2) : Calls Try.prog 22 #[] w fun e w' => e = .returned (.agg (r_2.map encS).toArray) ∧ Bl w w' := by
  have H := h
  clear h
  unfold token_operators.f at H
  have HM := Mem.refl w
  refine enter (n := 2) (args := []) Try.func22 rfl rfl rfl ?_
  refine WC.seq ?_
  refine WC.region ?_
  refine WI.step rfl rfl rfl rfl (St.alloc HM rfl (cl := ([[], [], [], [], [], [], [], [], [], [], [], [], [], [], [], [], [], [], [], [], [], [], [], [], [], [], [], [], [], [], [], [], [], [], [], [], [], [], [], [], [], [], [], [], [], [], [], []] : List (List UInt8)).map encS) inf34 rfl) ?_
  clear HM
  rintro _ w' ⟨b_1, rfl, HM⟩
  refine WI.done rfl ?_
  refine QF.next ?_
  refine WC.seq ?_
  refine WC.region ?_
  refine WI.build rfl rfl rfl [.string (mk [43]), .string (mk [45]), .string (mk [42]), .string (mk [47]), .string (mk [37]), .string (mk [38]), .string (mk [124]), .string (mk [94]), .string (mk [60, 60]), .string (mk [62, 62]), .string (mk [38, 94]), .string (mk [43, 61]), .string (mk [45, 61]), .string (mk [42, 61]), .string (mk [47, 61]), .string (mk [37, 61]), .string (mk [38, 61]), .string (mk [124, 61]), .string (mk [94, 61]), .string (mk [60, 60, 61]), .string (mk [62, 62, 61]), .string (mk [38, 94, 61]), .string (mk [38, 38]), .string (mk [124, 124]), .string (mk [60, 45]), .string (mk [43, 43]), .string (mk [45, 45]), .string (mk [61, 61]), .string (mk [60]), .string (mk [62]), .string (mk [61]), .string (mk [33]), .string (mk [126]), .string (mk [33, 61]), .string (mk [60, 61]), .string (mk [62, 61]), .string (mk [58, 61]), .string (mk [46, 46, 46]), .string (mk [40]), .string (mk [91]), .string (mk [123]), .string (mk [44]), .string (mk [46]), .string (mk [41]), .string (mk [93]), .string (mk [125]), .string (mk [59]), .string (mk [58])] rfl (token_operators.arr0.map encS) (by kernel_rfl) ?_
  refine WI.step0 rfl rfl rfl (St.store HM rfl rfl rfl (i := 0) rfl inf34 (token_operators.arr0.map encS) rfl (by simp [(show token_operators.arr0.length = 48 from rfl)]) rfl (by simp [(show token_operators.arr0.length = 48 from rfl)]) [(b_1, token_operators.arr0.map encS, 34, (0, 0))] (by rw [splice_all _ _ (by simp [(show token_operators.arr0.length = 48 from rfl)])]; rfl)) ?_
  clear HM
  rintro _ w' HM
  refine WI.done rfl ?_
  refine QF.next ?_
  refine WC.ret ?_
  have H0 : (token_operators.arr0 : List (List UInt8)) = r_2 := Option.some.inj H
  clear H
  subst H0
  exact QF.retM tok HM [.cell 0 34] [.agg (token_operators.arr0.map encS).toArray] rfl rfl ⟨⟨0, _, _, _, _, _, rfl, rfl, rfl, .inr ⟨rfl, rfl, _, by simpa [(show token_operators.arr0.length = 48 from rfl)] using inf34⟩⟩, trivial⟩ ⟨rfl, HM.bl⟩
/-! cavil/token.Keyword -/
def token_Keyword.l0 : Nat → Int → List UInt8 → List (List UInt8) → Option (Int)
  | 0, _, _, _ => none
  | k + 1, x6_7, a0_1, r_2 => bif decide (x6_7 < 25) then (bif decide (0 ≤ x6_7) && decide (x6_7 < (r_2.length : Int)) then (bif (r_2.getD (x6_7).toNat []) == a0_1 then (some (wr .i64 (10 + x6_7))) else (token_Keyword.l0 k (wr .i64 (x6_7 + 1)) a0_1 r_2)) else none) else (some 0)
def token_Keyword.f (k : Nat) (a0_1 : List UInt8) : Option (Int) := (token_keywords.f k ).bind fun r_2 => (bif r_2.length == 25 then (token_Keyword.l0 k 0 a0_1 r_2) else none)
set_option maxRecDepth 100000 in
theorem token_Keyword.calls (k : Nat) (a0_1 : List UInt8) (r_12 : Int) (w : World) (h : token_Keyword.f k a0_1 = some r_12) : Calls Try.prog 11 #[.string (mk a0_1)] w fun e w' => e = .returned (.int .i64 r_12) ∧ Bl w w' := by
  have H := h
  clear h
  unfold token_Keyword.f at H
  have HM := Mem.refl w
  refine enter (n := 16) (args := [.string (mk a0_1)]) Try.func11 rfl rfl rfl ?_
  refine WC.seq ?_
  refine WC.region ?_
  refine WI.run tok 1 1 [(0, .string (mk a0_1))] (by kernel_rfl) rfl ?_
  refine WI.done rfl ?_
  refine QF.next ?_
  refine WC.seq ?_
  refine WC.seq ?_
  refine WC.region ?_
  obtain ⟨r_2, hc_4, H⟩ := bind_t H
  obtain ⟨hl_3, H⟩ := guard_t H
  replace hl_3 := beq_iff_eq.1 hl_3
  refine WI.callB (token_keywords.calls k  r_2 _  hc_4) rfl rfl rfl (by kernel_rfl) (by kernel_rfl) (fun w_6 hw_5 => ?_)
  replace HM := HM.call hw_5
  clear hw_5
  refine WI.run tok 1 2 [(0, .string (mk a0_1)), (5, .agg (r_2.map encS).toArray), (6, .int .i64 0)] (by kernel_rfl) rfl ?_
  refine WI.done rfl ?_
  refine QF.next ?_
  refine WC.block ?_
  refine WC.sub [(0, .string (mk a0_1)), (5, .agg (r_2.map encS).toArray), (6, .int .i64 0)] (by kernel_rfl) ?_
  refine WC.loop (fun kq fr' w' => ∃ (x6_7 : Int), fr' = [(0, .string (mk a0_1)), (5, .agg (r_2.map encS).toArray), (6, .int .i64 x6_7)] ∧ token_Keyword.l0 kq x6_7 a0_1 r_2 = some r_12 ∧ kq ≤ k ∧ Mem w w' []) k ⟨0, rfl, H, Nat.le_refl _, HM⟩ ?_
  clear H HM
  rintro k_8' _ w' ⟨x6_7, rfl, H, HKk_8, HM⟩
  cases k_8' with
  | zero => exact none_t H
  | succ k_8 =>
  replace H := (show token_Keyword.l0 (_ + 1) _ _ _ = _ from rfl).symm.trans H
  refine WC.seq ?_
  refine WC.region ?_
  refine WI.run tok 1 1 [(0, .string (mk a0_1)), (5, .agg (r_2.map encS).toArray), (6, .int .i64 x6_7), (7, .bool (decide (x6_7 < 25)))] (by kernel_rfl) rfl ?_
  refine WI.done rfl ?_
  refine QF.next ?_
  refine WC.seq ?_
  refine WC.cond rfl (fun hb_9 => ?_) (fun hb_9 => ?_)
  · replace H := cond_t hb_9 H
    refine WC.skip ?_
    refine QF.next ?_
    refine WC.seq ?_
    refine WC.block ?_
    refine WC.seq ?_
    refine WC.region ?_
    refine WI.run tok 1 1 [(0, .string (mk a0_1)), (5, .agg (r_2.map encS).toArray), (6, .int .i64 x6_7), (8, .int .i64 x6_7)] (by kernel_rfl) rfl ?_
    obtain ⟨hg_10, H⟩ := guard_t H
    refine WI.step rfl rfl rfl rfl (St.index_arr tok [] rfl rfl rfl rfl inf9 rfl rfl hl_3 hg_10) ?_
    rintro _ _ ⟨rfl, rfl⟩
    refine WI.run tok 2 4 [(0, .string (mk a0_1)), (3, .int .i64 x6_7), (4, .string (mk (r_2.getD (x6_7).toNat []))), (5, .agg (r_2.map encS).toArray), (6, .int .i64 x6_7)] (by kernel_rfl) rfl ?_
    refine WI.done rfl ?_
    refine QF.next ?_
    refine WC.seq ?_
    refine WC.region ?_
    refine WI.run tok 3 3 [(0, .string (mk a0_1)), (3, .int .i64 x6_7), (5, .agg (r_2.map encS).toArray), (6, .int .i64 x6_7), (12, .bool ((r_2.getD (x6_7).toNat []) == a0_1))] (by kernel_rfl) rfl ?_
    refine WI.done rfl ?_
    refine QF.next ?_
    refine WC.cond rfl (fun hb_11 => ?_) (fun hb_11 => ?_)
    · replace H := cond_t hb_11 H
      refine WC.seq ?_
      refine WC.region ?_
      refine WI.run tok 3 3 [(2, .int .i64 (wr .i64 (10 + x6_7)))] (by kernel_rfl) rfl ?_
      refine WI.done rfl ?_
      refine QF.next ?_
      refine WC.ret ?_
      refine QF.block_ret ?_
      refine QF.then_ret ?_
      refine QF.then_ret ?_
      refine QF.block_ret ?_
      refine QF.then_ret ?_
      have H0 : (wr .i64 (10 + x6_7) : Int) = r_12 := Option.some.inj H
      clear H
      subst H0
      exact QF.ret [2] [.int .i64 (wr .i64 (10 + x6_7))] rfl rfl (by kernel_rfl) ⟨rfl, HM.bl⟩
    · replace H := cond_f hb_11 H
      refine WC.skip ?_
      refine QF.block_normal ?_
      refine QF.next ?_
      refine WC.region ?_
      refine WI.run tok 2 2 [(0, .string (mk a0_1)), (5, .agg (r_2.map encS).toArray), (6, .int .i64 (wr .i64 (x6_7 + 1)))] (by kernel_rfl) rfl ?_
      refine WI.done rfl ?_
      exact QF.again k_8 (by omega) [(0, .string (mk a0_1)), (5, .agg (r_2.map encS).toArray), (6, .int .i64 (wr .i64 (x6_7 + 1)))] (by kernel_rfl) ⟨(wr .i64 (x6_7 + 1)), rfl, H, by omega, HM⟩
  · replace H := cond_f hb_9 H
    refine WC.exit ?_
    refine QF.then_exit ?_
    refine QF.then_exit ?_
    refine QF.block_here ?_
    refine QF.next ?_
    refine WC.seq ?_
    refine WC.region ?_
    refine WI.run tok 1 1 [(2, .int .i64 0)] (by kernel_rfl) rfl ?_
    refine WI.done rfl ?_
    refine QF.next ?_
    refine WC.ret ?_
    have H0 : (0 : Int) = r_12 := Option.some.inj H
    clear H
    subst H0
    exact QF.ret [2] [.int .i64 0] rfl rfl (by kernel_rfl) ⟨rfl, HM.bl⟩
/-! cavil/token.Spell -/
def token_Spell.j0 : Nat → Bool → Int → Option (List UInt8)
  | 0, _, _ => none
  | k + 1, x24_7, a0_1 => bif x24_7 then ((token_keywords.f k ).bind fun r_16 => (bif r_16.length == 25 then (bif decide (0 ≤ (wr .i64 (a0_1 - 10))) && decide ((wr .i64 (a0_1 - 10)) < (r_16.length : Int)) then (some (r_16.getD (wr .i64 (a0_1 - 10)).toNat [])) else none) else none)) else (bif decide (a0_1 ≥ 40) then ((token_operators.f k ).bind fun r_23 => (bif r_23.length == 48 then (bif decide ((wr .i64 (a0_1 - 40)) < 48) then ((token_operators.f k ).bind fun r_29 => (bif r_29.length == 48 then (bif decide (0 ≤ (wr .i64 (a0_1 - 40))) && decide ((wr .i64 (a0_1 - 40)) < (r_29.length : Int)) then (some (r_29.getD (wr .i64 (a0_1 - 40)).toNat [])) else none) else none)) else (some [])) else none)) else (some []))
def token_Spell.f (k : Nat) (a0_1 : Int) : Option (List UInt8) := bif a0_1 == 1 then (some [110, 97, 109, 101]) else (bif a0_1 == 2 then (some [105, 110, 116]) else (bif a0_1 == 3 then (some [102, 108, 111, 97, 116]) else (bif a0_1 == 4 then (some [99, 104, 97, 114]) else (bif a0_1 == 5 then (some [115, 116, 114, 105, 110, 103]) else (bif decide (a0_1 ≥ 10) then ((token_keywords.f k ).bind fun r_9 => (bif r_9.length == 25 then (token_Spell.j0 k (decide ((wr .i64 (a0_1 - 10)) < 25)) a0_1) else none)) else (token_Spell.j0 k false a0_1))))))
set_option maxRecDepth 100000 in
theorem token_Spell.calls (k : Nat) (a0_1 : Int) (r_35 : List UInt8) (w : World) (h : token_Spell.f k a0_1 = some r_35) : Calls Try.prog 10 #[.int .i64 a0_1] w fun e w' => e = .returned (.string (mk r_35)) ∧ Bl w w' := by
  have H := h
  clear h
  unfold token_Spell.f at H
  have HM := Mem.refl w
  refine enter (n := 48) (args := [.int .i64 a0_1]) Try.func10 rfl rfl rfl ?_
  refine WC.seq ?_
  refine WC.region ?_
  refine WI.run tok 1 1 [(0, .int .i64 a0_1)] (by kernel_rfl) rfl ?_
  refine WI.done rfl ?_
  refine QF.next ?_
  refine WC.seq ?_
  refine WC.seq ?_
  refine WC.region ?_
  refine WI.run tok 6 6 [(0, .int .i64 a0_1), (3, .int .i64 (wr .i64 (a0_1 - 10))), (4, .int .i64 (wr .i64 (a0_1 - 40)))] (by kernel_rfl) rfl ?_
  refine WI.done rfl ?_
  refine QF.next ?_
  refine WC.block ?_
  refine WC.seq ?_
  refine WC.region ?_
  refine WI.run tok 3 3 [(0, .int .i64 a0_1), (3, .int .i64 (wr .i64 (a0_1 - 10))), (4, .int .i64 (wr .i64 (a0_1 - 40))), (9, .bool (a0_1 == 1))] (by kernel_rfl) rfl ?_
  refine WI.done rfl ?_
  refine QF.next ?_
  refine WC.cond rfl (fun hb_2 => ?_) (fun hb_2 => ?_)
  · replace H := cond_t hb_2 H
    refine WC.seq ?_
    refine WC.region ?_
    refine WI.run tok 1 1 [(2, .string (mk [110, 97, 109, 101]))] (by kernel_rfl) rfl ?_
    refine WI.done rfl ?_
    refine QF.next ?_
    refine WC.ret ?_
    refine QF.block_ret ?_
    refine QF.then_ret ?_
    have H0 : ([110, 97, 109, 101] : List UInt8) = r_35 := Option.some.inj H
    clear H
    subst H0
    exact QF.ret [2] [.string (mk [110, 97, 109, 101])] rfl rfl (by kernel_rfl) ⟨rfl, HM.bl⟩
  · replace H := cond_f hb_2 H
    refine WC.seq ?_
    refine WC.region ?_
    refine WI.run tok 3 3 [(0, .int .i64 a0_1), (3, .int .i64 (wr .i64 (a0_1 - 10))), (4, .int .i64 (wr .i64 (a0_1 - 40))), (12, .bool (a0_1 == 2))] (by kernel_rfl) rfl ?_
    refine WI.done rfl ?_
    refine QF.next ?_
    refine WC.cond rfl (fun hb_3 => ?_) (fun hb_3 => ?_)
    · replace H := cond_t hb_3 H
      refine WC.seq ?_
      refine WC.region ?_
      refine WI.run tok 1 1 [(2, .string (mk [105, 110, 116]))] (by kernel_rfl) rfl ?_
      refine WI.done rfl ?_
      refine QF.next ?_
      refine WC.ret ?_
      refine QF.block_ret ?_
      refine QF.then_ret ?_
      have H0 : ([105, 110, 116] : List UInt8) = r_35 := Option.some.inj H
      clear H
      subst H0
      exact QF.ret [2] [.string (mk [105, 110, 116])] rfl rfl (by kernel_rfl) ⟨rfl, HM.bl⟩
    · replace H := cond_f hb_3 H
      refine WC.seq ?_
      refine WC.region ?_
      refine WI.run tok 3 3 [(0, .int .i64 a0_1), (3, .int .i64 (wr .i64 (a0_1 - 10))), (4, .int .i64 (wr .i64 (a0_1 - 40))), (15, .bool (a0_1 == 3))] (by kernel_rfl) rfl ?_
      refine WI.done rfl ?_
      refine QF.next ?_
      refine WC.cond rfl (fun hb_4 => ?_) (fun hb_4 => ?_)
      · replace H := cond_t hb_4 H
        refine WC.seq ?_
        refine WC.region ?_
        refine WI.run tok 1 1 [(2, .string (mk [102, 108, 111, 97, 116]))] (by kernel_rfl) rfl ?_
        refine WI.done rfl ?_
        refine QF.next ?_
        refine WC.ret ?_
        refine QF.block_ret ?_
        refine QF.then_ret ?_
        have H0 : ([102, 108, 111, 97, 116] : List UInt8) = r_35 := Option.some.inj H
        clear H
        subst H0
        exact QF.ret [2] [.string (mk [102, 108, 111, 97, 116])] rfl rfl (by kernel_rfl) ⟨rfl, HM.bl⟩
      · replace H := cond_f hb_4 H
        refine WC.seq ?_
        refine WC.region ?_
        refine WI.run tok 3 3 [(0, .int .i64 a0_1), (3, .int .i64 (wr .i64 (a0_1 - 10))), (4, .int .i64 (wr .i64 (a0_1 - 40))), (18, .bool (a0_1 == 4))] (by kernel_rfl) rfl ?_
        refine WI.done rfl ?_
        refine QF.next ?_
        refine WC.cond rfl (fun hb_5 => ?_) (fun hb_5 => ?_)
        · replace H := cond_t hb_5 H
          refine WC.seq ?_
          refine WC.region ?_
          refine WI.run tok 1 1 [(2, .string (mk [99, 104, 97, 114]))] (by kernel_rfl) rfl ?_
          refine WI.done rfl ?_
          refine QF.next ?_
          refine WC.ret ?_
          refine QF.block_ret ?_
          refine QF.then_ret ?_
          have H0 : ([99, 104, 97, 114] : List UInt8) = r_35 := Option.some.inj H
          clear H
          subst H0
          exact QF.ret [2] [.string (mk [99, 104, 97, 114])] rfl rfl (by kernel_rfl) ⟨rfl, HM.bl⟩
        · replace H := cond_f hb_5 H
          refine WC.seq ?_
          refine WC.region ?_
          refine WI.run tok 3 3 [(0, .int .i64 a0_1), (3, .int .i64 (wr .i64 (a0_1 - 10))), (4, .int .i64 (wr .i64 (a0_1 - 40))), (21, .bool (a0_1 == 5))] (by kernel_rfl) rfl ?_
          refine WI.done rfl ?_
          refine QF.next ?_
          refine WC.cond rfl (fun hb_6 => ?_) (fun hb_6 => ?_)
          · replace H := cond_t hb_6 H
            refine WC.seq ?_
            refine WC.region ?_
            refine WI.run tok 1 1 [(2, .string (mk [115, 116, 114, 105, 110, 103]))] (by kernel_rfl) rfl ?_
            refine WI.done rfl ?_
            refine QF.next ?_
            refine WC.ret ?_
            refine QF.block_ret ?_
            refine QF.then_ret ?_
            have H0 : ([115, 116, 114, 105, 110, 103] : List UInt8) = r_35 := Option.some.inj H
            clear H
            subst H0
            exact QF.ret [2] [.string (mk [115, 116, 114, 105, 110, 103])] rfl rfl (by kernel_rfl) ⟨rfl, HM.bl⟩
          · replace H := cond_f hb_6 H
            refine WC.cut (fun fr' w' => ∃ (kq : Nat) (x24_7 : Bool), fr' = [(0, .int .i64 a0_1), (3, .int .i64 (wr .i64 (a0_1 - 10))), (4, .int .i64 (wr .i64 (a0_1 - 40))), (24, .bool x24_7)] ∧ token_Spell.j0 kq x24_7 a0_1 = some r_35 ∧ kq ≤ k ∧ Mem w w' []) ?_ ?_
            · refine WC.region ?_
              refine WI.run tok 3 3 [(0, .int .i64 a0_1), (3, .int .i64 (wr .i64 (a0_1 - 10))), (4, .int .i64 (wr .i64 (a0_1 - 40))), (27, .bool (decide (a0_1 ≥ 10)))] (by kernel_rfl) rfl ?_
              refine WI.split 27 _ rfl (fun hb_8 => ?_) (fun hb_8 => ?_)
              · replace H := cond_t hb_8 H
                refine WI.run tok 1 4 [(0, .int .i64 a0_1), (3, .int .i64 (wr .i64 (a0_1 - 10))), (4, .int .i64 (wr .i64 (a0_1 - 40))), (27, .bool true), (28, .int .i64 (wr .i64 (a0_1 - 10)))] (by kernel_rfl) rfl ?_
                obtain ⟨r_9, hc_11, H⟩ := bind_t H
                obtain ⟨hl_10, H⟩ := guard_t H
                replace hl_10 := beq_iff_eq.1 hl_10
                refine WI.callB (token_keywords.calls k  r_9 _  hc_11) rfl rfl rfl (by kernel_rfl) (by kernel_rfl) (fun w_13 hw_12 => ?_)
                replace HM := HM.call hw_12
                clear hw_12
                refine WI.run tok 4 9 [(0, .int .i64 a0_1), (3, .int .i64 (wr .i64 (a0_1 - 10))), (4, .int .i64 (wr .i64 (a0_1 - 40))), (24, .bool (decide ((wr .i64 (a0_1 - 10)) < 25)))] (by kernel_rfl) rfl ?_
                refine WI.done rfl ?_
                exact QF.meet [(0, .int .i64 a0_1), (3, .int .i64 (wr .i64 (a0_1 - 10))), (4, .int .i64 (wr .i64 (a0_1 - 40))), (24, .bool (decide ((wr .i64 (a0_1 - 10)) < 25)))] (by kernel_rfl) ⟨k, (decide ((wr .i64 (a0_1 - 10)) < 25)), rfl, H, by omega, HM⟩
              · replace H := cond_f hb_8 H
                refine WI.run tok 6 9 [(0, .int .i64 a0_1), (3, .int .i64 (wr .i64 (a0_1 - 10))), (4, .int .i64 (wr .i64 (a0_1 - 40))), (24, .bool false)] (by kernel_rfl) rfl ?_
                refine WI.done rfl ?_
                exact QF.meet [(0, .int .i64 a0_1), (3, .int .i64 (wr .i64 (a0_1 - 10))), (4, .int .i64 (wr .i64 (a0_1 - 40))), (24, .bool false)] (by kernel_rfl) ⟨k, false, rfl, H, by omega, HM⟩
            · clear H HM
              rintro _ w' ⟨k_14', x24_7, rfl, H, HKk_14, HM⟩
              cases k_14' with
              | zero => exact none_t H
              | succ k_14 =>
              replace H := (show token_Spell.j0 (_ + 1) _ _ = _ from rfl).symm.trans H
              refine WC.cond rfl (fun hb_15 => ?_) (fun hb_15 => ?_)
              · replace H := cond_t hb_15 H
                refine WC.seq ?_
                refine WC.region ?_
                obtain ⟨r_16, hc_18, H⟩ := bind_t H
                obtain ⟨hl_17, H⟩ := guard_t H
                replace hl_17 := beq_iff_eq.1 hl_17
                refine WI.callB (token_keywords.calls k_14  r_16 _  hc_18) rfl rfl rfl (by kernel_rfl) (by kernel_rfl) (fun w_20 hw_19 => ?_)
                replace HM := HM.call hw_19
                clear hw_19
                refine WI.run tok 1 2 [(33, .agg (r_16.map encS).toArray), (34, .int .i64 (wr .i64 (a0_1 - 10)))] (by kernel_rfl) rfl ?_
                obtain ⟨hg_21, H⟩ := guard_t H
                refine WI.step rfl rfl rfl rfl (St.index_arr tok [] rfl rfl rfl rfl inf9 rfl rfl hl_17 hg_21) ?_
                rintro _ _ ⟨rfl, rfl⟩
                refine WI.run tok 1 4 [(2, .string (mk (r_16.getD (wr .i64 (a0_1 - 10)).toNat [])))] (by kernel_rfl) rfl ?_
                refine WI.done rfl ?_
                refine QF.next ?_
                refine WC.ret ?_
                refine QF.block_ret ?_
                refine QF.then_ret ?_
                have H0 : (r_16.getD (wr .i64 (a0_1 - 10)).toNat [] : List UInt8) = r_35 := Option.some.inj H
                clear H
                subst H0
                exact QF.ret [2] [.string (mk (r_16.getD (wr .i64 (a0_1 - 10)).toNat []))] rfl rfl (by kernel_rfl) ⟨rfl, HM.bl⟩
              · replace H := cond_f hb_15 H
                refine WC.seq ?_
                refine WC.region ?_
                refine WI.run tok 3 3 [(4, .int .i64 (wr .i64 (a0_1 - 40))), (39, .bool (decide (a0_1 ≥ 40)))] (by kernel_rfl) rfl ?_
                refine WI.split 39 _ rfl (fun hb_22 => ?_) (fun hb_22 => ?_)
                · replace H := cond_t hb_22 H
                  refine WI.run tok 1 4 [(4, .int .i64 (wr .i64 (a0_1 - 40))), (39, .bool true), (40, .int .i64 (wr .i64 (a0_1 - 40)))] (by kernel_rfl) rfl ?_
                  obtain ⟨r_23, hc_25, H⟩ := bind_t H
                  obtain ⟨hl_24, H⟩ := guard_t H
                  replace hl_24 := beq_iff_eq.1 hl_24
                  refine WI.callB (token_operators.calls k_14  r_23 _  hc_25) rfl rfl rfl (by kernel_rfl) (by kernel_rfl) (fun w_27 hw_26 => ?_)
                  replace HM := HM.call hw_26
                  clear hw_26
                  refine WI.run tok 4 9 [(4, .int .i64 (wr .i64 (a0_1 - 40))), (36, .bool (decide ((wr .i64 (a0_1 - 40)) < 48)))] (by kernel_rfl) rfl ?_
                  refine WI.done rfl ?_
                  refine QF.next ?_
                  refine WC.cond rfl (fun hb_28 => ?_) (fun hb_28 => ?_)
                  · replace H := cond_t hb_28 H
                    refine WC.seq ?_
                    refine WC.region ?_
                    obtain ⟨r_29, hc_31, H⟩ := bind_t H
                    obtain ⟨hl_30, H⟩ := guard_t H
                    replace hl_30 := beq_iff_eq.1 hl_30
                    refine WI.callB (token_operators.calls k_14  r_29 _  hc_31) rfl rfl rfl (by kernel_rfl) (by kernel_rfl) (fun w_33 hw_32 => ?_)
                    replace HM := HM.call hw_32
                    clear hw_32
                    refine WI.run tok 1 2 [(45, .agg (r_29.map encS).toArray), (46, .int .i64 (wr .i64 (a0_1 - 40)))] (by kernel_rfl) rfl ?_
                    obtain ⟨hg_34, H⟩ := guard_t H
                    refine WI.step rfl rfl rfl rfl (St.index_arr tok [] rfl rfl rfl rfl inf9 rfl rfl hl_30 hg_34) ?_
                    rintro _ _ ⟨rfl, rfl⟩
                    refine WI.run tok 1 4 [(2, .string (mk (r_29.getD (wr .i64 (a0_1 - 40)).toNat [])))] (by kernel_rfl) rfl ?_
                    refine WI.done rfl ?_
                    refine QF.next ?_
                    refine WC.ret ?_
                    refine QF.block_ret ?_
                    refine QF.then_ret ?_
                    have H0 : (r_29.getD (wr .i64 (a0_1 - 40)).toNat [] : List UInt8) = r_35 := Option.some.inj H
                    clear H
                    subst H0
                    exact QF.ret [2] [.string (mk (r_29.getD (wr .i64 (a0_1 - 40)).toNat []))] rfl rfl (by kernel_rfl) ⟨rfl, HM.bl⟩
                  · replace H := cond_f hb_28 H
                    refine WC.skip ?_
                    refine QF.block_normal ?_
                    refine QF.next ?_
                    refine WC.seq ?_
                    refine WC.region ?_
                    refine WI.run tok 1 1 [(2, .string (mk []))] (by kernel_rfl) rfl ?_
                    refine WI.done rfl ?_
                    refine QF.next ?_
                    refine WC.ret ?_
                    have H0 : ([] : List UInt8) = r_35 := Option.some.inj H
                    clear H
                    subst H0
                    exact QF.ret [2] [.string (mk [])] rfl rfl (by kernel_rfl) ⟨rfl, HM.bl⟩
                · replace H := cond_f hb_22 H
                  refine WI.run tok 6 9 [(4, .int .i64 (wr .i64 (a0_1 - 40))), (36, .bool false)] (by kernel_rfl) rfl ?_
                  refine WI.done rfl ?_
                  refine QF.next ?_
                  refine WC.condF rfl ?_
                  refine WC.skip ?_
                  refine QF.block_normal ?_
                  refine QF.next ?_
                  refine WC.seq ?_
                  refine WC.region ?_
                  refine WI.run tok 1 1 [(2, .string (mk []))] (by kernel_rfl) rfl ?_
                  refine WI.done rfl ?_
                  refine QF.next ?_
                  refine WC.ret ?_
                  have H0 : ([] : List UInt8) = r_35 := Option.some.inj H
                  clear H
                  subst H0
                  exact QF.ret [2] [.string (mk [])] rfl rfl (by kernel_rfl) ⟨rfl, HM.bl⟩
/-! cavil/token.Operator -/
mutual
def token_Operator.l0 : Nat → Int → Int → Int → List UInt8 → Int → List (List UInt8) → Option (Int × Int)
  | 0, _, _, _, _, _, _ => none
  | k + 1, x4_18, x5_19, x21_20, a0_1, a1_6, r_13 => bif decide (x21_20 < 48) then (bif decide (0 ≤ x21_20) && decide (x21_20 < (r_13.length : Int)) then (bif (decide (((r_13.getD (x21_20).toNat []).length : Int) > x5_19)) && (decide (((r_13.getD (x21_20).toNat []).length : Int) ≤ ((cut a0_1 a1_6 (a0_1.length : Int)).length : Int))) then (bif decide (0 ≤ (0 : Int)) && (decide ((0 : Int) ≤ ((r_13.getD (x21_20).toNat []).length : Int)) && decide (((r_13.getD (x21_20).toNat []).length : Int) ≤ ((cut a0_1 a1_6 (a0_1.length : Int)).length : Int))) then (token_Operator.j1 k ((cut (cut a0_1 a1_6 (a0_1.length : Int)) 0 ((r_13.getD (x21_20).toNat []).length : Int)) == (r_13.getD (x21_20).toNat [])) a0_1 a1_6 r_13 x4_18 x5_19 x21_20) else none) else (token_Operator.j1 k false a0_1 a1_6 r_13 x4_18 x5_19 x21_20)) else none) else (some (x4_18, x5_19))
def token_Operator.j1 : Nat → Bool → List UInt8 → Int → List (List UInt8) → Int → Int → Int → Option (Int × Int)
  | 0, _, _, _, _, _, _, _ => none
  | k + 1, x44_24, a0_1, a1_6, r_13, x4_18, x5_19, x21_20 => bif x44_24 then (token_Operator.l0 k (wr .i64 (40 + x21_20)) ((r_13.getD (x21_20).toNat []).length : Int) (wr .i64 (x21_20 + 1)) a0_1 a1_6 r_13) else (token_Operator.l0 k x4_18 x5_19 (wr .i64 (x21_20 + 1)) a0_1 a1_6 r_13)
end
def token_Operator.f (k : Nat) (a0_1 : List UInt8) (a1_6 : Int) : Option (Int × Int) := bif (decide (a1_6 < 0)) || (decide (a1_6 ≥ (a0_1.length : Int))) then (some (0, 0)) else (bif decide (0 ≤ a1_6) && (decide (a1_6 ≤ (a0_1.length : Int)) && decide ((a0_1.length : Int) ≤ (a0_1.length : Int))) then ((token_operators.f k ).bind fun r_13 => (bif r_13.length == 48 then (token_Operator.l0 k 0 0 0 a0_1 a1_6 r_13) else none)) else none)
set_option maxRecDepth 100000 in
theorem token_Operator.calls (k : Nat) (a0_1 : List UInt8) (A_2 : Option Addr) (c_3 : Nat) (a1_6 : Int) (r_33 : Int) (r_34 : Int) (w : World) (hr_4 : Rd1 w encB A_2 a0_1) (hc_5 : a0_1.length ≤ c_3) (h : token_Operator.f k a0_1 a1_6 = some (r_33, r_34)) : Calls Try.prog 7 #[.slice A_2 a0_1.length c_3, .int .i64 a1_6] w fun e w' => e = .returned (.tuple #[.int .i64 r_33, .int .i64 r_34]) ∧ Bl w w' := by
  have H := h
  clear h
  unfold token_Operator.f at H
  have HM := Mem.refl w
  refine enter (n := 52) (args := [.slice A_2 a0_1.length c_3, .int .i64 a1_6]) Try.func7 rfl rfl rfl ?_
  refine WC.seq ?_
  refine WC.region ?_
  refine WI.run tok 2 2 [(0, .slice A_2 a0_1.length c_3), (1, .int .i64 a1_6), (4, .int .i64 0), (5, .int .i64 0)] (by kernel_rfl) rfl ?_
  refine WI.done rfl ?_
  refine QF.next ?_
  refine WC.seq ?_
  refine WC.seq ?_
  refine WC.region ?_
  refine WI.run tok 3 3 [(0, .slice A_2 a0_1.length c_3), (1, .int .i64 a1_6), (4, .int .i64 0), (5, .int .i64 0), (11, .bool (decide (a1_6 < 0)))] (by kernel_rfl) rfl ?_
  refine WI.runOr tok 11 _ rfl 5 8 16 (decide (a1_6 ≥ (a0_1.length : Int))) [(0, .slice A_2 a0_1.length c_3), (1, .int .i64 a1_6), (4, .int .i64 0), (5, .int .i64 0)] (by kernel_rfl) (by kernel_rfl) rfl ?_
  refine WI.done rfl ?_
  refine QF.next ?_
  refine WC.cond rfl (fun hb_7 => ?_) (fun hb_7 => ?_)
  · replace H := cond_t hb_7 H
    refine WC.seq ?_
    refine WC.region ?_
    refine WI.run tok 2 2 [(4, .int .i64 0), (5, .int .i64 0)] (by kernel_rfl) rfl ?_
    refine WI.done rfl ?_
    refine QF.next ?_
    refine WC.ret ?_
    refine QF.then_ret ?_
    have H0 : (0 : Int) = r_33 := congrArg (fun p => p.1) (Option.some.inj H)
    have H1 : (0 : Int) = r_34 := congrArg (fun p => p.2) (Option.some.inj H)
    clear H
    subst H0
    subst H1
    exact QF.ret [4, 5] [.int .i64 0, .int .i64 0] rfl rfl (by kernel_rfl) ⟨rfl, HM.bl⟩
  · replace H := cond_f hb_7 H
    refine WC.skip ?_
    refine QF.next ?_
    refine WC.seq ?_
    refine WC.region ?_
    refine WI.run tok 2 2 [(4, .int .i64 0), (5, .int .i64 0), (17, .slice A_2 a0_1.length c_3), (18, .int .i64 a1_6)] (by kernel_rfl) rfl ?_
    obtain ⟨hg_8, H⟩ := guard_t H
    refine WI.step rfl rfl rfl rfl (St.slice_rd tok rfl rfl inf5 rfl hr_4 hc_5 rfl rfl hg_8) ?_
    rintro _ _ ⟨A_9, c_10, rfl, hr_11, hc_12, rfl⟩
    refine WI.run tok 1 4 [(4, .int .i64 0), (5, .int .i64 0), (6, .slice A_9 (cut a0_1 a1_6 (a0_1.length : Int)).length c_10)] (by kernel_rfl) rfl ?_
    refine WI.done rfl ?_
    refine QF.next ?_
    refine WC.seq ?_
    refine WC.seq ?_
    refine WC.region ?_
    obtain ⟨r_13, hc_15, H⟩ := bind_t H
    obtain ⟨hl_14, H⟩ := guard_t H
    replace hl_14 := beq_iff_eq.1 hl_14
    refine WI.callB (token_operators.calls k  r_13 _  hc_15) rfl rfl rfl (by kernel_rfl) (by kernel_rfl) (fun w_17 hw_16 => ?_)
    replace HM := HM.call hw_16
    clear hw_16
    refine WI.run tok 1 2 [(4, .int .i64 0), (5, .int .i64 0), (6, .slice A_9 (cut a0_1 a1_6 (a0_1.length : Int)).length c_10), (20, .agg (r_13.map encS).toArray), (21, .int .i64 0)] (by kernel_rfl) rfl ?_
    refine WI.done rfl ?_
    refine QF.next ?_
    refine WC.block ?_
    refine WC.sub [(4, .int .i64 0), (5, .int .i64 0), (6, .slice A_9 (cut a0_1 a1_6 (a0_1.length : Int)).length c_10), (20, .agg (r_13.map encS).toArray), (21, .int .i64 0)] (by kernel_rfl) ?_
    refine WC.loop (fun kq fr' w' => ∃ (x4_18 : Int) (x5_19 : Int) (x21_20 : Int), fr' = [(4, .int .i64 x4_18), (5, .int .i64 x5_19), (6, .slice A_9 (cut a0_1 a1_6 (a0_1.length : Int)).length c_10), (20, .agg (r_13.map encS).toArray), (21, .int .i64 x21_20)] ∧ token_Operator.l0 kq x4_18 x5_19 x21_20 a0_1 a1_6 r_13 = some (r_33, r_34) ∧ kq ≤ k ∧ Mem w w' []) k ⟨0, 0, 0, rfl, H, Nat.le_refl _, HM⟩ ?_
    clear H HM
    rintro k_21' _ w' ⟨x4_18, x5_19, x21_20, rfl, H, HKk_21, HM⟩
    cases k_21' with
    | zero => exact none_t H
    | succ k_21 =>
    replace H := (show token_Operator.l0 (_ + 1) _ _ _ _ _ _ = _ from rfl).symm.trans H
    refine WC.seq ?_
    refine WC.region ?_
    refine WI.run tok 1 1 [(4, .int .i64 x4_18), (5, .int .i64 x5_19), (6, .slice A_9 (cut a0_1 a1_6 (a0_1.length : Int)).length c_10), (20, .agg (r_13.map encS).toArray), (21, .int .i64 x21_20), (22, .bool (decide (x21_20 < 48)))] (by kernel_rfl) rfl ?_
    refine WI.done rfl ?_
    refine QF.next ?_
    refine WC.seq ?_
    refine WC.cond rfl (fun hb_22 => ?_) (fun hb_22 => ?_)
    · replace H := cond_t hb_22 H
      refine WC.skip ?_
      refine QF.next ?_
      refine WC.seq ?_
      refine WC.block ?_
      refine WC.seq ?_
      refine WC.region ?_
      refine WI.run tok 1 1 [(4, .int .i64 x4_18), (5, .int .i64 x5_19), (6, .slice A_9 (cut a0_1 a1_6 (a0_1.length : Int)).length c_10), (20, .agg (r_13.map encS).toArray), (21, .int .i64 x21_20), (23, .int .i64 x21_20)] (by kernel_rfl) rfl ?_
      obtain ⟨hg_23, H⟩ := guard_t H
      refine WI.step rfl rfl rfl rfl (St.index_arr tok [] rfl rfl rfl rfl inf9 rfl rfl hl_14 hg_23) ?_
      rintro _ _ ⟨rfl, rfl⟩
      refine WI.run tok 2 4 [(4, .int .i64 x4_18), (5, .int .i64 x5_19), (6, .slice A_9 (cut a0_1 a1_6 (a0_1.length : Int)).length c_10), (7, .int .i64 x21_20), (8, .string (mk (r_13.getD (x21_20).toNat []))), (20, .agg (r_13.map encS).toArray), (21, .int .i64 x21_20)] (by kernel_rfl) rfl ?_
      refine WI.done rfl ?_
      refine QF.next ?_
      refine WC.cut (fun fr' w' => ∃ (kq : Nat) (x44_24 : Bool), fr' = [(4, .int .i64 x4_18), (5, .int .i64 x5_19), (6, .slice A_9 (cut a0_1 a1_6 (a0_1.length : Int)).length c_10), (7, .int .i64 x21_20), (8, .string (mk (r_13.getD (x21_20).toNat []))), (20, .agg (r_13.map encS).toArray), (21, .int .i64 x21_20), (44, .bool x44_24)] ∧ token_Operator.j1 kq x44_24 a0_1 a1_6 r_13 x4_18 x5_19 x21_20 = some (r_33, r_34) ∧ kq ≤ k_21 ∧ Mem w w' []) ?_ ?_
      · refine WC.region ?_
        refine WI.run tok 5 5 [(4, .int .i64 x4_18), (5, .int .i64 x5_19), (6, .slice A_9 (cut a0_1 a1_6 (a0_1.length : Int)).length c_10), (7, .int .i64 x21_20), (8, .string (mk (r_13.getD (x21_20).toNat []))), (20, .agg (r_13.map encS).toArray), (21, .int .i64 x21_20), (29, .bool (decide (((r_13.getD (x21_20).toNat []).length : Int) > x5_19)))] (by kernel_rfl) rfl ?_
        refine WI.runAnd tok 29 _ rfl 6 11 35 (decide (((r_13.getD (x21_20).toNat []).length : Int) ≤ ((cut a0_1 a1_6 (a0_1.length : Int)).length : Int))) [(4, .int .i64 x4_18), (5, .int .i64 x5_19), (6, .slice A_9 (cut a0_1 a1_6 (a0_1.length : Int)).length c_10), (7, .int .i64 x21_20), (8, .string (mk (r_13.getD (x21_20).toNat []))), (20, .agg (r_13.map encS).toArray), (21, .int .i64 x21_20)] (by kernel_rfl) (by kernel_rfl) rfl ?_
        refine WI.run tok 1 12 [(4, .int .i64 x4_18), (5, .int .i64 x5_19), (6, .slice A_9 (cut a0_1 a1_6 (a0_1.length : Int)).length c_10), (7, .int .i64 x21_20), (8, .string (mk (r_13.getD (x21_20).toNat []))), (20, .agg (r_13.map encS).toArray), (21, .int .i64 x21_20), (36, .bool ((decide (((r_13.getD (x21_20).toNat []).length : Int) > x5_19)) && (decide (((r_13.getD (x21_20).toNat []).length : Int) ≤ ((cut a0_1 a1_6 (a0_1.length : Int)).length : Int)))))] (by kernel_rfl) rfl ?_
        refine WI.split 36 _ rfl (fun hb_25 => ?_) (fun hb_25 => ?_)
        · replace H := cond_t hb_25 H
          refine WI.run tok 3 15 [(4, .int .i64 x4_18), (5, .int .i64 x5_19), (6, .slice A_9 (cut a0_1 a1_6 (a0_1.length : Int)).length c_10), (7, .int .i64 x21_20), (8, .string (mk (r_13.getD (x21_20).toNat []))), (20, .agg (r_13.map encS).toArray), (21, .int .i64 x21_20), (36, .bool true), (37, .slice A_9 (cut a0_1 a1_6 (a0_1.length : Int)).length c_10), (39, .int .i64 ((r_13.getD (x21_20).toNat []).length : Int))] (by kernel_rfl) rfl ?_
          obtain ⟨hg_26, H⟩ := guard_t H
          refine WI.step rfl rfl rfl rfl (St.slice_rd tok rfl rfl inf5 rfl hr_11 hc_12 rfl rfl hg_26) ?_
          rintro _ _ ⟨A_27, c_28, rfl, hr_29, hc_30, rfl⟩
          refine WI.step rfl rfl rfl rfl (St.bytes_str tok rfl rfl rfl rfl rfl (hr_29.up HM)) ?_
          rintro _ _ ⟨rfl, rfl⟩
          refine WI.run tok 3 20 [(4, .int .i64 x4_18), (5, .int .i64 x5_19), (6, .slice A_9 (cut a0_1 a1_6 (a0_1.length : Int)).length c_10), (7, .int .i64 x21_20), (8, .string (mk (r_13.getD (x21_20).toNat []))), (20, .agg (r_13.map encS).toArray), (21, .int .i64 x21_20), (44, .bool ((cut (cut a0_1 a1_6 (a0_1.length : Int)) 0 ((r_13.getD (x21_20).toNat []).length : Int)) == (r_13.getD (x21_20).toNat [])))] (by kernel_rfl) rfl ?_
          refine WI.done rfl ?_
          exact QF.meet [(4, .int .i64 x4_18), (5, .int .i64 x5_19), (6, .slice A_9 (cut a0_1 a1_6 (a0_1.length : Int)).length c_10), (7, .int .i64 x21_20), (8, .string (mk (r_13.getD (x21_20).toNat []))), (20, .agg (r_13.map encS).toArray), (21, .int .i64 x21_20), (44, .bool ((cut (cut a0_1 a1_6 (a0_1.length : Int)) 0 ((r_13.getD (x21_20).toNat []).length : Int)) == (r_13.getD (x21_20).toNat [])))] (by kernel_rfl) ⟨k_21, ((cut (cut a0_1 a1_6 (a0_1.length : Int)) 0 ((r_13.getD (x21_20).toNat []).length : Int)) == (r_13.getD (x21_20).toNat [])), rfl, H, by omega, HM⟩
        · replace H := cond_f hb_25 H
          refine WI.run tok 8 20 [(4, .int .i64 x4_18), (5, .int .i64 x5_19), (6, .slice A_9 (cut a0_1 a1_6 (a0_1.length : Int)).length c_10), (7, .int .i64 x21_20), (8, .string (mk (r_13.getD (x21_20).toNat []))), (20, .agg (r_13.map encS).toArray), (21, .int .i64 x21_20), (44, .bool false)] (by kernel_rfl) rfl ?_
          refine WI.done rfl ?_
          exact QF.meet [(4, .int .i64 x4_18), (5, .int .i64 x5_19), (6, .slice A_9 (cut a0_1 a1_6 (a0_1.length : Int)).length c_10), (7, .int .i64 x21_20), (8, .string (mk (r_13.getD (x21_20).toNat []))), (20, .agg (r_13.map encS).toArray), (21, .int .i64 x21_20), (44, .bool false)] (by kernel_rfl) ⟨k_21, false, rfl, H, by omega, HM⟩
      · clear H HM
        rintro _ w' ⟨k_31', x44_24, rfl, H, HKk_31, HM⟩
        cases k_31' with
        | zero => exact none_t H
        | succ k_31 =>
        replace H := (show token_Operator.j1 (_ + 1) _ _ _ _ _ _ _ = _ from rfl).symm.trans H
        refine WC.cond rfl (fun hb_32 => ?_) (fun hb_32 => ?_)
        · replace H := cond_t hb_32 H
          refine WC.region ?_
          refine WI.run tok 6 6 [(4, .int .i64 (wr .i64 (40 + x21_20))), (5, .int .i64 ((r_13.getD (x21_20).toNat []).length : Int)), (6, .slice A_9 (cut a0_1 a1_6 (a0_1.length : Int)).length c_10), (20, .agg (r_13.map encS).toArray), (21, .int .i64 x21_20)] (by kernel_rfl) rfl ?_
          refine WI.done rfl ?_
          refine QF.block_normal ?_
          refine QF.next ?_
          refine WC.region ?_
          refine WI.run tok 2 2 [(4, .int .i64 (wr .i64 (40 + x21_20))), (5, .int .i64 ((r_13.getD (x21_20).toNat []).length : Int)), (6, .slice A_9 (cut a0_1 a1_6 (a0_1.length : Int)).length c_10), (20, .agg (r_13.map encS).toArray), (21, .int .i64 (wr .i64 (x21_20 + 1)))] (by kernel_rfl) rfl ?_
          refine WI.done rfl ?_
          exact QF.again k_31 (by omega) [(4, .int .i64 (wr .i64 (40 + x21_20))), (5, .int .i64 ((r_13.getD (x21_20).toNat []).length : Int)), (6, .slice A_9 (cut a0_1 a1_6 (a0_1.length : Int)).length c_10), (20, .agg (r_13.map encS).toArray), (21, .int .i64 (wr .i64 (x21_20 + 1)))] (by kernel_rfl) ⟨(wr .i64 (40 + x21_20)), ((r_13.getD (x21_20).toNat []).length : Int), (wr .i64 (x21_20 + 1)), rfl, H, by omega, HM⟩
        · replace H := cond_f hb_32 H
          refine WC.skip ?_
          refine QF.block_normal ?_
          refine QF.next ?_
          refine WC.region ?_
          refine WI.run tok 2 2 [(4, .int .i64 x4_18), (5, .int .i64 x5_19), (6, .slice A_9 (cut a0_1 a1_6 (a0_1.length : Int)).length c_10), (20, .agg (r_13.map encS).toArray), (21, .int .i64 (wr .i64 (x21_20 + 1)))] (by kernel_rfl) rfl ?_
          refine WI.done rfl ?_
          exact QF.again k_31 (by omega) [(4, .int .i64 x4_18), (5, .int .i64 x5_19), (6, .slice A_9 (cut a0_1 a1_6 (a0_1.length : Int)).length c_10), (20, .agg (r_13.map encS).toArray), (21, .int .i64 (wr .i64 (x21_20 + 1)))] (by kernel_rfl) ⟨x4_18, x5_19, (wr .i64 (x21_20 + 1)), rfl, H, by omega, HM⟩
    · replace H := cond_f hb_22 H
      refine WC.exit ?_
      refine QF.then_exit ?_
      refine QF.then_exit ?_
      refine QF.block_here ?_
      refine QF.next ?_
      refine WC.seq ?_
      refine WC.region ?_
      refine WI.run tok 4 4 [(4, .int .i64 x4_18), (5, .int .i64 x5_19)] (by kernel_rfl) rfl ?_
      refine WI.done rfl ?_
      refine QF.next ?_
      refine WC.ret ?_
      have H0 : (x4_18 : Int) = r_33 := congrArg (fun p => p.1) (Option.some.inj H)
      have H1 : (x5_19 : Int) = r_34 := congrArg (fun p => p.2) (Option.some.inj H)
      clear H
      subst H0
      subst H1
      exact QF.ret [4, 5] [.int .i64 x4_18, .int .i64 x5_19] rfl rfl (by kernel_rfl) ⟨rfl, HM.bl⟩
/-! cavil/cavilref06.Operator -/
mutual
def cavilref06_Operator.l0 : Nat → Int → List UInt8 → Int → Option (Int × Int)
  | 0, _, _, _ => none
  | k + 1, x6_8, a0_1, a1_6 => bif decide (x6_8 ≥ 1) then (bif decide (x6_8 > (wr .i64 ((a0_1.length : Int) - a1_6))) then (cavilref06_Operator.l0 k (wr .i64 (x6_8 - 1)) a0_1 a1_6) else (cavilref06_Operator.l1 k 40 a0_1 a1_6 x6_8)) else (some (0, 0))
def cavilref06_Operator.l1 : Nat → Int → List UInt8 → Int → Int → Option (Int × Int)
  | 0, _, _, _, _ => none
  | k + 1, x7_12, a0_1, a1_6, x6_8 => bif decide (x7_12 < 88) then ((cavilref06_Spell.f k x7_12).bind fun r_15 => (bif decide (0 ≤ a1_6) && (decide (a1_6 ≤ (wr .i64 (a1_6 + x6_8))) && decide ((wr .i64 (a1_6 + x6_8)) ≤ (a0_1.length : Int))) then (bif r_15 == (cut a0_1 a1_6 (wr .i64 (a1_6 + x6_8))) then (some (x7_12, x6_8)) else (cavilref06_Operator.l1 k (wr .i64 (x7_12 + 1)) a0_1 a1_6 x6_8)) else none)) else (cavilref06_Operator.l0 k (wr .i64 (x6_8 - 1)) a0_1 a1_6)
end
def cavilref06_Operator.f (k : Nat) (a0_1 : List UInt8) (a1_6 : Int) : Option (Int × Int) := bif (decide (a1_6 < 0)) || (decide (a1_6 ≥ (a0_1.length : Int))) then (some (0, 0)) else (cavilref06_Operator.l0 k 3 a0_1 a1_6)
set_option maxRecDepth 100000 in
theorem cavilref06_Operator.calls (k : Nat) (a0_1 : List UInt8) (A_2 : Option Addr) (c_3 : Nat) (a1_6 : Int) (r_24 : Int) (r_25 : Int) (w : World) (hr_4 : Rd1 w encB A_2 a0_1) (hc_5 : a0_1.length ≤ c_3) (h : cavilref06_Operator.f k a0_1 a1_6 = some (r_24, r_25)) : Calls Try.prog 8 #[.slice A_2 a0_1.length c_3, .int .i64 a1_6] w fun e w' => e = .returned (.tuple #[.int .i64 r_24, .int .i64 r_25]) ∧ Bl w w' := by
  have H := h
  clear h
  unfold cavilref06_Operator.f at H
  have HM := Mem.refl w
  refine enter (n := 42) (args := [.slice A_2 a0_1.length c_3, .int .i64 a1_6]) Try.func8 rfl rfl rfl ?_
  refine WC.seq ?_
  refine WC.region ?_
  refine WI.run tok 2 2 [(0, .slice A_2 a0_1.length c_3), (1, .int .i64 a1_6)] (by kernel_rfl) rfl ?_
  refine WI.done rfl ?_
  refine QF.next ?_
  refine WC.seq ?_
  refine WC.seq ?_
  refine WC.region ?_
  refine WI.run tok 3 3 [(0, .slice A_2 a0_1.length c_3), (1, .int .i64 a1_6), (10, .bool (decide (a1_6 < 0)))] (by kernel_rfl) rfl ?_
  refine WI.runOr tok 10 _ rfl 5 8 15 (decide (a1_6 ≥ (a0_1.length : Int))) [(0, .slice A_2 a0_1.length c_3), (1, .int .i64 a1_6)] (by kernel_rfl) (by kernel_rfl) rfl ?_
  refine WI.done rfl ?_
  refine QF.next ?_
  refine WC.cond rfl (fun hb_7 => ?_) (fun hb_7 => ?_)
  · replace H := cond_t hb_7 H
    refine WC.seq ?_
    refine WC.region ?_
    refine WI.run tok 2 2 [(4, .int .i64 0), (5, .int .i64 0)] (by kernel_rfl) rfl ?_
    refine WI.done rfl ?_
    refine QF.next ?_
    refine WC.ret ?_
    refine QF.then_ret ?_
    have H0 : (0 : Int) = r_24 := congrArg (fun p => p.1) (Option.some.inj H)
    have H1 : (0 : Int) = r_25 := congrArg (fun p => p.2) (Option.some.inj H)
    clear H
    subst H0
    subst H1
    exact QF.ret [4, 5] [.int .i64 0, .int .i64 0] rfl rfl (by kernel_rfl) ⟨rfl, HM.bl⟩
  · replace H := cond_f hb_7 H
    refine WC.skip ?_
    refine QF.next ?_
    refine WC.seq ?_
    refine WC.seq ?_
    refine WC.region ?_
    refine WI.run tok 1 1 [(0, .slice A_2 a0_1.length c_3), (1, .int .i64 a1_6), (6, .int .i64 3)] (by kernel_rfl) rfl ?_
    refine WI.done rfl ?_
    refine QF.next ?_
    refine WC.block ?_
    refine WC.sub [(0, .slice A_2 a0_1.length c_3), (1, .int .i64 a1_6), (6, .int .i64 3)] (by kernel_rfl) ?_
    refine WC.loop (fun kq fr' w' => ∃ (x6_8 : Int), fr' = [(0, .slice A_2 a0_1.length c_3), (1, .int .i64 a1_6), (6, .int .i64 x6_8)] ∧ cavilref06_Operator.l0 kq x6_8 a0_1 a1_6 = some (r_24, r_25) ∧ kq ≤ k ∧ Mem w w' []) k ⟨3, rfl, H, Nat.le_refl _, HM⟩ ?_
    clear H HM
    rintro k_9' _ w' ⟨x6_8, rfl, H, HKk_9, HM⟩
    cases k_9' with
    | zero => exact none_t H
    | succ k_9 =>
    replace H := (show cavilref06_Operator.l0 (_ + 1) _ _ _ = _ from rfl).symm.trans H
    refine WC.seq ?_
    refine WC.seq ?_
    refine WC.region ?_
    refine WI.run tok 2 2 [(0, .slice A_2 a0_1.length c_3), (1, .int .i64 a1_6), (6, .int .i64 x6_8), (17, .bool (decide (x6_8 ≥ 1)))] (by kernel_rfl) rfl ?_
    refine WI.done rfl ?_
    refine QF.next ?_
    refine WC.cond rfl (fun hb_10 => ?_) (fun hb_10 => ?_)
    · replace H := cond_t hb_10 H
      refine WC.skip ?_
      refine QF.next ?_
      refine WC.seq ?_
      refine WC.block ?_
      refine WC.seq ?_
      refine WC.seq ?_
      refine WC.region ?_
      refine WI.run tok 6 6 [(0, .slice A_2 a0_1.length c_3), (1, .int .i64 a1_6), (6, .int .i64 x6_8), (25, .bool (decide (x6_8 > (wr .i64 ((a0_1.length : Int) - a1_6)))))] (by kernel_rfl) rfl ?_
      refine WI.done rfl ?_
      refine QF.next ?_
      refine WC.cond rfl (fun hb_11 => ?_) (fun hb_11 => ?_)
      · replace H := cond_t hb_11 H
        refine WC.exit ?_
        refine QF.then_exit ?_
        refine QF.block_here ?_
        refine QF.next ?_
        refine WC.region ?_
        refine WI.run tok 3 3 [(0, .slice A_2 a0_1.length c_3), (1, .int .i64 a1_6), (6, .int .i64 (wr .i64 (x6_8 - 1)))] (by kernel_rfl) rfl ?_
        refine WI.done rfl ?_
        exact QF.again k_9 (by omega) [(0, .slice A_2 a0_1.length c_3), (1, .int .i64 a1_6), (6, .int .i64 (wr .i64 (x6_8 - 1)))] (by kernel_rfl) ⟨(wr .i64 (x6_8 - 1)), rfl, H, by omega, HM⟩
      · replace H := cond_f hb_11 H
        refine WC.skip ?_
        refine QF.next ?_
        refine WC.seq ?_
        refine WC.region ?_
        refine WI.run tok 1 1 [(0, .slice A_2 a0_1.length c_3), (1, .int .i64 a1_6), (6, .int .i64 x6_8), (7, .int .i64 40)] (by kernel_rfl) rfl ?_
        refine WI.done rfl ?_
        refine QF.next ?_
        refine WC.block ?_
        refine WC.sub [(0, .slice A_2 a0_1.length c_3), (1, .int .i64 a1_6), (6, .int .i64 x6_8), (7, .int .i64 40)] (by kernel_rfl) ?_
        refine WC.loop (fun kq fr' w' => ∃ (x7_12 : Int), fr' = [(0, .slice A_2 a0_1.length c_3), (1, .int .i64 a1_6), (6, .int .i64 x6_8), (7, .int .i64 x7_12)] ∧ cavilref06_Operator.l1 kq x7_12 a0_1 a1_6 x6_8 = some (r_24, r_25) ∧ kq ≤ k_9 ∧ Mem w w' []) k_9 ⟨40, rfl, H, Nat.le_refl _, HM⟩ ?_
        clear H HM
        rintro k_13' _ w' ⟨x7_12, rfl, H, HKk_13, HM⟩
        cases k_13' with
        | zero => exact none_t H
        | succ k_13 =>
        replace H := (show cavilref06_Operator.l1 (_ + 1) _ _ _ _ = _ from rfl).symm.trans H
        refine WC.seq ?_
        refine WC.seq ?_
        refine WC.region ?_
        refine WI.run tok 2 2 [(0, .slice A_2 a0_1.length c_3), (1, .int .i64 a1_6), (6, .int .i64 x6_8), (7, .int .i64 x7_12), (27, .bool (decide (x7_12 < 88)))] (by kernel_rfl) rfl ?_
        refine WI.done rfl ?_
        refine QF.next ?_
        refine WC.cond rfl (fun hb_14 => ?_) (fun hb_14 => ?_)
        · replace H := cond_t hb_14 H
          refine WC.skip ?_
          refine QF.next ?_
          refine WC.seq ?_
          refine WC.block ?_
          refine WC.seq ?_
          obtain ⟨r_15, hc_16, H⟩ := bind_t H
          obtain ⟨hg_17, H⟩ := guard_t H
          obtain ⟨A_18, c_19, he_22, hr_20, hc_21⟩ := slice_known hr_4 hc_5 hg_17
          refine WC.drawM (by kernel_rfl) tok HM (by kernel_rfl) [.int .i64 x7_12, .string (mk r_15), .slice A_2 a0_1.length c_3, .int .i64 a1_6, .int .i64 a1_6, .int .i64 x6_8, .int .i64 (wr .i64 (a1_6 + x6_8)), .slice A_18 (cut a0_1 a1_6 (wr .i64 (a1_6 + x6_8))).length c_19, .string (mk (cut a0_1 a1_6 (wr .i64 (a1_6 + x6_8)))), .bool (r_15 == (cut a0_1 a1_6 (wr .i64 (a1_6 + x6_8))))] [1, 7, 8] (by kernel_rfl) ⟨fun w' HM => ⟨_, rfl, by kernel_rfl, St.sub [(30, .int .i64 x7_12)] (by kernel_rfl) ((St.callB (cavilref06_Spell.calls k_13 x7_12 r_15 w'  hc_16) (by kernel_rfl) rfl).mono fun _ _ ⟨hu, hb⟩ => ⟨hu, HM.call hb⟩)⟩, fun w' HM => ⟨_, rfl, by kernel_rfl, St.sub [(32, .slice A_2 a0_1.length c_3), (33, .int .i64 a1_6), (36, .int .i64 (wr .i64 (a1_6 + x6_8)))] (by kernel_rfl) ((St.slice_rdK tok rfl rfl inf5 rfl hc_5 rfl rfl hg_17 he_22).mono fun _ _ ⟨hu, hw⟩ => ⟨hu, hw ▸ HM⟩)⟩, fun w' HM => ⟨_, rfl, by kernel_rfl, St.sub [(37, .slice A_18 (cut a0_1 a1_6 (wr .i64 (a1_6 + x6_8))).length c_19)] (by kernel_rfl) ((St.bytes_str tok rfl rfl rfl rfl rfl (hr_20.up HM)).mono fun _ _ ⟨hu, hw⟩ => ⟨hu, hw ▸ HM⟩)⟩, trivial⟩ ?_
          clear HM
          intro w' HM
          refine QF.sub [(0, .slice A_2 a0_1.length c_3), (1, .int .i64 a1_6), (6, .int .i64 x6_8), (7, .int .i64 x7_12), (39, .bool (r_15 == (cut a0_1 a1_6 (wr .i64 (a1_6 + x6_8)))))] (by kernel_rfl) ?_
          refine QF.next ?_
          refine WC.cond rfl (fun hb_23 => ?_) (fun hb_23 => ?_)
          · replace H := cond_t hb_23 H
            refine WC.seq ?_
            refine WC.region ?_
            refine WI.run tok 4 4 [(4, .int .i64 x7_12), (5, .int .i64 x6_8)] (by kernel_rfl) rfl ?_
            refine WI.done rfl ?_
            refine QF.next ?_
            refine WC.ret ?_
            refine QF.block_ret ?_
            refine QF.then_ret ?_
            refine QF.then_ret ?_
            refine QF.block_ret ?_
            refine QF.block_ret ?_
            refine QF.then_ret ?_
            refine QF.then_ret ?_
            refine QF.block_ret ?_
            refine QF.then_ret ?_
            have H0 : (x7_12 : Int) = r_24 := congrArg (fun p => p.1) (Option.some.inj H)
            have H1 : (x6_8 : Int) = r_25 := congrArg (fun p => p.2) (Option.some.inj H)
            clear H
            subst H0
            subst H1
            exact QF.ret [4, 5] [.int .i64 x7_12, .int .i64 x6_8] rfl rfl (by kernel_rfl) ⟨rfl, HM.bl⟩
          · replace H := cond_f hb_23 H
            refine WC.skip ?_
            refine QF.block_normal ?_
            refine QF.next ?_
            refine WC.region ?_
            refine WI.run tok 3 3 [(0, .slice A_2 a0_1.length c_3), (1, .int .i64 a1_6), (6, .int .i64 x6_8), (7, .int .i64 (wr .i64 (x7_12 + 1)))] (by kernel_rfl) rfl ?_
            refine WI.done rfl ?_
            exact QF.again k_13 (by omega) [(0, .slice A_2 a0_1.length c_3), (1, .int .i64 a1_6), (6, .int .i64 x6_8), (7, .int .i64 (wr .i64 (x7_12 + 1)))] (by kernel_rfl) ⟨(wr .i64 (x7_12 + 1)), rfl, H, by omega, HM⟩
        · replace H := cond_f hb_14 H
          refine WC.exit ?_
          refine QF.then_exit ?_
          refine QF.then_exit ?_
          refine QF.block_here ?_
          refine QF.block_normal ?_
          refine QF.next ?_
          refine WC.region ?_
          refine WI.run tok 3 3 [(0, .slice A_2 a0_1.length c_3), (1, .int .i64 a1_6), (6, .int .i64 (wr .i64 (x6_8 - 1)))] (by kernel_rfl) rfl ?_
          refine WI.done rfl ?_
          exact QF.again k_13 (by omega) [(0, .slice A_2 a0_1.length c_3), (1, .int .i64 a1_6), (6, .int .i64 (wr .i64 (x6_8 - 1)))] (by kernel_rfl) ⟨(wr .i64 (x6_8 - 1)), rfl, H, by omega, HM⟩
    · replace H := cond_f hb_10 H
      refine WC.exit ?_
      refine QF.then_exit ?_
      refine QF.then_exit ?_
      refine QF.block_here ?_
      refine QF.next ?_
      refine WC.seq ?_
      refine WC.region ?_
      refine WI.run tok 2 2 [(4, .int .i64 0), (5, .int .i64 0)] (by kernel_rfl) rfl ?_
      refine WI.done rfl ?_
      refine QF.next ?_
      refine WC.ret ?_
      have H0 : (0 : Int) = r_24 := congrArg (fun p => p.1) (Option.some.inj H)
      have H1 : (0 : Int) = r_25 := congrArg (fun p => p.2) (Option.some.inj H)
      clear H
      subst H0
      subst H1
      exact QF.ret [4, 5] [.int .i64 0, .int .i64 0] rfl rfl (by kernel_rfl) ⟨rfl, HM.bl⟩
/-! cavil/cavillaw06.works -/
def cavillaw06_works.f (k : Nat) : Option (Bool) := (token_Operator.f k ([38, 94, 61, 120] : List UInt8) 0).bind fun ⟨r_2, r_3⟩ => (bif (r_2 == 61) && (r_3 == 3) then ((token_Prec.f k 48).bind fun r_8 => (some (r_8 == 5))) else (some false))
set_option maxRecDepth 100000 in
theorem cavillaw06_works.calls (k : Nat) (r_12 : Bool) (w : World) (h : cavillaw06_works.f k  = some r_12) : Calls Try.prog 9 #[] w fun e w' => e = .returned (.bool r_12) ∧ Bl w w' := by
  have H := h
  clear h
  unfold cavillaw06_works.f at H
  have HM := Mem.refl w
  refine enter (n := 19) (args := []) Try.func9 rfl rfl rfl ?_
  refine WC.seq ?_
  refine WC.region ?_
  refine WI.run tok 1 1 [] (by kernel_rfl) rfl ?_
  refine WI.done rfl ?_
  refine QF.next ?_
  refine WC.seq ?_
  refine WC.region ?_
  refine WI.step rfl rfl rfl rfl (St.buildSlice tok HM rfl rfl inf5 rfl [.int .u8 38, .int .u8 94, .int .u8 61, .int .u8 120] rfl (([38, 94, 61, 120] : List UInt8).map encB) (by kernel_rfl) (by decide)) ?_
  clear HM
  rintro _ w' ⟨b_1, rfl, HM⟩
  refine WI.step rfl rfl rfl rfl (St.conv_bytes tok HM rfl rfl rfl (i := 0) rfl rfl [(b_1, ([38, 94, 61, 120] : List UInt8).map encB, 5, (4, 4 + 1))] rfl) ?_
  clear HM
  rintro _ w' ⟨rfl, HM⟩
  obtain ⟨⟨r_2, r_3⟩, hc_4, H⟩ := bind_t H
  refine WI.callB (token_Operator.calls k ([38, 94, 61, 120] : List UInt8) (some ⟨b_1, 0, none⟩) 4 0 r_2 r_3 _ (HM.rd1 (i := 0) rfl) (by decide) hc_4) rfl rfl rfl (by kernel_rfl) (by kernel_rfl) (fun w_6 hw_5 => ?_)
  replace HM := HM.call hw_5
  clear hw_5
  refine WI.run tok 5 8 [(1, .int .i64 r_2), (2, .int .i64 r_3)] (by kernel_rfl) rfl ?_
  refine WI.done rfl ?_
  refine QF.next ?_
  refine WC.seq ?_
  refine WC.region ?_
  refine WI.run tok 3 3 [(2, .int .i64 r_3), (11, .bool (r_2 == 61))] (by kernel_rfl) rfl ?_
  refine WI.runAnd tok 11 _ rfl 3 6 14 (r_3 == 3) [] (by kernel_rfl) (by kernel_rfl) rfl ?_
  refine WI.run tok 1 7 [(15, .bool ((r_2 == 61) && (r_3 == 3)))] (by kernel_rfl) rfl ?_
  refine WI.split 15 _ rfl (fun hb_7 => ?_) (fun hb_7 => ?_)
  · replace H := cond_t hb_7 H
    obtain ⟨r_8, hc_9, H⟩ := bind_t H
    refine WI.callB (token_Prec.calls k 48 r_8 _  hc_9) rfl rfl rfl (by kernel_rfl) (by kernel_rfl) (fun w_11 hw_10 => ?_)
    replace HM := HM.call hw_10
    clear hw_10
    refine WI.run tok 3 11 [(0, .bool (r_8 == 5))] (by kernel_rfl) rfl ?_
    refine WI.done rfl ?_
    refine QF.next ?_
    refine WC.ret ?_
    have H0 : (r_8 == 5 : Bool) = r_12 := Option.some.inj H
    clear H
    subst H0
    exact QF.ret [0] [.bool (r_8 == 5)] rfl rfl (by kernel_rfl) ⟨rfl, HM.bl⟩
  · replace H := cond_f hb_7 H
    refine WI.run tok 4 11 [(0, .bool false)] (by kernel_rfl) rfl ?_
    refine WI.done rfl ?_
    refine QF.next ?_
    refine WC.ret ?_
    have H0 : (false : Bool) = r_12 := Option.some.inj H
    clear H
    subst H0
    exact QF.ret [0] [.bool false] rfl rfl (by kernel_rfl) ⟨rfl, HM.bl⟩
/-! cavil/cavillaw06.TokenOperators -/
def cavillaw06_TokenOperators.f (k : Nat) (a0_1 : List UInt8) (a1_6 : Int) : Option (Bool) := bif decide (0 ≤ (0 : Int)) && (decide ((0 : Int) ≤ (if 100 < (a0_1.length : Int) then 100 else (a0_1.length : Int))) && decide ((if 100 < (a0_1.length : Int) then 100 else (a0_1.length : Int)) ≤ (a0_1.length : Int))) then ((token_Operator.f k (cut a0_1 0 (if 100 < (a0_1.length : Int) then 100 else (a0_1.length : Int))) a1_6).bind fun ⟨r_12, r_13⟩ => ((cavilref06_Operator.f k (cut a0_1 0 (if 100 < (a0_1.length : Int) then 100 else (a0_1.length : Int))) a1_6).bind fun ⟨r_17, r_18⟩ => (bif (r_12 == r_17) && (r_13 == r_18) then ((cavillaw06_works.f k ).bind fun r_23 => (some r_23)) else (some false)))) else none
set_option maxRecDepth 100000 in
theorem cavillaw06_TokenOperators.calls (k : Nat) (a0_1 : List UInt8) (A_2 : Option Addr) (c_3 : Nat) (a1_6 : Int) (r_27 : Bool) (w : World) (hr_4 : Rd1 w encB A_2 a0_1) (hc_5 : a0_1.length ≤ c_3) (h : cavillaw06_TokenOperators.f k a0_1 a1_6 = some r_27) : Calls Try.prog 3 #[.slice A_2 a0_1.length c_3, .int .i64 a1_6] w fun e w' => e = .returned (.bool r_27) ∧ Bl w w' := by
  have H := h
  clear h
  unfold cavillaw06_TokenOperators.f at H
  have HM := Mem.refl w
  refine enter (n := 37) (args := [.slice A_2 a0_1.length c_3, .int .i64 a1_6]) Try.func3 rfl rfl rfl ?_
  refine WC.seq ?_
  refine WC.region ?_
  refine WI.run tok 1 1 [(0, .slice A_2 a0_1.length c_3), (1, .int .i64 a1_6)] (by kernel_rfl) rfl ?_
  refine WI.done rfl ?_
  refine QF.next ?_
  refine WC.seq ?_
  refine WC.region ?_
  refine WI.run tok 4 4 [(1, .int .i64 a1_6), (9, .slice A_2 a0_1.length c_3), (12, .int .i64 (if 100 < (a0_1.length : Int) then 100 else (a0_1.length : Int)))] (by kernel_rfl) rfl ?_
  obtain ⟨hg_7, H⟩ := guard_t H
  refine WI.step rfl rfl rfl rfl (St.slice_rd tok rfl rfl inf5 rfl hr_4 hc_5 rfl rfl hg_7) ?_
  rintro _ _ ⟨A_8, c_9, rfl, hr_10, hc_11, rfl⟩
  refine WI.run tok 1 6 [(0, .slice A_8 (cut a0_1 0 (if 100 < (a0_1.length : Int) then 100 else (a0_1.length : Int))).length c_9), (1, .int .i64 a1_6)] (by kernel_rfl) rfl ?_
  refine WI.done rfl ?_
  refine QF.next ?_
  refine WC.seq ?_
  refine WC.region ?_
  refine WI.run tok 2 2 [(0, .slice A_8 (cut a0_1 0 (if 100 < (a0_1.length : Int) then 100 else (a0_1.length : Int))).length c_9), (1, .int .i64 a1_6), (15, .slice A_8 (cut a0_1 0 (if 100 < (a0_1.length : Int) then 100 else (a0_1.length : Int))).length c_9), (16, .int .i64 a1_6)] (by kernel_rfl) rfl ?_
  obtain ⟨⟨r_12, r_13⟩, hc_14, H⟩ := bind_t H
  refine WI.callB (token_Operator.calls k (cut a0_1 0 (if 100 < (a0_1.length : Int) then 100 else (a0_1.length : Int))) A_8 c_9 a1_6 r_12 r_13 _ (hr_10.up HM) hc_11 hc_14) rfl rfl rfl (by kernel_rfl) (by kernel_rfl) (fun w_16 hw_15 => ?_)
  replace HM := HM.call hw_15
  clear hw_15
  refine WI.run tok 5 8 [(0, .slice A_8 (cut a0_1 0 (if 100 < (a0_1.length : Int) then 100 else (a0_1.length : Int))).length c_9), (1, .int .i64 a1_6), (5, .int .i64 r_12), (6, .int .i64 r_13)] (by kernel_rfl) rfl ?_
  refine WI.done rfl ?_
  refine QF.next ?_
  refine WC.seq ?_
  refine WC.region ?_
  refine WI.run tok 2 2 [(5, .int .i64 r_12), (6, .int .i64 r_13), (21, .slice A_8 (cut a0_1 0 (if 100 < (a0_1.length : Int) then 100 else (a0_1.length : Int))).length c_9), (22, .int .i64 a1_6)] (by kernel_rfl) rfl ?_
  obtain ⟨⟨r_17, r_18⟩, hc_19, H⟩ := bind_t H
  refine WI.callB (cavilref06_Operator.calls k (cut a0_1 0 (if 100 < (a0_1.length : Int) then 100 else (a0_1.length : Int))) A_8 c_9 a1_6 r_17 r_18 _ (hr_10.up HM) hc_11 hc_19) rfl rfl rfl (by kernel_rfl) (by kernel_rfl) (fun w_21 hw_20 => ?_)
  replace HM := HM.call hw_20
  clear hw_20
  refine WI.run tok 5 8 [(5, .int .i64 r_12), (6, .int .i64 r_13), (7, .int .i64 r_17), (8, .int .i64 r_18)] (by kernel_rfl) rfl ?_
  refine WI.done rfl ?_
  refine QF.next ?_
  refine WC.seq ?_
  refine WC.region ?_
  refine WI.run tok 4 4 [(6, .int .i64 r_13), (8, .int .i64 r_18), (29, .bool (r_12 == r_17))] (by kernel_rfl) rfl ?_
  refine WI.runAnd tok 29 _ rfl 4 8 33 (r_13 == r_18) [] (by kernel_rfl) (by kernel_rfl) rfl ?_
  refine WI.run tok 1 9 [(34, .bool ((r_12 == r_17) && (r_13 == r_18)))] (by kernel_rfl) rfl ?_
  refine WI.split 34 _ rfl (fun hb_22 => ?_) (fun hb_22 => ?_)
  · replace H := cond_t hb_22 H
    obtain ⟨r_23, hc_24, H⟩ := bind_t H
    refine WI.callB (cavillaw06_works.calls k  r_23 _  hc_24) rfl rfl rfl (by kernel_rfl) (by kernel_rfl) (fun w_26 hw_25 => ?_)
    replace HM := HM.call hw_25
    clear hw_25
    refine WI.run tok 2 12 [(4, .bool r_23)] (by kernel_rfl) rfl ?_
    refine WI.done rfl ?_
    refine QF.next ?_
    refine WC.ret ?_
    have H0 : (r_23 : Bool) = r_27 := Option.some.inj H
    clear H
    subst H0
    exact QF.ret [4] [.bool r_23] rfl rfl (by kernel_rfl) ⟨rfl, HM.bl⟩
  · replace H := cond_f hb_22 H
    refine WI.run tok 3 12 [(4, .bool false)] (by kernel_rfl) rfl ?_
    refine WI.done rfl ?_
    refine QF.next ?_
    refine WC.ret ?_
    have H0 : (false : Bool) = r_27 := Option.some.inj H
    clear H
    subst H0
    exact QF.ret [4] [.bool false] rfl rfl (by kernel_rfl) ⟨rfl, HM.bl⟩
/-! cavil/cavillaw06.TokenLongest -/
mutual
def cavillaw06_TokenLongest.j0 : Nat → List UInt8 → Int → Int → Option (Bool)
  | 0, _, _, _ => none
  | k + 1, a0_1, a1_6, r_13 => cavillaw06_TokenLongest.l1 k (wr .i64 (r_13 + 1)) a0_1 a1_6
def cavillaw06_TokenLongest.l1 : Nat → Int → List UInt8 → Int → Option (Bool)
  | 0, _, _, _ => none
  | k + 1, x7_34, a0_1, a1_6 => bif (decide (x7_34 ≤ 3)) && (decide ((wr .i64 ((wr .i64 a1_6) + x7_34)) ≤ ((cut a0_1 0 (if 100 < (a0_1.length : Int) then 100 else (a0_1.length : Int))).length : Int))) then (cavillaw06_TokenLongest.l2 k 40 a0_1 a1_6 x7_34) else ((cavillaw06_works.f k ).bind fun r_49 => (some r_49))
def cavillaw06_TokenLongest.l2 : Nat → Int → List UInt8 → Int → Int → Option (Bool)
  | 0, _, _, _, _ => none
  | k + 1, x8_37, a0_1, a1_6, x7_34 => bif decide (x8_37 < 88) then ((token_Spell.f k x8_37).bind fun r_40 => (bif decide (0 ≤ a1_6) && (decide (a1_6 ≤ (wr .i64 ((wr .i64 a1_6) + x7_34))) && decide ((wr .i64 ((wr .i64 a1_6) + x7_34)) ≤ ((cut a0_1 0 (if 100 < (a0_1.length : Int) then 100 else (a0_1.length : Int))).length : Int))) then (bif r_40 == (cut (cut a0_1 0 (if 100 < (a0_1.length : Int) then 100 else (a0_1.length : Int))) a1_6 (wr .i64 ((wr .i64 a1_6) + x7_34))) then (some false) else (cavillaw06_TokenLongest.l2 k (wr .i64 (x8_37 + 1)) a0_1 a1_6 x7_34)) else none)) else (cavillaw06_TokenLongest.l1 k (wr .i64 (x7_34 + 1)) a0_1 a1_6)
end
def cavillaw06_TokenLongest.f (k : Nat) (a0_1 : List UInt8) (a1_6 : Int) : Option (Bool) := bif decide (0 ≤ (0 : Int)) && (decide ((0 : Int) ≤ (if 100 < (a0_1.length : Int) then 100 else (a0_1.length : Int))) && decide ((if 100 < (a0_1.length : Int) then 100 else (a0_1.length : Int)) ≤ (a0_1.length : Int))) then ((token_Operator.f k (cut a0_1 0 (if 100 < (a0_1.length : Int) then 100 else (a0_1.length : Int))) (wr .i64 a1_6)).bind fun ⟨r_12, r_13⟩ => (bif r_12 == 0 then (bif r_13 == 0 then ((cavillaw06_works.f k ).bind fun r_19 => (some r_19)) else (some false)) else (bif decide ((wr .i64 ((wr .i64 a1_6) + r_13)) > ((cut a0_1 0 (if 100 < (a0_1.length : Int) then 100 else (a0_1.length : Int))).length : Int)) then (some false) else (bif decide (0 ≤ a1_6) && (decide (a1_6 ≤ (wr .i64 ((wr .i64 a1_6) + r_13))) && decide ((wr .i64 ((wr .i64 a1_6) + r_13)) ≤ ((cut a0_1 0 (if 100 < (a0_1.length : Int) then 100 else (a0_1.length : Int))).length : Int))) then ((token_Spell.f k r_12).bind fun r_30 => (bif !((cut (cut a0_1 0 (if 100 < (a0_1.length : Int) then 100 else (a0_1.length : Int))) a1_6 (wr .i64 ((wr .i64 a1_6) + r_13))) == r_30) then (some false) else (cavillaw06_TokenLongest.j0 k a0_1 a1_6 r_13))) else none)))) else none
set_option maxRecDepth 100000 in
theorem cavillaw06_TokenLongest.calls (k : Nat) (a0_1 : List UInt8) (A_2 : Option Addr) (c_3 : Nat) (a1_6 : Int) (r_53 : Bool) (w : World) (hr_4 : Rd1 w encB A_2 a0_1) (hc_5 : a0_1.length ≤ c_3) (h : cavillaw06_TokenLongest.f k a0_1 a1_6 = some r_53) : Calls Try.prog 4 #[.slice A_2 a0_1.length c_3, .int .u8 a1_6] w fun e w' => e = .returned (.bool r_53) ∧ Bl w w' := by
  have H := h
  clear h
  unfold cavillaw06_TokenLongest.f at H
  have HM := Mem.refl w
  refine enter (n := 79) (args := [.slice A_2 a0_1.length c_3, .int .u8 a1_6]) Try.func4 rfl rfl rfl ?_
  refine WC.seq ?_
  refine WC.region ?_
  refine WI.run tok 1 1 [(0, .slice A_2 a0_1.length c_3), (1, .int .u8 a1_6)] (by kernel_rfl) rfl ?_
  refine WI.done rfl ?_
  refine QF.next ?_
  refine WC.seq ?_
  refine WC.region ?_
  refine WI.run tok 4 4 [(1, .int .u8 a1_6), (9, .slice A_2 a0_1.length c_3), (12, .int .i64 (if 100 < (a0_1.length : Int) then 100 else (a0_1.length : Int)))] (by kernel_rfl) rfl ?_
  obtain ⟨hg_7, H⟩ := guard_t H
  refine WI.step rfl rfl rfl rfl (St.slice_rd tok rfl rfl inf5 rfl hr_4 hc_5 rfl rfl hg_7) ?_
  rintro _ _ ⟨A_8, c_9, rfl, hr_10, hc_11, rfl⟩
  refine WI.run tok 1 6 [(0, .slice A_8 (cut a0_1 0 (if 100 < (a0_1.length : Int) then 100 else (a0_1.length : Int))).length c_9), (1, .int .u8 a1_6)] (by kernel_rfl) rfl ?_
  refine WI.done rfl ?_
  refine QF.next ?_
  refine WC.seq ?_
  refine WC.region ?_
  refine WI.run tok 3 3 [(0, .slice A_8 (cut a0_1 0 (if 100 < (a0_1.length : Int) then 100 else (a0_1.length : Int))).length c_9), (1, .int .u8 a1_6), (15, .slice A_8 (cut a0_1 0 (if 100 < (a0_1.length : Int) then 100 else (a0_1.length : Int))).length c_9), (17, .int .i64 (wr .i64 a1_6))] (by kernel_rfl) rfl ?_
  obtain ⟨⟨r_12, r_13⟩, hc_14, H⟩ := bind_t H
  refine WI.callB (token_Operator.calls k (cut a0_1 0 (if 100 < (a0_1.length : Int) then 100 else (a0_1.length : Int))) A_8 c_9 (wr .i64 a1_6) r_12 r_13 _ (hr_10.up HM) hc_11 hc_14) rfl rfl rfl (by kernel_rfl) (by kernel_rfl) (fun w_16 hw_15 => ?_)
  replace HM := HM.call hw_15
  clear hw_15
  refine WI.run tok 5 9 [(0, .slice A_8 (cut a0_1 0 (if 100 < (a0_1.length : Int) then 100 else (a0_1.length : Int))).length c_9), (1, .int .u8 a1_6), (5, .int .i64 r_12), (6, .int .i64 r_13)] (by kernel_rfl) rfl ?_
  refine WI.done rfl ?_
  refine QF.next ?_
  refine WC.seq ?_
  refine WC.seq ?_
  refine WC.region ?_
  refine WI.run tok 2 2 [(0, .slice A_8 (cut a0_1 0 (if 100 < (a0_1.length : Int) then 100 else (a0_1.length : Int))).length c_9), (1, .int .u8 a1_6), (5, .int .i64 r_12), (6, .int .i64 r_13), (22, .bool (r_12 == 0))] (by kernel_rfl) rfl ?_
  refine WI.done rfl ?_
  refine QF.next ?_
  refine WC.cond rfl (fun hb_17 => ?_) (fun hb_17 => ?_)
  · replace H := cond_t hb_17 H
    refine WC.seq ?_
    refine WC.region ?_
    refine WI.run tok 3 3 [(25, .bool (r_13 == 0))] (by kernel_rfl) rfl ?_
    refine WI.split 25 _ rfl (fun hb_18 => ?_) (fun hb_18 => ?_)
    · replace H := cond_t hb_18 H
      obtain ⟨r_19, hc_20, H⟩ := bind_t H
      refine WI.callB (cavillaw06_works.calls k  r_19 _  hc_20) rfl rfl rfl (by kernel_rfl) (by kernel_rfl) (fun w_22 hw_21 => ?_)
      replace HM := HM.call hw_21
      clear hw_21
      refine WI.run tok 2 6 [(4, .bool r_19)] (by kernel_rfl) rfl ?_
      refine WI.done rfl ?_
      refine QF.next ?_
      refine WC.ret ?_
      refine QF.then_ret ?_
      have H0 : (r_19 : Bool) = r_53 := Option.some.inj H
      clear H
      subst H0
      exact QF.ret [4] [.bool r_19] rfl rfl (by kernel_rfl) ⟨rfl, HM.bl⟩
    · replace H := cond_f hb_18 H
      refine WI.run tok 3 6 [(4, .bool false)] (by kernel_rfl) rfl ?_
      refine WI.done rfl ?_
      refine QF.next ?_
      refine WC.ret ?_
      refine QF.then_ret ?_
      have H0 : (false : Bool) = r_53 := Option.some.inj H
      clear H
      subst H0
      exact QF.ret [4] [.bool false] rfl rfl (by kernel_rfl) ⟨rfl, HM.bl⟩
  · replace H := cond_f hb_17 H
    refine WC.skip ?_
    refine QF.next ?_
    refine WC.cut (fun fr' w' => ∃ (kq : Nat), fr' = [(0, .slice A_8 (cut a0_1 0 (if 100 < (a0_1.length : Int) then 100 else (a0_1.length : Int))).length c_9), (1, .int .u8 a1_6), (6, .int .i64 r_13)] ∧ cavillaw06_TokenLongest.j0 kq a0_1 a1_6 r_13 = some r_53 ∧ kq ≤ k ∧ Mem w w' []) ?_ ?_
    · refine WC.seq ?_
      refine bool_split (decide ((wr .i64 ((wr .i64 a1_6) + r_13)) > ((cut a0_1 0 (if 100 < (a0_1.length : Int) then 100 else (a0_1.length : Int))).length : Int))) (fun hb_23 => ?_) (fun hb_23 => ?_)
      · replace H := cond_t hb_23 H
        refine WC.drawM (by kernel_rfl) tok HM (by kernel_rfl) [.int .u8 a1_6, .int .i64 (wr .i64 a1_6), .int .i64 r_13, .int .i64 (wr .i64 ((wr .i64 a1_6) + r_13)), .slice A_8 (cut a0_1 0 (if 100 < (a0_1.length : Int) then 100 else (a0_1.length : Int))).length c_9, .int .i64 ((cut a0_1 0 (if 100 < (a0_1.length : Int) then 100 else (a0_1.length : Int))).length : Int), .bool (decide ((wr .i64 ((wr .i64 a1_6) + r_13)) > ((cut a0_1 0 (if 100 < (a0_1.length : Int) then 100 else (a0_1.length : Int))).length : Int))), .bool true, undef, undef, undef, undef, undef, undef, undef, undef, undef, undef, undef, .bool true] [7] (by kernel_rfl) ⟨fun w' HM => ⟨_, rfl, by kernel_rfl, St.sub [(34, .bool (decide ((wr .i64 ((wr .i64 a1_6) + r_13)) > ((cut a0_1 0 (if 100 < (a0_1.length : Int) then 100 else (a0_1.length : Int))).length : Int))))] (by kernel_rfl) ((St.test tok true rfl hb_23).mono fun _ _ ⟨hu, hw⟩ => ⟨hu, hw ▸ HM⟩)⟩, trivial⟩ ?_
        clear HM
        intro w' HM
        refine QF.sub [(0, .slice A_8 (cut a0_1 0 (if 100 < (a0_1.length : Int) then 100 else (a0_1.length : Int))).length c_9), (1, .int .u8 a1_6), (6, .int .i64 r_13), (47, .bool true)] (by kernel_rfl) ?_
        refine QF.next ?_
        refine WC.condT rfl ?_
        refine WC.seq ?_
        refine WC.region ?_
        refine WI.run tok 1 1 [(4, .bool false)] (by kernel_rfl) rfl ?_
        refine WI.done rfl ?_
        refine QF.next ?_
        refine WC.ret ?_
        refine QF.then_ret ?_
        have H0 : (false : Bool) = r_53 := Option.some.inj H
        clear H
        subst H0
        exact QF.ret [4] [.bool false] rfl rfl (by kernel_rfl) ⟨rfl, HM.bl⟩
      · replace H := cond_f hb_23 H
        obtain ⟨hg_24, H⟩ := guard_t H
        obtain ⟨A_25, c_26, he_29, hr_27, hc_28⟩ := slice_known hr_10 hc_11 hg_24
        obtain ⟨r_30, hc_31, H⟩ := bind_t H
        refine WC.drawM (by kernel_rfl) tok HM (by kernel_rfl) [.int .u8 a1_6, .int .i64 (wr .i64 a1_6), .int .i64 r_13, .int .i64 (wr .i64 ((wr .i64 a1_6) + r_13)), .slice A_8 (cut a0_1 0 (if 100 < (a0_1.length : Int) then 100 else (a0_1.length : Int))).length c_9, .int .i64 ((cut a0_1 0 (if 100 < (a0_1.length : Int) then 100 else (a0_1.length : Int))).length : Int), .bool (decide ((wr .i64 ((wr .i64 a1_6) + r_13)) > ((cut a0_1 0 (if 100 < (a0_1.length : Int) then 100 else (a0_1.length : Int))).length : Int))), .bool false, .slice A_8 (cut a0_1 0 (if 100 < (a0_1.length : Int) then 100 else (a0_1.length : Int))).length c_9, .int .u8 a1_6, .int .u8 a1_6, .int .i64 (wr .i64 a1_6), .int .i64 r_13, .int .i64 (wr .i64 ((wr .i64 a1_6) + r_13)), .slice A_25 (cut (cut a0_1 0 (if 100 < (a0_1.length : Int) then 100 else (a0_1.length : Int))) a1_6 (wr .i64 ((wr .i64 a1_6) + r_13))).length c_26, .string (mk (cut (cut a0_1 0 (if 100 < (a0_1.length : Int) then 100 else (a0_1.length : Int))) a1_6 (wr .i64 ((wr .i64 a1_6) + r_13)))), .int .i64 r_12, .string (mk r_30), .bool (!((cut (cut a0_1 0 (if 100 < (a0_1.length : Int) then 100 else (a0_1.length : Int))) a1_6 (wr .i64 ((wr .i64 a1_6) + r_13))) == r_30)), .bool (!((cut (cut a0_1 0 (if 100 < (a0_1.length : Int) then 100 else (a0_1.length : Int))) a1_6 (wr .i64 ((wr .i64 a1_6) + r_13))) == r_30))] [7, 14, 15, 17] (by kernel_rfl) ⟨fun w' HM => ⟨_, rfl, by kernel_rfl, St.sub [(34, .bool (decide ((wr .i64 ((wr .i64 a1_6) + r_13)) > ((cut a0_1 0 (if 100 < (a0_1.length : Int) then 100 else (a0_1.length : Int))).length : Int))))] (by kernel_rfl) ((St.test tok false rfl hb_23).mono fun _ _ ⟨hu, hw⟩ => ⟨hu, hw ▸ HM⟩)⟩, fun w' HM => ⟨_, rfl, by kernel_rfl, St.sub [(36, .slice A_8 (cut a0_1 0 (if 100 < (a0_1.length : Int) then 100 else (a0_1.length : Int))).length c_9), (37, .int .u8 a1_6), (41, .int .i64 (wr .i64 ((wr .i64 a1_6) + r_13)))] (by kernel_rfl) ((St.slice_rdK tok rfl rfl inf5 rfl hc_11 rfl rfl hg_24 he_29).mono fun _ _ ⟨hu, hw⟩ => ⟨hu, hw ▸ HM⟩)⟩, fun w' HM => ⟨_, rfl, by kernel_rfl, St.sub [(42, .slice A_25 (cut (cut a0_1 0 (if 100 < (a0_1.length : Int) then 100 else (a0_1.length : Int))) a1_6 (wr .i64 ((wr .i64 a1_6) + r_13))).length c_26)] (by kernel_rfl) ((St.bytes_str tok rfl rfl rfl rfl rfl (hr_27.up HM)).mono fun _ _ ⟨hu, hw⟩ => ⟨hu, hw ▸ HM⟩)⟩, fun w' HM => ⟨_, rfl, by kernel_rfl, St.sub [(44, .int .i64 r_12)] (by kernel_rfl) ((St.callB (token_Spell.calls k r_12 r_30 w'  hc_31) (by kernel_rfl) rfl).mono fun _ _ ⟨hu, hb⟩ => ⟨hu, HM.call hb⟩)⟩, trivial⟩ ?_
        clear HM
        intro w' HM
        refine QF.sub [(0, .slice A_8 (cut a0_1 0 (if 100 < (a0_1.length : Int) then 100 else (a0_1.length : Int))).length c_9), (1, .int .u8 a1_6), (6, .int .i64 r_13), (47, .bool (!((cut (cut a0_1 0 (if 100 < (a0_1.length : Int) then 100 else (a0_1.length : Int))) a1_6 (wr .i64 ((wr .i64 a1_6) + r_13))) == r_30)))] (by kernel_rfl) ?_
        refine QF.next ?_
        refine WC.cond rfl (fun hb_32 => ?_) (fun hb_32 => ?_)
        · replace H := cond_t hb_32 H
          refine WC.seq ?_
          refine WC.region ?_
          refine WI.run tok 1 1 [(4, .bool false)] (by kernel_rfl) rfl ?_
          refine WI.done rfl ?_
          refine QF.next ?_
          refine WC.ret ?_
          refine QF.then_ret ?_
          have H0 : (false : Bool) = r_53 := Option.some.inj H
          clear H
          subst H0
          exact QF.ret [4] [.bool false] rfl rfl (by kernel_rfl) ⟨rfl, HM.bl⟩
        · replace H := cond_f hb_32 H
          refine WC.skip ?_
          exact QF.meet [(0, .slice A_8 (cut a0_1 0 (if 100 < (a0_1.length : Int) then 100 else (a0_1.length : Int))).length c_9), (1, .int .u8 a1_6), (6, .int .i64 r_13)] (by kernel_rfl) ⟨k, rfl, H, by omega, HM⟩
    · clear H HM
      rintro _ w' ⟨k_33', rfl, H, HKk_33, HM⟩
      cases k_33' with
      | zero => exact none_t H
      | succ k_33 =>
      replace H := (show cavillaw06_TokenLongest.j0 (_ + 1) _ _ _ = _ from rfl).symm.trans H
      refine WC.seq ?_
      refine WC.seq ?_
      refine WC.region ?_
      refine WI.run tok 3 3 [(0, .slice A_8 (cut a0_1 0 (if 100 < (a0_1.length : Int) then 100 else (a0_1.length : Int))).length c_9), (1, .int .u8 a1_6), (7, .int .i64 (wr .i64 (r_13 + 1)))] (by kernel_rfl) rfl ?_
      refine WI.done rfl ?_
      refine QF.next ?_
      refine WC.block ?_
      refine WC.sub [(0, .slice A_8 (cut a0_1 0 (if 100 < (a0_1.length : Int) then 100 else (a0_1.length : Int))).length c_9), (1, .int .u8 a1_6), (7, .int .i64 (wr .i64 (r_13 + 1)))] (by kernel_rfl) ?_
      refine WC.loop (fun kq fr' w' => ∃ (x7_34 : Int), fr' = [(0, .slice A_8 (cut a0_1 0 (if 100 < (a0_1.length : Int) then 100 else (a0_1.length : Int))).length c_9), (1, .int .u8 a1_6), (7, .int .i64 x7_34)] ∧ cavillaw06_TokenLongest.l1 kq x7_34 a0_1 a1_6 = some r_53 ∧ kq ≤ k_33 ∧ Mem w w' []) k_33 ⟨(wr .i64 (r_13 + 1)), rfl, H, Nat.le_refl _, HM⟩ ?_
      clear H HM
      rintro k_35' _ w' ⟨x7_34, rfl, H, HKk_35, HM⟩
      cases k_35' with
      | zero => exact none_t H
      | succ k_35 =>
      replace H := (show cavillaw06_TokenLongest.l1 (_ + 1) _ _ _ = _ from rfl).symm.trans H
      refine WC.seq ?_
      refine WC.seq ?_
      refine WC.region ?_
      refine WI.run tok 3 3 [(0, .slice A_8 (cut a0_1 0 (if 100 < (a0_1.length : Int) then 100 else (a0_1.length : Int))).length c_9), (1, .int .u8 a1_6), (7, .int .i64 x7_34), (52, .bool (decide (x7_34 ≤ 3)))] (by kernel_rfl) rfl ?_
      refine WI.runAnd tok 52 _ rfl 8 11 60 (decide ((wr .i64 ((wr .i64 a1_6) + x7_34)) ≤ ((cut a0_1 0 (if 100 < (a0_1.length : Int) then 100 else (a0_1.length : Int))).length : Int))) [(0, .slice A_8 (cut a0_1 0 (if 100 < (a0_1.length : Int) then 100 else (a0_1.length : Int))).length c_9), (1, .int .u8 a1_6), (7, .int .i64 x7_34)] (by kernel_rfl) (by kernel_rfl) rfl ?_
      refine WI.done rfl ?_
      refine QF.next ?_
      refine WC.cond rfl (fun hb_36 => ?_) (fun hb_36 => ?_)
      · replace H := cond_t hb_36 H
        refine WC.skip ?_
        refine QF.next ?_
        refine WC.seq ?_
        refine WC.block ?_
        refine WC.seq ?_
        refine WC.region ?_
        refine WI.run tok 1 1 [(0, .slice A_8 (cut a0_1 0 (if 100 < (a0_1.length : Int) then 100 else (a0_1.length : Int))).length c_9), (1, .int .u8 a1_6), (7, .int .i64 x7_34), (8, .int .i64 40)] (by kernel_rfl) rfl ?_
        refine WI.done rfl ?_
        refine QF.next ?_
        refine WC.block ?_
        refine WC.sub [(0, .slice A_8 (cut a0_1 0 (if 100 < (a0_1.length : Int) then 100 else (a0_1.length : Int))).length c_9), (1, .int .u8 a1_6), (7, .int .i64 x7_34), (8, .int .i64 40)] (by kernel_rfl) ?_
        refine WC.loop (fun kq fr' w' => ∃ (x8_37 : Int), fr' = [(0, .slice A_8 (cut a0_1 0 (if 100 < (a0_1.length : Int) then 100 else (a0_1.length : Int))).length c_9), (1, .int .u8 a1_6), (7, .int .i64 x7_34), (8, .int .i64 x8_37)] ∧ cavillaw06_TokenLongest.l2 kq x8_37 a0_1 a1_6 x7_34 = some r_53 ∧ kq ≤ k_35 ∧ Mem w w' []) k_35 ⟨40, rfl, H, Nat.le_refl _, HM⟩ ?_
        clear H HM
        rintro k_38' _ w' ⟨x8_37, rfl, H, HKk_38, HM⟩
        cases k_38' with
        | zero => exact none_t H
        | succ k_38 =>
        replace H := (show cavillaw06_TokenLongest.l2 (_ + 1) _ _ _ _ = _ from rfl).symm.trans H
        refine WC.seq ?_
        refine WC.seq ?_
        refine WC.region ?_
        refine WI.run tok 2 2 [(0, .slice A_8 (cut a0_1 0 (if 100 < (a0_1.length : Int) then 100 else (a0_1.length : Int))).length c_9), (1, .int .u8 a1_6), (7, .int .i64 x7_34), (8, .int .i64 x8_37), (64, .bool (decide (x8_37 < 88)))] (by kernel_rfl) rfl ?_
        refine WI.done rfl ?_
        refine QF.next ?_
        refine WC.cond rfl (fun hb_39 => ?_) (fun hb_39 => ?_)
        · replace H := cond_t hb_39 H
          refine WC.skip ?_
          refine QF.next ?_
          refine WC.seq ?_
          refine WC.block ?_
          refine WC.seq ?_
          obtain ⟨r_40, hc_41, H⟩ := bind_t H
          obtain ⟨hg_42, H⟩ := guard_t H
          obtain ⟨A_43, c_44, he_47, hr_45, hc_46⟩ := slice_known hr_10 hc_11 hg_42
          refine WC.drawM (by kernel_rfl) tok HM (by kernel_rfl) [.int .i64 x8_37, .string (mk r_40), .slice A_8 (cut a0_1 0 (if 100 < (a0_1.length : Int) then 100 else (a0_1.length : Int))).length c_9, .int .u8 a1_6, .int .u8 a1_6, .int .i64 (wr .i64 a1_6), .int .i64 x7_34, .int .i64 (wr .i64 ((wr .i64 a1_6) + x7_34)), .slice A_43 (cut (cut a0_1 0 (if 100 < (a0_1.length : Int) then 100 else (a0_1.length : Int))) a1_6 (wr .i64 ((wr .i64 a1_6) + x7_34))).length c_44, .string (mk (cut (cut a0_1 0 (if 100 < (a0_1.length : Int) then 100 else (a0_1.length : Int))) a1_6 (wr .i64 ((wr .i64 a1_6) + x7_34)))), .bool (r_40 == (cut (cut a0_1 0 (if 100 < (a0_1.length : Int) then 100 else (a0_1.length : Int))) a1_6 (wr .i64 ((wr .i64 a1_6) + x7_34))))] [1, 8, 9] (by kernel_rfl) ⟨fun w' HM => ⟨_, rfl, by kernel_rfl, St.sub [(67, .int .i64 x8_37)] (by kernel_rfl) ((St.callB (token_Spell.calls k_38 x8_37 r_40 w'  hc_41) (by kernel_rfl) rfl).mono fun _ _ ⟨hu, hb⟩ => ⟨hu, HM.call hb⟩)⟩, fun w' HM => ⟨_, rfl, by kernel_rfl, St.sub [(69, .slice A_8 (cut a0_1 0 (if 100 < (a0_1.length : Int) then 100 else (a0_1.length : Int))).length c_9), (70, .int .u8 a1_6), (74, .int .i64 (wr .i64 ((wr .i64 a1_6) + x7_34)))] (by kernel_rfl) ((St.slice_rdK tok rfl rfl inf5 rfl hc_11 rfl rfl hg_42 he_47).mono fun _ _ ⟨hu, hw⟩ => ⟨hu, hw ▸ HM⟩)⟩, fun w' HM => ⟨_, rfl, by kernel_rfl, St.sub [(75, .slice A_43 (cut (cut a0_1 0 (if 100 < (a0_1.length : Int) then 100 else (a0_1.length : Int))) a1_6 (wr .i64 ((wr .i64 a1_6) + x7_34))).length c_44)] (by kernel_rfl) ((St.bytes_str tok rfl rfl rfl rfl rfl (hr_45.up HM)).mono fun _ _ ⟨hu, hw⟩ => ⟨hu, hw ▸ HM⟩)⟩, trivial⟩ ?_
          clear HM
          intro w' HM
          refine QF.sub [(0, .slice A_8 (cut a0_1 0 (if 100 < (a0_1.length : Int) then 100 else (a0_1.length : Int))).length c_9), (1, .int .u8 a1_6), (7, .int .i64 x7_34), (8, .int .i64 x8_37), (77, .bool (r_40 == (cut (cut a0_1 0 (if 100 < (a0_1.length : Int) then 100 else (a0_1.length : Int))) a1_6 (wr .i64 ((wr .i64 a1_6) + x7_34)))))] (by kernel_rfl) ?_
          refine QF.next ?_
          refine WC.cond rfl (fun hb_48 => ?_) (fun hb_48 => ?_)
          · replace H := cond_t hb_48 H
            refine WC.seq ?_
            refine WC.region ?_
            refine WI.run tok 1 1 [(4, .bool false)] (by kernel_rfl) rfl ?_
            refine WI.done rfl ?_
            refine QF.next ?_
            refine WC.ret ?_
            refine QF.block_ret ?_
            refine QF.then_ret ?_
            refine QF.then_ret ?_
            refine QF.block_ret ?_
            refine QF.block_ret ?_
            refine QF.then_ret ?_
            refine QF.then_ret ?_
            refine QF.block_ret ?_
            refine QF.then_ret ?_
            have H0 : (false : Bool) = r_53 := Option.some.inj H
            clear H
            subst H0
            exact QF.ret [4] [.bool false] rfl rfl (by kernel_rfl) ⟨rfl, HM.bl⟩
          · replace H := cond_f hb_48 H
            refine WC.skip ?_
            refine QF.block_normal ?_
            refine QF.next ?_
            refine WC.region ?_
            refine WI.run tok 3 3 [(0, .slice A_8 (cut a0_1 0 (if 100 < (a0_1.length : Int) then 100 else (a0_1.length : Int))).length c_9), (1, .int .u8 a1_6), (7, .int .i64 x7_34), (8, .int .i64 (wr .i64 (x8_37 + 1)))] (by kernel_rfl) rfl ?_
            refine WI.done rfl ?_
            exact QF.again k_38 (by omega) [(0, .slice A_8 (cut a0_1 0 (if 100 < (a0_1.length : Int) then 100 else (a0_1.length : Int))).length c_9), (1, .int .u8 a1_6), (7, .int .i64 x7_34), (8, .int .i64 (wr .i64 (x8_37 + 1)))] (by kernel_rfl) ⟨(wr .i64 (x8_37 + 1)), rfl, H, by omega, HM⟩
        · replace H := cond_f hb_39 H
          refine WC.exit ?_
          refine QF.then_exit ?_
          refine QF.then_exit ?_
          refine QF.block_here ?_
          refine QF.block_normal ?_
          refine QF.next ?_
          refine WC.region ?_
          refine WI.run tok 3 3 [(0, .slice A_8 (cut a0_1 0 (if 100 < (a0_1.length : Int) then 100 else (a0_1.length : Int))).length c_9), (1, .int .u8 a1_6), (7, .int .i64 (wr .i64 (x7_34 + 1)))] (by kernel_rfl) rfl ?_
          refine WI.done rfl ?_
          exact QF.again k_38 (by omega) [(0, .slice A_8 (cut a0_1 0 (if 100 < (a0_1.length : Int) then 100 else (a0_1.length : Int))).length c_9), (1, .int .u8 a1_6), (7, .int .i64 (wr .i64 (x7_34 + 1)))] (by kernel_rfl) ⟨(wr .i64 (x7_34 + 1)), rfl, H, by omega, HM⟩
      · replace H := cond_f hb_36 H
        refine WC.exit ?_
        refine QF.then_exit ?_
        refine QF.then_exit ?_
        refine QF.block_here ?_
        refine QF.next ?_
        refine WC.seq ?_
        refine WC.region ?_
        obtain ⟨r_49, hc_50, H⟩ := bind_t H
        refine WI.callB (cavillaw06_works.calls k_35  r_49 _  hc_50) rfl rfl rfl (by kernel_rfl) (by kernel_rfl) (fun w_52 hw_51 => ?_)
        replace HM := HM.call hw_51
        clear hw_51
        refine WI.run tok 1 2 [(4, .bool r_49)] (by kernel_rfl) rfl ?_
        refine WI.done rfl ?_
        refine QF.next ?_
        refine WC.ret ?_
        have H0 : (r_49 : Bool) = r_53 := Option.some.inj H
        clear H
        subst H0
        exact QF.ret [4] [.bool r_49] rfl rfl (by kernel_rfl) ⟨rfl, HM.bl⟩
/-! cavil/cavillaw06.TokenBack -/
def cavillaw06_TokenBack.f (k : Nat) (a0_1 : Int) (a1_2 : Int) : Option (Bool) := (token_Spell.f k (wr .i64 a0_1)).bind fun r_3 => ((token_Spell.f k (wr .i64 a1_2)).bind fun r_7 => (bif ((!(r_3 == ([] : List UInt8))) && (r_3 == r_7)) && (a0_1 != a1_2) then (some false) else (bif (r_3 == ([] : List UInt8)) || (decide (a0_1 < 10)) then ((token_Keyword.f k r_3).bind fun r_13 => (bif r_13 == 0 then ((cavillaw06_works.f k ).bind fun r_18 => (some r_18)) else (some false))) else (bif decide (a0_1 < 40) then ((token_Keyword.f k r_3).bind fun r_23 => (bif r_23 == (wr .i64 a0_1) then ((cavillaw06_works.f k ).bind fun r_28 => (some r_28)) else (some false))) else ((token_Operator.f k r_3 0).bind fun ⟨r_36, r_37⟩ => (bif (r_36 == (wr .i64 a0_1)) && (r_37 == (r_3.length : Int)) then ((cavillaw06_works.f k ).bind fun r_42 => (some r_42)) else (some false)))))))
set_option maxRecDepth 100000 in
theorem cavillaw06_TokenBack.calls (k : Nat) (a0_1 : Int) (a1_2 : Int) (r_46 : Bool) (w : World) (h : cavillaw06_TokenBack.f k a0_1 a1_2 = some r_46) : Calls Try.prog 5 #[.int .u8 a0_1, .int .u8 a1_2] w fun e w' => e = .returned (.bool r_46) ∧ Bl w w' := by
  have H := h
  clear h
  unfold cavillaw06_TokenBack.f at H
  have HM := Mem.refl w
  refine enter (n := 70) (args := [.int .u8 a0_1, .int .u8 a1_2]) Try.func5 rfl rfl rfl ?_
  refine WC.seq ?_
  refine WC.region ?_
  refine WI.run tok 1 1 [(0, .int .u8 a0_1), (1, .int .u8 a1_2)] (by kernel_rfl) rfl ?_
  refine WI.done rfl ?_
  refine QF.next ?_
  refine WC.seq ?_
  refine WC.region ?_
  refine WI.run tok 2 2 [(0, .int .u8 a0_1), (1, .int .u8 a1_2), (10, .int .i64 (wr .i64 a0_1))] (by kernel_rfl) rfl ?_
  obtain ⟨r_3, hc_4, H⟩ := bind_t H
  refine WI.callB (token_Spell.calls k (wr .i64 a0_1) r_3 _  hc_4) rfl rfl rfl (by kernel_rfl) (by kernel_rfl) (fun w_6 hw_5 => ?_)
  replace HM := HM.call hw_5
  clear hw_5
  refine WI.run tok 2 5 [(0, .int .u8 a0_1), (1, .int .u8 a1_2), (11, .string (mk r_3)), (13, .int .i64 (wr .i64 a1_2))] (by kernel_rfl) rfl ?_
  obtain ⟨r_7, hc_8, H⟩ := bind_t H
  refine WI.callB (token_Spell.calls k (wr .i64 a1_2) r_7 _  hc_8) rfl rfl rfl (by kernel_rfl) (by kernel_rfl) (fun w_10 hw_9 => ?_)
  replace HM := HM.call hw_9
  clear hw_9
  refine WI.run tok 2 8 [(0, .int .u8 a0_1), (1, .int .u8 a1_2), (5, .string (mk r_3)), (6, .string (mk r_7))] (by kernel_rfl) rfl ?_
  refine WI.done rfl ?_
  refine QF.next ?_
  refine WC.seq ?_
  refine WC.seq ?_
  refine WC.region ?_
  refine WI.run tok 3 3 [(0, .int .u8 a0_1), (1, .int .u8 a1_2), (5, .string (mk r_3)), (6, .string (mk r_7)), (17, .bool (!(r_3 == ([] : List UInt8))))] (by kernel_rfl) rfl ?_
  refine WI.runAnd tok 17 _ rfl 4 7 21 (r_3 == r_7) [(0, .int .u8 a0_1), (1, .int .u8 a1_2), (5, .string (mk r_3))] (by kernel_rfl) (by kernel_rfl) rfl ?_
  refine WI.run tok 1 8 [(0, .int .u8 a0_1), (1, .int .u8 a1_2), (5, .string (mk r_3)), (22, .bool ((!(r_3 == ([] : List UInt8))) && (r_3 == r_7)))] (by kernel_rfl) rfl ?_
  refine WI.runAnd tok 22 _ rfl 4 12 26 (a0_1 != a1_2) [(0, .int .u8 a0_1), (5, .string (mk r_3))] (by kernel_rfl) (by kernel_rfl) rfl ?_
  refine WI.done rfl ?_
  refine QF.next ?_
  refine WC.cond rfl (fun hb_11 => ?_) (fun hb_11 => ?_)
  · replace H := cond_t hb_11 H
    refine WC.seq ?_
    refine WC.region ?_
    refine WI.run tok 1 1 [(4, .bool false)] (by kernel_rfl) rfl ?_
    refine WI.done rfl ?_
    refine QF.next ?_
    refine WC.ret ?_
    refine QF.then_ret ?_
    have H0 : (false : Bool) = r_46 := Option.some.inj H
    clear H
    subst H0
    exact QF.ret [4] [.bool false] rfl rfl (by kernel_rfl) ⟨rfl, HM.bl⟩
  · replace H := cond_f hb_11 H
    refine WC.skip ?_
    refine QF.next ?_
    refine WC.seq ?_
    refine WC.block ?_
    refine WC.seq ?_
    refine WC.region ?_
    refine WI.run tok 3 3 [(0, .int .u8 a0_1), (5, .string (mk r_3)), (30, .bool (r_3 == ([] : List UInt8)))] (by kernel_rfl) rfl ?_
    refine WI.runOr tok 30 _ rfl 3 6 33 (decide (a0_1 < 10)) [(0, .int .u8 a0_1), (5, .string (mk r_3))] (by kernel_rfl) (by kernel_rfl) rfl ?_
    refine WI.run tok 1 7 [(0, .int .u8 a0_1), (5, .string (mk r_3)), (27, .bool ((r_3 == ([] : List UInt8)) || (decide (a0_1 < 10))))] (by kernel_rfl) rfl ?_
    refine WI.done rfl ?_
    refine QF.next ?_
    refine WC.cond rfl (fun hb_12 => ?_) (fun hb_12 => ?_)
    · replace H := cond_t hb_12 H
      refine WC.seq ?_
      refine WC.region ?_
      refine WI.run tok 1 1 [(34, .string (mk r_3))] (by kernel_rfl) rfl ?_
      obtain ⟨r_13, hc_14, H⟩ := bind_t H
      refine WI.callB (token_Keyword.calls k r_3 r_13 _  hc_14) rfl rfl rfl (by kernel_rfl) (by kernel_rfl) (fun w_16 hw_15 => ?_)
      replace HM := HM.call hw_15
      clear hw_15
      refine WI.run tok 2 4 [(37, .bool (r_13 == 0))] (by kernel_rfl) rfl ?_
      refine WI.split 37 _ rfl (fun hb_17 => ?_) (fun hb_17 => ?_)
      · replace H := cond_t hb_17 H
        obtain ⟨r_18, hc_19, H⟩ := bind_t H
        refine WI.callB (cavillaw06_works.calls k  r_18 _  hc_19) rfl rfl rfl (by kernel_rfl) (by kernel_rfl) (fun w_21 hw_20 => ?_)
        replace HM := HM.call hw_20
        clear hw_20
        refine WI.run tok 2 7 [(4, .bool r_18)] (by kernel_rfl) rfl ?_
        refine WI.done rfl ?_
        refine QF.next ?_
        refine WC.ret ?_
        refine QF.block_ret ?_
        refine QF.then_ret ?_
        have H0 : (r_18 : Bool) = r_46 := Option.some.inj H
        clear H
        subst H0
        exact QF.ret [4] [.bool r_18] rfl rfl (by kernel_rfl) ⟨rfl, HM.bl⟩
      · replace H := cond_f hb_17 H
        refine WI.run tok 3 7 [(4, .bool false)] (by kernel_rfl) rfl ?_
        refine WI.done rfl ?_
        refine QF.next ?_
        refine WC.ret ?_
        refine QF.block_ret ?_
        refine QF.then_ret ?_
        have H0 : (false : Bool) = r_46 := Option.some.inj H
        clear H
        subst H0
        exact QF.ret [4] [.bool false] rfl rfl (by kernel_rfl) ⟨rfl, HM.bl⟩
    · replace H := cond_f hb_12 H
      refine WC.seq ?_
      refine WC.region ?_
      refine WI.run tok 3 3 [(0, .int .u8 a0_1), (5, .string (mk r_3)), (40, .bool (decide (a0_1 < 40)))] (by kernel_rfl) rfl ?_
      refine WI.done rfl ?_
      refine QF.next ?_
      refine WC.cond rfl (fun hb_22 => ?_) (fun hb_22 => ?_)
      · replace H := cond_t hb_22 H
        refine WC.seq ?_
        refine WC.region ?_
        refine WI.run tok 1 1 [(0, .int .u8 a0_1), (43, .string (mk r_3))] (by kernel_rfl) rfl ?_
        obtain ⟨r_23, hc_24, H⟩ := bind_t H
        refine WI.callB (token_Keyword.calls k r_3 r_23 _  hc_24) rfl rfl rfl (by kernel_rfl) (by kernel_rfl) (fun w_26 hw_25 => ?_)
        replace HM := HM.call hw_25
        clear hw_25
        refine WI.run tok 4 6 [(48, .bool (r_23 == (wr .i64 a0_1)))] (by kernel_rfl) rfl ?_
        refine WI.split 48 _ rfl (fun hb_27 => ?_) (fun hb_27 => ?_)
        · replace H := cond_t hb_27 H
          obtain ⟨r_28, hc_29, H⟩ := bind_t H
          refine WI.callB (cavillaw06_works.calls k  r_28 _  hc_29) rfl rfl rfl (by kernel_rfl) (by kernel_rfl) (fun w_31 hw_30 => ?_)
          replace HM := HM.call hw_30
          clear hw_30
          refine WI.run tok 2 9 [(4, .bool r_28)] (by kernel_rfl) rfl ?_
          refine WI.done rfl ?_
          refine QF.next ?_
          refine WC.ret ?_
          refine QF.block_ret ?_
          refine QF.then_ret ?_
          have H0 : (r_28 : Bool) = r_46 := Option.some.inj H
          clear H
          subst H0
          exact QF.ret [4] [.bool r_28] rfl rfl (by kernel_rfl) ⟨rfl, HM.bl⟩
        · replace H := cond_f hb_27 H
          refine WI.run tok 3 9 [(4, .bool false)] (by kernel_rfl) rfl ?_
          refine WI.done rfl ?_
          refine QF.next ?_
          refine WC.ret ?_
          refine QF.block_ret ?_
          refine QF.then_ret ?_
          have H0 : (false : Bool) = r_46 := Option.some.inj H
          clear H
          subst H0
          exact QF.ret [4] [.bool false] rfl rfl (by kernel_rfl) ⟨rfl, HM.bl⟩
      · replace H := cond_f hb_22 H
        refine WC.skip ?_
        refine QF.block_normal ?_
        refine QF.next ?_
        refine WC.seq ?_
        refine WC.region ?_
        refine WI.run tok 1 1 [(0, .int .u8 a0_1), (5, .string (mk r_3)), (52, .string (mk r_3))] (by kernel_rfl) rfl ?_
        refine WI.step rfl rfl rfl rfl (St.str_bytes tok HM rfl rfl rfl rfl rfl) ?_
        clear HM
        rintro _ w' ⟨b_32, c_33, tl_34, rfl, hc_35, HM⟩
        obtain ⟨⟨r_36, r_37⟩, hc_38, H⟩ := bind_t H
        refine WI.callB (token_Operator.calls k r_3 (some ⟨b_32, 0, none⟩) c_33 0 r_36 r_37 _ (HM.rd1x (i := 0) rfl) hc_35 hc_38) rfl rfl rfl (by kernel_rfl) (by kernel_rfl) (fun w_40 hw_39 => ?_)
        replace HM := HM.call hw_39
        clear hw_39
        refine WI.run tok 5 8 [(0, .int .u8 a0_1), (5, .string (mk r_3)), (7, .int .i64 r_36), (8, .int .i64 r_37)] (by kernel_rfl) rfl ?_
        refine WI.done rfl ?_
        refine QF.next ?_
        refine WC.seq ?_
        refine WC.region ?_
        refine WI.run tok 5 5 [(5, .string (mk r_3)), (8, .int .i64 r_37), (61, .bool (r_36 == (wr .i64 a0_1)))] (by kernel_rfl) rfl ?_
        refine WI.runAnd tok 61 _ rfl 5 10 66 (r_37 == (r_3.length : Int)) [] (by kernel_rfl) (by kernel_rfl) rfl ?_
        refine WI.run tok 1 11 [(67, .bool ((r_36 == (wr .i64 a0_1)) && (r_37 == (r_3.length : Int))))] (by kernel_rfl) rfl ?_
        refine WI.split 67 _ rfl (fun hb_41 => ?_) (fun hb_41 => ?_)
        · replace H := cond_t hb_41 H
          obtain ⟨r_42, hc_43, H⟩ := bind_t H
          refine WI.callB (cavillaw06_works.calls k  r_42 _  hc_43) rfl rfl rfl (by kernel_rfl) (by kernel_rfl) (fun w_45 hw_44 => ?_)
          replace HM := HM.call hw_44
          clear hw_44
          refine WI.run tok 2 14 [(4, .bool r_42)] (by kernel_rfl) rfl ?_
          refine WI.done rfl ?_
          refine QF.next ?_
          refine WC.ret ?_
          have H0 : (r_42 : Bool) = r_46 := Option.some.inj H
          clear H
          subst H0
          exact QF.ret [4] [.bool r_42] rfl rfl (by kernel_rfl) ⟨rfl, HM.bl⟩
        · replace H := cond_f hb_41 H
          refine WI.run tok 3 14 [(4, .bool false)] (by kernel_rfl) rfl ?_
          refine WI.done rfl ?_
          refine QF.next ?_
          refine WC.ret ?_
          have H0 : (false : Bool) = r_46 := Option.some.inj H
          clear H
          subst H0
          exact QF.ret [4] [.bool false] rfl rfl (by kernel_rfl) ⟨rfl, HM.bl⟩
/-! cavil/cavillaw06.TokenKinds -/
def cavillaw06_TokenKinds.f (k : Nat) (a0_1 : Int) (a1_2 : List UInt8) : Option (Bool) := bif decide (0 ≤ (0 : Int)) && (decide ((0 : Int) ≤ (if 20 < (a1_2.length : Int) then 20 else (a1_2.length : Int))) && decide ((if 20 < (a1_2.length : Int) then 20 else (a1_2.length : Int)) ≤ (a1_2.length : Int))) then ((token_Spell.f k a0_1).bind fun r_4 => ((cavilref06_Spell.f k a0_1).bind fun r_8 => (bif r_4 == r_8 then ((token_Keyword.f k (cut a1_2 0 (if 20 < (a1_2.length : Int) then 20 else (a1_2.length : Int)))).bind fun r_13 => ((cavilref06_Keyword.f k (cut a1_2 0 (if 20 < (a1_2.length : Int) then 20 else (a1_2.length : Int)))).bind fun r_17 => (bif r_13 == r_17 then ((token_Prec.f k a0_1).bind fun r_22 => ((cavilref06_Prec.f k a0_1).bind fun r_26 => (bif r_22 == r_26 then ((token_Unary.f k a0_1).bind fun r_31 => ((cavilref06_Unary.f k a0_1).bind fun r_35 => (bif r_31 == r_35 then ((token_Base.f k a0_1).bind fun r_40 => ((cavilref06_Base.f k a0_1).bind fun r_44 => (bif r_40 == r_44 then ((token_Ends.f k a0_1).bind fun r_49 => ((cavilref06_Ends.f k a0_1).bind fun r_53 => (bif r_49 == r_53 then ((cavillaw06_works.f k ).bind fun r_58 => (some r_58)) else (some false)))) else (some false)))) else (some false)))) else (some false)))) else (some false)))) else (some false)))) else none
set_option maxRecDepth 100000 in
theorem cavillaw06_TokenKinds.calls (k : Nat) (a0_1 : Int) (a1_2 : List UInt8) (r_62 : Bool) (w : World) (h : cavillaw06_TokenKinds.f k a0_1 a1_2 = some r_62) : Calls Try.prog 6 #[.int .i64 a0_1, .string (mk a1_2)] w fun e w' => e = .returned (.bool r_62) ∧ Bl w w' := by
  have H := h
  clear h
  unfold cavillaw06_TokenKinds.f at H
  have HM := Mem.refl w
  refine enter (n := 53) (args := [.int .i64 a0_1, .string (mk a1_2)]) Try.func6 rfl rfl rfl ?_
  refine WC.seq ?_
  refine WC.region ?_
  refine WI.run tok 1 1 [(0, .int .i64 a0_1), (1, .string (mk a1_2))] (by kernel_rfl) rfl ?_
  refine WI.done rfl ?_
  refine QF.next ?_
  refine WC.seq ?_
  refine WC.region ?_
  refine WI.run tok 4 4 [(0, .int .i64 a0_1), (5, .string (mk a1_2)), (8, .int .i64 (if 20 < (a1_2.length : Int) then 20 else (a1_2.length : Int)))] (by kernel_rfl) rfl ?_
  obtain ⟨hg_3, H⟩ := guard_t H
  refine WI.step rfl rfl rfl rfl (St.slice_str tok rfl rfl rfl rfl rfl hg_3) ?_
  rintro _ _ ⟨rfl, rfl⟩
  refine WI.run tok 1 6 [(0, .int .i64 a0_1), (1, .string (mk (cut a1_2 0 (if 20 < (a1_2.length : Int) then 20 else (a1_2.length : Int)))))] (by kernel_rfl) rfl ?_
  refine WI.done rfl ?_
  refine QF.next ?_
  refine WC.seq ?_
  refine WC.region ?_
  refine WI.run tok 1 1 [(0, .int .i64 a0_1), (1, .string (mk (cut a1_2 0 (if 20 < (a1_2.length : Int) then 20 else (a1_2.length : Int))))), (10, .int .i64 a0_1)] (by kernel_rfl) rfl ?_
  obtain ⟨r_4, hc_5, H⟩ := bind_t H
  refine WI.callB (token_Spell.calls k a0_1 r_4 _  hc_5) rfl rfl rfl (by kernel_rfl) (by kernel_rfl) (fun w_7 hw_6 => ?_)
  replace HM := HM.call hw_6
  clear hw_6
  refine WI.run tok 1 3 [(0, .int .i64 a0_1), (1, .string (mk (cut a1_2 0 (if 20 < (a1_2.length : Int) then 20 else (a1_2.length : Int))))), (11, .string (mk r_4)), (12, .int .i64 a0_1)] (by kernel_rfl) rfl ?_
  obtain ⟨r_8, hc_9, H⟩ := bind_t H
  refine WI.callB (cavilref06_Spell.calls k a0_1 r_8 _  hc_9) rfl rfl rfl (by kernel_rfl) (by kernel_rfl) (fun w_11 hw_10 => ?_)
  replace HM := HM.call hw_10
  clear hw_10
  refine WI.run tok 2 6 [(0, .int .i64 a0_1), (1, .string (mk (cut a1_2 0 (if 20 < (a1_2.length : Int) then 20 else (a1_2.length : Int))))), (15, .bool (r_4 == r_8))] (by kernel_rfl) rfl ?_
  refine WI.split 15 _ rfl (fun hb_12 => ?_) (fun hb_12 => ?_)
  · replace H := cond_t hb_12 H
    refine WI.run tok 1 7 [(0, .int .i64 a0_1), (1, .string (mk (cut a1_2 0 (if 20 < (a1_2.length : Int) then 20 else (a1_2.length : Int))))), (15, .bool true), (16, .string (mk (cut a1_2 0 (if 20 < (a1_2.length : Int) then 20 else (a1_2.length : Int)))))] (by kernel_rfl) rfl ?_
    obtain ⟨r_13, hc_14, H⟩ := bind_t H
    refine WI.callB (token_Keyword.calls k (cut a1_2 0 (if 20 < (a1_2.length : Int) then 20 else (a1_2.length : Int))) r_13 _  hc_14) rfl rfl rfl (by kernel_rfl) (by kernel_rfl) (fun w_16 hw_15 => ?_)
    replace HM := HM.call hw_15
    clear hw_15
    refine WI.run tok 1 9 [(0, .int .i64 a0_1), (15, .bool true), (17, .int .i64 r_13), (18, .string (mk (cut a1_2 0 (if 20 < (a1_2.length : Int) then 20 else (a1_2.length : Int)))))] (by kernel_rfl) rfl ?_
    obtain ⟨r_17, hc_18, H⟩ := bind_t H
    refine WI.callB (cavilref06_Keyword.calls k (cut a1_2 0 (if 20 < (a1_2.length : Int) then 20 else (a1_2.length : Int))) r_17 _  hc_18) rfl rfl rfl (by kernel_rfl) (by kernel_rfl) (fun w_20 hw_19 => ?_)
    replace HM := HM.call hw_19
    clear hw_19
    refine WI.run tok 3 13 [(0, .int .i64 a0_1), (22, .bool (r_13 == r_17))] (by kernel_rfl) rfl ?_
    refine WI.split 22 _ rfl (fun hb_21 => ?_) (fun hb_21 => ?_)
    · replace H := cond_t hb_21 H
      refine WI.run tok 1 14 [(0, .int .i64 a0_1), (22, .bool true), (23, .int .i64 a0_1)] (by kernel_rfl) rfl ?_
      obtain ⟨r_22, hc_23, H⟩ := bind_t H
      refine WI.callB (token_Prec.calls k a0_1 r_22 _  hc_23) rfl rfl rfl (by kernel_rfl) (by kernel_rfl) (fun w_25 hw_24 => ?_)
      replace HM := HM.call hw_24
      clear hw_24
      refine WI.run tok 1 16 [(0, .int .i64 a0_1), (22, .bool true), (24, .int .i64 r_22), (25, .int .i64 a0_1)] (by kernel_rfl) rfl ?_
      obtain ⟨r_26, hc_27, H⟩ := bind_t H
      refine WI.callB (cavilref06_Prec.calls k a0_1 r_26 _  hc_27) rfl rfl rfl (by kernel_rfl) (by kernel_rfl) (fun w_29 hw_28 => ?_)
      replace HM := HM.call hw_28
      clear hw_28
      refine WI.run tok 3 20 [(0, .int .i64 a0_1), (29, .bool (r_22 == r_26))] (by kernel_rfl) rfl ?_
      refine WI.split 29 _ rfl (fun hb_30 => ?_) (fun hb_30 => ?_)
      · replace H := cond_t hb_30 H
        refine WI.run tok 1 21 [(0, .int .i64 a0_1), (29, .bool true), (30, .int .i64 a0_1)] (by kernel_rfl) rfl ?_
        obtain ⟨r_31, hc_32, H⟩ := bind_t H
        refine WI.callB (token_Unary.calls k a0_1 r_31 _  hc_32) rfl rfl rfl (by kernel_rfl) (by kernel_rfl) (fun w_34 hw_33 => ?_)
        replace HM := HM.call hw_33
        clear hw_33
        refine WI.run tok 1 23 [(0, .int .i64 a0_1), (29, .bool true), (31, .bool r_31), (32, .int .i64 a0_1)] (by kernel_rfl) rfl ?_
        obtain ⟨r_35, hc_36, H⟩ := bind_t H
        refine WI.callB (cavilref06_Unary.calls k a0_1 r_35 _  hc_36) rfl rfl rfl (by kernel_rfl) (by kernel_rfl) (fun w_38 hw_37 => ?_)
        replace HM := HM.call hw_37
        clear hw_37
        refine WI.run tok 3 27 [(0, .int .i64 a0_1), (36, .bool (r_31 == r_35))] (by kernel_rfl) rfl ?_
        refine WI.split 36 _ rfl (fun hb_39 => ?_) (fun hb_39 => ?_)
        · replace H := cond_t hb_39 H
          refine WI.run tok 1 28 [(0, .int .i64 a0_1), (36, .bool true), (37, .int .i64 a0_1)] (by kernel_rfl) rfl ?_
          obtain ⟨r_40, hc_41, H⟩ := bind_t H
          refine WI.callB (token_Base.calls k a0_1 r_40 _  hc_41) rfl rfl rfl (by kernel_rfl) (by kernel_rfl) (fun w_43 hw_42 => ?_)
          replace HM := HM.call hw_42
          clear hw_42
          refine WI.run tok 1 30 [(0, .int .i64 a0_1), (36, .bool true), (38, .int .i64 r_40), (39, .int .i64 a0_1)] (by kernel_rfl) rfl ?_
          obtain ⟨r_44, hc_45, H⟩ := bind_t H
          refine WI.callB (cavilref06_Base.calls k a0_1 r_44 _  hc_45) rfl rfl rfl (by kernel_rfl) (by kernel_rfl) (fun w_47 hw_46 => ?_)
          replace HM := HM.call hw_46
          clear hw_46
          refine WI.run tok 3 34 [(0, .int .i64 a0_1), (43, .bool (r_40 == r_44))] (by kernel_rfl) rfl ?_
          refine WI.split 43 _ rfl (fun hb_48 => ?_) (fun hb_48 => ?_)
          · replace H := cond_t hb_48 H
            refine WI.run tok 1 35 [(0, .int .i64 a0_1), (43, .bool true), (44, .int .i64 a0_1)] (by kernel_rfl) rfl ?_
            obtain ⟨r_49, hc_50, H⟩ := bind_t H
            refine WI.callB (token_Ends.calls k a0_1 r_49 _  hc_50) rfl rfl rfl (by kernel_rfl) (by kernel_rfl) (fun w_52 hw_51 => ?_)
            replace HM := HM.call hw_51
            clear hw_51
            refine WI.run tok 1 37 [(43, .bool true), (45, .bool r_49), (46, .int .i64 a0_1)] (by kernel_rfl) rfl ?_
            obtain ⟨r_53, hc_54, H⟩ := bind_t H
            refine WI.callB (cavilref06_Ends.calls k a0_1 r_53 _  hc_54) rfl rfl rfl (by kernel_rfl) (by kernel_rfl) (fun w_56 hw_55 => ?_)
            replace HM := HM.call hw_55
            clear hw_55
            refine WI.run tok 3 41 [(50, .bool (r_49 == r_53))] (by kernel_rfl) rfl ?_
            refine WI.split 50 _ rfl (fun hb_57 => ?_) (fun hb_57 => ?_)
            · replace H := cond_t hb_57 H
              obtain ⟨r_58, hc_59, H⟩ := bind_t H
              refine WI.callB (cavillaw06_works.calls k  r_58 _  hc_59) rfl rfl rfl (by kernel_rfl) (by kernel_rfl) (fun w_61 hw_60 => ?_)
              replace HM := HM.call hw_60
              clear hw_60
              refine WI.run tok 2 44 [(4, .bool r_58)] (by kernel_rfl) rfl ?_
              refine WI.done rfl ?_
              refine QF.next ?_
              refine WC.ret ?_
              have H0 : (r_58 : Bool) = r_62 := Option.some.inj H
              clear H
              subst H0
              exact QF.ret [4] [.bool r_58] rfl rfl (by kernel_rfl) ⟨rfl, HM.bl⟩
            · replace H := cond_f hb_57 H
              refine WI.run tok 3 44 [(4, .bool false)] (by kernel_rfl) rfl ?_
              refine WI.done rfl ?_
              refine QF.next ?_
              refine WC.ret ?_
              have H0 : (false : Bool) = r_62 := Option.some.inj H
              clear H
              subst H0
              exact QF.ret [4] [.bool false] rfl rfl (by kernel_rfl) ⟨rfl, HM.bl⟩
          · replace H := cond_f hb_48 H
            refine WI.run tok 10 44 [(4, .bool false)] (by kernel_rfl) rfl ?_
            refine WI.done rfl ?_
            refine QF.next ?_
            refine WC.ret ?_
            have H0 : (false : Bool) = r_62 := Option.some.inj H
            clear H
            subst H0
            exact QF.ret [4] [.bool false] rfl rfl (by kernel_rfl) ⟨rfl, HM.bl⟩
        · replace H := cond_f hb_39 H
          refine WI.run tok 17 44 [(4, .bool false)] (by kernel_rfl) rfl ?_
          refine WI.done rfl ?_
          refine QF.next ?_
          refine WC.ret ?_
          have H0 : (false : Bool) = r_62 := Option.some.inj H
          clear H
          subst H0
          exact QF.ret [4] [.bool false] rfl rfl (by kernel_rfl) ⟨rfl, HM.bl⟩
      · replace H := cond_f hb_30 H
        refine WI.run tok 24 44 [(4, .bool false)] (by kernel_rfl) rfl ?_
        refine WI.done rfl ?_
        refine QF.next ?_
        refine WC.ret ?_
        have H0 : (false : Bool) = r_62 := Option.some.inj H
        clear H
        subst H0
        exact QF.ret [4] [.bool false] rfl rfl (by kernel_rfl) ⟨rfl, HM.bl⟩
    · replace H := cond_f hb_21 H
      refine WI.run tok 31 44 [(4, .bool false)] (by kernel_rfl) rfl ?_
      refine WI.done rfl ?_
      refine QF.next ?_
      refine WC.ret ?_
      have H0 : (false : Bool) = r_62 := Option.some.inj H
      clear H
      subst H0
      exact QF.ret [4] [.bool false] rfl rfl (by kernel_rfl) ⟨rfl, HM.bl⟩
  · replace H := cond_f hb_12 H
    refine WI.run tok 38 44 [(4, .bool false)] (by kernel_rfl) rfl ?_
    refine WI.done rfl ?_
    refine QF.next ?_
    refine WC.ret ?_
    have H0 : (false : Bool) = r_62 := Option.some.inj H
    clear H
    subst H0
    exact QF.ret [4] [.bool false] rfl rfl (by kernel_rfl) ⟨rfl, HM.bl⟩
end Go.Proofs.Ytcdcihmlmcnbjaa
