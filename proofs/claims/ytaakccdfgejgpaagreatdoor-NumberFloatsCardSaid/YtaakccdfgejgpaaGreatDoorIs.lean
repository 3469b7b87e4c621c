/-
  errors.Is of one of the program's error numbers (bare, or wrapped once with a place) against another one: whether they are the same number. And the law's Code: which number an error is.
-/
import Derived.Test.YtaakccdfgejgpaaGreatDoorProg
import Derived.WalkKit
import Derived.LaidEql
import Derived.Stop.Asserts
import Derived.RowKitTokens
namespace Go.Proofs.YtaakccdfgejgpaaGreatDoor
open Go Go.RowKit Go.Extern.Stop Go.Stop Go.Extern
set_option linter.unusedVariables false
theorem is.typeOf (v : Value) (w : World) : (callFunc 56 #[.iface 61 v]).run Tryz.prog w = .ok (.value (.iface 115 (.agg #[.pointer (some ⟨5, 61, none⟩)]))) w := by kernel_rfl
theorem is.comparable (w : World) : (callFunc 153 #[.agg #[.pointer (some ⟨5, 61, none⟩)]]).run Tryz.prog w = .ok (.value (.bool true)) w := by kernel_rfl
theorem is.methodComparable (v : Value) (w : World) : (Go.method 307 115 v "Comparable").run Tryz.prog w = .ok (153, v) w := by kernel_rfl
theorem is.comp : (Tryz.prog.info? 61).map (·.comparable) = some true := by kernel_rfl
theorem is.noIs (v : Value) (xT : TypeId) (w : World) : (Instr.typeAssert (.iface 61 v) xT 117 true).run Tryz.prog w = .ok (.tuple #[.nilIface, .bool false]) w := run_typeAssert_lacksB Tryz.underlying117 (by kernel_rfl) (by kernel_rfl) v xT w
theorem is.noUnwrap (v : Value) (xT : TypeId) (w : World) : (Instr.typeAssert (.iface 61 v) xT 120 true).run Tryz.prog w = .ok (.tuple #[.nilIface, .bool false]) w := run_typeAssert_lacksB Tryz.underlying120 (by kernel_rfl) (by kernel_rfl) v xT w
theorem is.noUnwraps (v : Value) (xT : TypeId) (w : World) : (Instr.typeAssert (.iface 61 v) xT 122 true).run Tryz.prog w = .ok (.tuple #[.nilIface, .bool false]) w := run_typeAssert_lacksB Tryz.underlying122 (by kernel_rfl) (by kernel_rfl) v xT w
theorem is.eql (a c : Int) (w : World) : (binOp .eql 24 (.iface 61 (.int .i64 a)) (.iface 61 (.int .i64 c))).run Tryz.prog w = .ok (.bool (a == c)) w := by
  obtain ⟨i, hi, hcmp⟩ := Option.map_eq_some_iff.1 is.comp
  have h1 := Tryz.underlying24
  have h2 := Tryz.underlying61
  have h : ∀ d : Nat, (Op.equalIn (d + 2) 24 (.iface 61 (.int .i64 a)) (.iface 61 (.int .i64 c))).run Tryz.prog w = .ok (a == c) w := fun d => by
    simp [Op.equalIn, run_underlying h1, run_underlying h2, typeInfo, hi, hcmp]
  simp only [binOp]
  simp [Op.equal, Op.maxDepth, h 9998]
theorem is.eqlNil (c : Int) (w : World) : (binOp .eql 24 .nilIface (.iface 61 (.int .i64 c))).run Tryz.prog w = .ok (.bool false) w := by kernel_rfl
set_option maxRecDepth 100000 in
/-- errors.Is of no error. -/
theorem is.nil (c : Int) (w : World) : Calls Tryz.prog 29 #[.nilIface, .iface 61 (.int .i64 c)] w fun e w' => e = .returned (.bool false) ∧ w' = w := by
  have heq := is.eqlNil c
  go_enter Tryz.func29, Tryz.ntmps29
  go_wp2
  go_ret
  exact ⟨rfl, rfl⟩
set_option maxRecDepth 100000 in
/-- errors.Is of two numbers. -/
theorem is.no (a c : Int) (w : World) : Calls Tryz.prog 29 #[.iface 61 (.int .i64 a), .iface 61 (.int .i64 c)] w fun e w' => e = .returned (.bool (a == c)) ∧ w' = w := by
  have tT := is.typeOf
  have cT := is.comparable
  have mR := is.methodComparable
  have nE := is.noIs
  have uE := is.noUnwrap
  have vE := is.noUnwraps
  have heq := is.eql a c
  cases hb : a == c with
  | true =>
    rw [hb] at heq
    go_enter Tryz.func29, Tryz.ntmps29
    go_wp2
    refine wp_loop_rounds 1 ?_
    rw [rounds_succ]
    go_wp2
    go_ret
    exact ⟨rfl, rfl⟩
  | false =>
    rw [hb] at heq
    go_enter Tryz.func29, Tryz.ntmps29
    go_wp2
    refine wp_loop_rounds 1 ?_
    rw [rounds_succ]
    go_wp2
    go_ret
    exact ⟨rfl, rfl⟩
end Go.Proofs.YtaakccdfgejgpaaGreatDoor
