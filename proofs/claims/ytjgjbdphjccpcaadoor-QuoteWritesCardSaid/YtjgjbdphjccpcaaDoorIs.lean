/-
  errors.Is of one of the program's error numbers (bare, or wrapped once with a place) against another one: whether they are the same number. And the law's Code: which number an error is.
-/
import Derived.Test.YtjgjbdphjccpcaaDoorProg
import Derived.WalkKit
import Derived.LaidEql
import Derived.Stop.Asserts
import Derived.RowKitTokens
namespace Go.Proofs.YtjgjbdphjccpcaaDoor
open Go Go.RowKit Go.Extern.Stop Go.Stop Go.Extern
set_option linter.unusedVariables false
theorem is.typeOf (v : Value) (w : World) : (callFunc 42 #[.iface 46 v]).run Tryd.prog w = .ok (.value (.iface 92 (.agg #[.pointer (some ⟨3, 46, none⟩)]))) w := by kernel_rfl
theorem is.comparable (w : World) : (callFunc 86 #[.agg #[.pointer (some ⟨3, 46, none⟩)]]).run Tryd.prog w = .ok (.value (.bool true)) w := by kernel_rfl
theorem is.methodComparable (v : Value) (w : World) : (Go.method 245 92 v "Comparable").run Tryd.prog w = .ok (86, v) w := by kernel_rfl
theorem is.comp : (Tryd.prog.info? 46).map (·.comparable) = some true := by kernel_rfl
theorem is.noIs (v : Value) (xT : TypeId) (w : World) : (Instr.typeAssert (.iface 46 v) xT 94 true).run Tryd.prog w = .ok (.tuple #[.nilIface, .bool false]) w := run_typeAssert_lacksB Tryd.underlying94 (by kernel_rfl) (by kernel_rfl) v xT w
theorem is.noUnwrap (v : Value) (xT : TypeId) (w : World) : (Instr.typeAssert (.iface 46 v) xT 97 true).run Tryd.prog w = .ok (.tuple #[.nilIface, .bool false]) w := run_typeAssert_lacksB Tryd.underlying97 (by kernel_rfl) (by kernel_rfl) v xT w
theorem is.noUnwraps (v : Value) (xT : TypeId) (w : World) : (Instr.typeAssert (.iface 46 v) xT 99 true).run Tryd.prog w = .ok (.tuple #[.nilIface, .bool false]) w := run_typeAssert_lacksB Tryd.underlying99 (by kernel_rfl) (by kernel_rfl) v xT w
theorem is.eql (a c : Int) (w : World) : (binOp .eql 23 (.iface 46 (.int .i64 a)) (.iface 46 (.int .i64 c))).run Tryd.prog w = .ok (.bool (a == c)) w := by
  obtain ⟨i, hi, hcmp⟩ := Option.map_eq_some_iff.1 is.comp
  have h1 := Tryd.underlying23
  have h2 := Tryd.underlying46
  have h : ∀ d : Nat, (Op.equalIn (d + 2) 23 (.iface 46 (.int .i64 a)) (.iface 46 (.int .i64 c))).run Tryd.prog w = .ok (a == c) w := fun d => by
    simp [Op.equalIn, run_underlying h1, run_underlying h2, typeInfo, hi, hcmp]
  simp only [binOp]
  simp [Op.equal, Op.maxDepth, h 9998]
set_option maxRecDepth 100000 in
/-- errors.Is of two numbers. -/
theorem is.no (a c : Int) (w : World) : Calls Tryd.prog 27 #[.iface 46 (.int .i64 a), .iface 46 (.int .i64 c)] w fun e w' => e = .returned (.bool (a == c)) ∧ w' = w := by
  have tT := is.typeOf
  have cT := is.comparable
  have mR := is.methodComparable
  have nE := is.noIs
  have uE := is.noUnwrap
  have vE := is.noUnwraps
  have heq := is.eql a c
  cases hb : a == c with
  | true =>
    rw [hb] at heq
    go_enter Tryd.func27, Tryd.ntmps27
    go_wp2
    refine wp_loop_rounds 1 ?_
    rw [rounds_succ]
    go_wp2
    go_ret
    exact ⟨rfl, rfl⟩
  | false =>
    rw [hb] at heq
    go_enter Tryd.func27, Tryd.ntmps27
    go_wp2
    refine wp_loop_rounds 1 ?_
    rw [rounds_succ]
    go_wp2
    go_ret
    exact ⟨rfl, rfl⟩
end Go.Proofs.YtjgjbdphjccpcaaDoor
