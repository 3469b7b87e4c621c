/-
  The types of the program that its functions here use. Written by a program of this session.
-/
import Derived.Test.YtjgjbdphjccpcaaDoorAbsZb
import Derived.Test.YtjgjbdphjccpcaaDoorProg
namespace Go.Proofs.YtjgjbdphjccpcaaDoor
open Go Abs
set_option linter.unusedVariables false
set_option maxRecDepth 100000
def tt : Tab := [(3, ⟨.int .i64, 1, 8, false⟩), (4, ⟨.bool, 1, 1, false⟩), (5, ⟨.int .u8, 1, 1, false⟩), (9, ⟨.str, 1, 16, false⟩), (21, ⟨.int .i32, 1, 4, false⟩), (23, ⟨.err, 1, 16, false⟩), (35, ⟨.slice 5, 1, 24, false⟩), (71, ⟨.slice 3, 1, 24, false⟩)]
theorem ty3 : TeOk Tryd.prog tt 3 ⟨.int .i64, 1, 8, false⟩ := ⟨⟨(by show infoB _ _ _ _ _; unfold infoB; kernel_rfl), by decide⟩, ⟨Tryd.underlying3, rfl⟩⟩
theorem ty4 : TeOk Tryd.prog tt 4 ⟨.bool, 1, 1, false⟩ := ⟨⟨(by show infoB _ _ _ _ _; unfold infoB; kernel_rfl), by decide⟩, ⟨Tryd.underlying4, rfl⟩⟩
theorem ty5 : TeOk Tryd.prog tt 5 ⟨.int .u8, 1, 1, false⟩ := ⟨⟨(by show infoB _ _ _ _ _; unfold infoB; kernel_rfl), by decide⟩, ⟨Tryd.underlying5, rfl⟩⟩
theorem ty9 : TeOk Tryd.prog tt 9 ⟨.str, 1, 16, false⟩ := ⟨⟨(by show infoB _ _ _ _ _; unfold infoB; kernel_rfl), by decide⟩, ⟨Tryd.underlying9, rfl⟩⟩
theorem ty21 : TeOk Tryd.prog tt 21 ⟨.int .i32, 1, 4, false⟩ := ⟨⟨(by show infoB _ _ _ _ _; unfold infoB; kernel_rfl), by decide⟩, ⟨Tryd.underlying21, rfl⟩⟩
theorem ty23 : TeOk Tryd.prog tt 23 ⟨.err, 1, 16, false⟩ := ⟨⟨(by show infoB _ _ _ _ _; unfold infoB; kernel_rfl), by decide⟩, ⟨⟨_, Tryd.underlying23⟩, rfl⟩⟩
theorem ty35 : TeOk Tryd.prog tt 35 ⟨.slice 5, 1, 24, false⟩ := ⟨⟨(by show infoB _ _ _ _ _; unfold infoB; kernel_rfl), by decide⟩, ⟨Tryd.underlying35, rfl⟩⟩
theorem ty71 : TeOk Tryd.prog tt 71 ⟨.slice 3, 1, 24, false⟩ := ⟨⟨(by show infoB _ _ _ _ _; unfold infoB; kernel_rfl), by decide⟩, ⟨Tryd.underlying71, rfl⟩⟩
theorem tab : TabOk Tryd.prog tt := .of ⟨ty3, ty4, ty5, ty9, ty21, ty23, ty35, ty71, trivial⟩
def cfg : Cfg := ⟨tt, 46, 7, [(0, fun o => ∃ (w : World) (m : Int), o = w.heap[0]? ∧ w.cell? ⟨0, 0, none⟩ = some (.int .i64 m))]⟩
theorem cfgOk : CfgOk Tryd.prog cfg := ⟨tab, ⟨_, Tryd.underlying46⟩, ⟨_, Tryd.underlying7⟩⟩
theorem mixed : Tryd.prog.follows .mixedOrders = true := by kernel_rfl
end Go.Proofs.YtjgjbdphjccpcaaDoor
