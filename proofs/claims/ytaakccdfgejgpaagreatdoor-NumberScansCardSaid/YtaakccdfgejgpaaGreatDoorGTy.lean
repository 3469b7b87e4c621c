/-
  The types of the program that its functions here use. Written by a program of this session.
-/
import Derived.Test.YtaakccdfgejgpaaGreatDoorAbsZe
import Derived.Test.YtaakccdfgejgpaaGreatDoorProg
namespace Go.Proofs.YtaakccdfgejgpaaGreatDoor
open Go Abs
set_option linter.unusedVariables false
set_option maxRecDepth 100000
def tt : Tab := [(2, ⟨.int .i64, 1, 8, false⟩), (3, ⟨.int .i64, 1, 8, false⟩), (4, ⟨.bool, 1, 1, false⟩), (5, ⟨.int .u8, 1, 1, false⟩), (9, ⟨.str, 1, 16, false⟩), (22, ⟨.slice 5, 1, 24, false⟩), (24, ⟨.err, 1, 16, false⟩), (32, ⟨.int .u64, 1, 8, false⟩), (33, ⟨.arr 8 32, 8, 64, true⟩), (35, ⟨.struct [(4, 0), (33, 1)], 9, 72, true⟩), (38, ⟨.slice 3, 1, 24, false⟩), (40, ⟨.struct [(4, 0), (38, 1)], 2, 32, false⟩), (46, ⟨.struct [(35, 0), (35, 9)], 18, 144, true⟩), (135, ⟨.ptr 157, 1, 8, false⟩), (141, ⟨.int .u64, 1, 8, false⟩), (155, ⟨.struct [(24, 0)], 1, 16, false⟩), (157, ⟨.struct [(155, 0)], 1, 16, false⟩)]
theorem ty2 : TeOk Tryz.prog tt 2 ⟨.int .i64, 1, 8, false⟩ := ⟨⟨(by show infoB _ _ _ _ _; unfold infoB; kernel_rfl), by decide⟩, ⟨Tryz.underlying2, rfl⟩⟩
theorem ty3 : TeOk Tryz.prog tt 3 ⟨.int .i64, 1, 8, false⟩ := ⟨⟨(by show infoB _ _ _ _ _; unfold infoB; kernel_rfl), by decide⟩, ⟨Tryz.underlying3, rfl⟩⟩
theorem ty4 : TeOk Tryz.prog tt 4 ⟨.bool, 1, 1, false⟩ := ⟨⟨(by show infoB _ _ _ _ _; unfold infoB; kernel_rfl), by decide⟩, ⟨Tryz.underlying4, rfl⟩⟩
theorem ty5 : TeOk Tryz.prog tt 5 ⟨.int .u8, 1, 1, false⟩ := ⟨⟨(by show infoB _ _ _ _ _; unfold infoB; kernel_rfl), by decide⟩, ⟨Tryz.underlying5, rfl⟩⟩
theorem ty9 : TeOk Tryz.prog tt 9 ⟨.str, 1, 16, false⟩ := ⟨⟨(by show infoB _ _ _ _ _; unfold infoB; kernel_rfl), by decide⟩, ⟨Tryz.underlying9, rfl⟩⟩
theorem ty22 : TeOk Tryz.prog tt 22 ⟨.slice 5, 1, 24, false⟩ := ⟨⟨(by show infoB _ _ _ _ _; unfold infoB; kernel_rfl), by decide⟩, ⟨Tryz.underlying22, rfl⟩⟩
theorem ty24 : TeOk Tryz.prog tt 24 ⟨.err, 1, 16, false⟩ := ⟨⟨(by show infoB _ _ _ _ _; unfold infoB; kernel_rfl), by decide⟩, ⟨⟨_, Tryz.underlying24⟩, rfl⟩⟩
theorem ty32 : TeOk Tryz.prog tt 32 ⟨.int .u64, 1, 8, false⟩ := ⟨⟨(by show infoB _ _ _ _ _; unfold infoB; kernel_rfl), by decide⟩, ⟨Tryz.underlying32, rfl⟩⟩
theorem ty33 : TeOk Tryz.prog tt 33 ⟨.arr 8 32, 8, 64, true⟩ := ⟨⟨(by show infoB _ _ _ _ _; unfold infoB; kernel_rfl), by decide⟩, ⟨Tryz.underlying33, rfl, fun _ => ⟨by kernel_rfl, by kernel_rfl, by kernel_rfl⟩, by decide⟩⟩
theorem ty35 : TeOk Tryz.prog tt 35 ⟨.struct [(4, 0), (33, 1)], 9, 72, true⟩ := ⟨⟨(by show infoB _ _ _ _ _; unfold infoB; kernel_rfl), by decide⟩, ⟨⟨_, Tryz.underlying35, rfl⟩, rfl, rfl, fun _ => ⟨by kernel_rfl, by kernel_rfl, by kernel_rfl⟩⟩⟩
theorem ty38 : TeOk Tryz.prog tt 38 ⟨.slice 3, 1, 24, false⟩ := ⟨⟨(by show infoB _ _ _ _ _; unfold infoB; kernel_rfl), by decide⟩, ⟨Tryz.underlying38, rfl⟩⟩
theorem ty40 : TeOk Tryz.prog tt 40 ⟨.struct [(4, 0), (38, 1)], 2, 32, false⟩ := ⟨⟨(by show infoB _ _ _ _ _; unfold infoB; kernel_rfl), by decide⟩, ⟨⟨_, Tryz.underlying40, rfl⟩, rfl, rfl, fun h => by cases h⟩⟩
theorem ty46 : TeOk Tryz.prog tt 46 ⟨.struct [(35, 0), (35, 9)], 18, 144, true⟩ := ⟨⟨(by show infoB _ _ _ _ _; unfold infoB; kernel_rfl), by decide⟩, ⟨⟨_, Tryz.underlying46, rfl⟩, rfl, rfl, fun _ => ⟨by kernel_rfl, by kernel_rfl, by kernel_rfl⟩⟩⟩
theorem ty135 : TeOk Tryz.prog tt 135 ⟨.ptr 157, 1, 8, false⟩ := ⟨⟨(by show infoB _ _ _ _ _; unfold infoB; kernel_rfl), by decide⟩, ⟨Tryz.underlying135, rfl⟩⟩
theorem ty141 : TeOk Tryz.prog tt 141 ⟨.int .u64, 1, 8, false⟩ := ⟨⟨(by show infoB _ _ _ _ _; unfold infoB; kernel_rfl), by decide⟩, ⟨Tryz.underlying141, rfl⟩⟩
theorem ty155 : TeOk Tryz.prog tt 155 ⟨.struct [(24, 0)], 1, 16, false⟩ := ⟨⟨(by show infoB _ _ _ _ _; unfold infoB; kernel_rfl), by decide⟩, ⟨⟨_, Tryz.underlying155, rfl⟩, rfl, rfl, fun h => by cases h⟩⟩
theorem ty157 : TeOk Tryz.prog tt 157 ⟨.struct [(155, 0)], 1, 16, false⟩ := ⟨⟨(by show infoB _ _ _ _ _; unfold infoB; kernel_rfl), by decide⟩, ⟨⟨_, Tryz.underlying157, rfl⟩, rfl, rfl, fun h => by cases h⟩⟩
theorem tab : TabOk Tryz.prog tt := .of ⟨ty2, ty3, ty4, ty5, ty9, ty22, ty24, ty32, ty33, ty35, ty38, ty40, ty46, ty135, ty141, ty155, ty157, trivial⟩
def cfg : Cfg := ⟨tt, 61, 7, [(2, fun o => ∃ (w : World) (m : Int), o = w.heap[2]? ∧ w.cell? ⟨2, 0, none⟩ = some (.int .i64 m))]⟩
theorem cfgOk : CfgOk Tryz.prog cfg := ⟨tab, ⟨_, Tryz.underlying61⟩, ⟨_, Tryz.underlying7⟩⟩
theorem mixed : Tryz.prog.follows .mixedOrders = true := by kernel_rfl
end Go.Proofs.YtaakccdfgejgpaaGreatDoor
