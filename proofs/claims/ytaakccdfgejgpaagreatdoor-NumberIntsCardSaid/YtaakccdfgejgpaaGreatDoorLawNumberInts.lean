/-
  The law NumberInts: for every input it returns true; each argument reads behind the call as it read before.
-/
import Derived.Test.YtaakccdfgejgpaaGreatDoorAbsZd
import Derived.Test.YtaakccdfgejgpaaGreatDoorM4
import Derived.Test.YtaakccdfgejgpaaGreatDoorG2
import Derived.LaidMore
import Derived.Stop.Joined
import Derived.Shelf.Vars
import Derived.Test.YtaakccdfgejgpaaGreatDoorCards
import Derived.Test.YtaakccdfgejgpaaGreatDoorTie
import Derived.SevenTiedAt
namespace Go.Proofs.YtaakccdfgejgpaaGreatDoor.numberInts
open Go Go.ChangeShapes Go.WideShapes Go.ChangeAt Go.RowKit Abs
open Go.ChangeMaps (open_string shut_string)
set_option linter.unusedVariables false
theorem own : ownKnob Tryz.prog.godebug = none := by kernel_rfl
set_option maxRecDepth 100000 in
theorem enters {R : Type} (k : Nat) (x0 : List UInt8) (K : AVal → List (Nat × Blk) → List Blk → List Nat → Option R) : cavillaw09_NumberInts.ct.run k [.str x0] [] 0 K = bindO (cavillaw09_NumberInts.m k x0) fun b => K (.bool b) [] [] [] := by kernel_rfl
set_option maxRecDepth 100000 in
theorem door_met (os : Os) (args : Array Value) : laidMetH Tryz.prog Rows.numberIntsRow.laid ((laidW Tryz.prog Rows.numberIntsRow.laid os).forCall (fun _ _ => 0) ⟨#[], args, []⟩).memory :=
  laidMetH_of_parts3 (fuel := 8) (laidMet_of_run' 8 (by kernel_rfl) (by kernel_rfl)) (by kernel_rfl) (by kernel_rfl)
set_option maxRecDepth 100000 in
theorem lifted (os : Os) (started : os.Started) (H : Type) (enc : TypeId × Value → H) :
    ReturnsInHanded {} Tryz.checked os 4 .any (fun w args => (Rows.numberIntsSpec.pre enc Tryz.prog Tryz.f4 Rows.numberIntsRow.domain false w args ∧ laidMetH Tryz.prog Rows.numberIntsRow.laid w) ∧ sizedMet enc Tryz.prog Tryz.f4 (OpenSpec.ofChange Rows.numberIntsSpec) false w args) (Rows.numberIntsSpec.post enc Tryz.prog Tryz.f4 false true false false) := by
  refine returns_and_shaped (C := Tryz.checked) (X := fun w _ => laidMetH Tryz.prog Rows.numberIntsRow.laid w) own started (by kernel_rfl) Tryz.func4
    (ChangeSpec.witness_shaped (enc := enc) (C := Tryz.checked) (os := os) (X := fun w _ => laidMetH Tryz.prog Rows.numberIntsRow.laid w) false (laidW Tryz.prog Rows.numberIntsRow.laid os) #[.string ByteArray.empty] 8 rfl (World.shaped_of_RefB (by kernel_rfl) (by kernel_rfl)) (by kernel_rfl) (by kernel_rfl) (by kernel_rfl) (door_met os _)) ?_
  intro W base args ds gs before hval0 hW hcnd hsz0 hshape _
  have hsz : (DataW.weightsEach Tryz.prog (Tryz.f4.params.toList ++ Rows.numberIntsSpec.plain.varTypes Tryz.prog) (ds ++ gs)).all (· ≤ reachBytes) = true := hsz0
  have hval : ∀ (j : Nat) t v, Tryz.f4.params[j]? = some t → args[j]? = some v → Value.okWide Tryz.prog W .any base t v := hval0
  have hW' := hW
  obtain ⟨p, q, hA0, hV, rfl, hfz, hnd⟩ := hW
  have hA : DataW.TrodAll enc Tryz.prog W 0 (fun _ => true) true Tryz.f4.params.toList args.toList ds p := hA0
  rw [Tryz.params4] at hA hval hsz
  obtain ⟨v0, vs0, d0, ds0, p0, q0, hargs, rfl, rfl, h0, r0⟩ := trodAll_cons hA
  obtain ⟨rfl, rfl, rfl⟩ := trodAll_nil r0
  obtain rfl : args = #[v0] := by cases args; simp_all
  obtain ⟨rfl, rfl⟩ := trodVars_none hV
  obtain ⟨mx, hmx⟩ := cell_of_shapedOpen_int hshape (g := 2) (t := 3) (zero := #[.int .i64 0]) (of_decide_eq_true (by kernel_rfl)) (by kernel_rfl) rfl (by kernel_rfl) (by kernel_rfl) Tryz.underlying3
  have gl : Gl cfg (fun _ => False) W := by
    intro x hx
    obtain rfl : x = _ := List.mem_singleton.1 hx
    refine ⟨fun h => h, ?_, W, mx, rfl, hmx⟩
    unfold World.cell? at hmx
    split at hmx
    · rename_i hb; exact (Array.getElem?_eq_some_iff.1 hb).1
    · cases hmx
  obtain ⟨a0, rfl, rfl, rfl, y0⟩ := open_string Tryz.underlying9 (hval 0 9 v0 rfl rfl) h0
  have w0 : a0.size ≤ 140737488351232 := by
    have z := sized_string hsz (j := 0) (t := 9) rfl rfl
    rw [Array.length_toList] at z
    exact z
  clear hA0 hval0 hsz0 hsz
  obtain ⟨k, hk⟩ := Pure.NumberInts a0.data.toList w0
  have hrun := enters k a0.data.toList (fun v bs ns D => some (v, bs, ns, D))
  rw [hk] at hrun
  have hh := HR.entry (C := cfg) gl [] (by
    intro x hx
    cases hx)
  refine (Snd.row (cavillaw09_NumberInts.snd k) cavillaw09_NumberInts.ok.enters hrun hh (cs := [_]) ⟨⟨(by show a0.data.size < 4611686018427387904; exact Nat.lt_of_le_of_lt w0 (by decide)), rfl⟩, trivial⟩).mono fun e W' ⟨he, bel⟩ => ?_
  subst he
  exact ⟨_, rfl, _, _, _, [], _, [], hW', trodAll_mk1 (shut_bool Tryz.underlying4 _), (trodAll_cons_mk (shut_string Tryz.underlying9 y0) trodAll_mk0), rfl, bel.frame _, fun h => by cases h⟩
theorem over : Rows.numberIntsRow.holds Tryz.pinned (OpenSpec.ofChange Rows.numberIntsSpec) :=
  OpenClaim.holds_of_wide 4 Tryz.f4 rfl rfl rfl rfl rfl rfl rfl ⟨rfl, rfl, rfl, rfl, rfl⟩ rfl rfl rfl rfl rfl (by kernel_rfl) Tryz.func4 (by kernel_rfl)
    (of_decide_eq_true (by kernel_rfl)) (by unfold Func.isWrapper; first | (rw [if_pos (by decide +kernel)]; kernel_rfl) | (rw [if_neg (by decide +kernel)]; exact ⟨rfl, rfl⟩))
    (fun os started H enc _ => lifted os started H enc)
theorem proved : Rows.NumberIntsCardSaid :=
  Claim7.holds_tied_plain_at .later [] [.data, .pinned] true (true, "60e967dc9899789d0b1d52cfc7e7919202761b16f84425a4bc5683a75ff2b3ab") true
    over (fun _ h => by cases h) (by kernel_rfl) (fun _ h => by cases h) numberInts_row_tie rfl ⟨rfl, rfl⟩ (by kernel_rfl) rfl
    (fun f fn hf hfn => by
      obtain rfl : f = 4 := Option.some.inj ((show Tryz.prog.funcNamed "cavil/cavillaw09.NumberInts" = some 4 by kernel_rfl).symm.trans hf) |>.symm
      obtain rfl : fn = Tryz.f4 := (Option.some.inj (Tryz.func4.symm.trans hfn)).symm
      exact ⟨by kernel_rfl, fun j t ht => by
        rw [Tryz.params4] at ht
        have hm : t ∈ [9] := by simpa using Array.mem_of_getElem? ht
        have hall : ([9].all fun u => !Tryz.prog.wantsStandIn u) = true := by kernel_rfl
        exact (show Tryz.prog.wantsStandIn t = false by simpa using List.all_eq_true.1 hall t hm)⟩)
    (by kernel_rfl)
#print axioms proved
end Go.Proofs.YtaakccdfgejgpaaGreatDoor.numberInts
namespace Go.Proofs.YtaakccdfgejgpaaGreatDoor
/-- The row, under a short name, for the claim. -/
theorem numberInts_holds : Rows.NumberIntsCardSaid := numberInts.proved
end Go.Proofs.YtaakccdfgejgpaaGreatDoor
