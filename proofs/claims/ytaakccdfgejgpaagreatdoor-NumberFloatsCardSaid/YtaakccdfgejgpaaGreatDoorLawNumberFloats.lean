/-
  The law NumberFloats: for every input it returns true; each argument reads behind the call as it read before.
-/
import Derived.Test.YtaakccdfgejgpaaGreatDoorAbsZd
import Derived.Test.YtaakccdfgejgpaaGreatDoorM4
import Derived.Test.YtaakccdfgejgpaaGreatDoorG2
import Derived.LaidMore
import Derived.Stop.Joined
import Derived.Shelf.Vars
import Derived.Test.YtaakccdfgejgpaaGreatDoorCards
import Derived.Test.YtaakccdfgejgpaaGreatDoorTie
import Derived.SevenTiedAt
namespace Go.Proofs.YtaakccdfgejgpaaGreatDoor.numberFloats
open Go Go.ChangeShapes Go.WideShapes Go.ChangeAt Go.RowKit Abs
open Go.ChangeMaps (open_string shut_string)
set_option linter.unusedVariables false
theorem own : ownKnob Tryz.prog.godebug = none := by kernel_rfl
set_option maxRecDepth 100000 in
theorem enters {R : Type} (k : Nat) (x0 : List UInt8) (x1 : Int) (K : AVal → List (Nat × Blk) → List Blk → List Nat → Option R) : cavillaw09_NumberFloats.ct.run k [.str x0, .int .i64 x1] [] 0 K = bindO (cavillaw09_NumberFloats.m k x0 x1) fun b => K (.bool b) [] [] [] := by kernel_rfl
set_option maxRecDepth 100000 in
theorem door_met (os : Os) (args : Array Value) : laidMetH Tryz.prog Rows.numberFloatsRow.laid ((laidW Tryz.prog Rows.numberFloatsRow.laid os).forCall (fun _ _ => 0) ⟨#[], args, []⟩).memory :=
  laidMetH_of_parts3 (fuel := 8) (laidMet_of_run' 8 (by kernel_rfl) (by kernel_rfl)) (by kernel_rfl) (by kernel_rfl)
set_option maxRecDepth 100000 in
theorem lifted (os : Os) (started : os.Started) (H : Type) (enc : TypeId × Value → H) :
    ReturnsInHanded {} Tryz.checked os 5 .any (fun w args => (Rows.numberFloatsSpec.pre enc Tryz.prog Tryz.f5 Rows.numberFloatsRow.domain false w args ∧ laidMetH Tryz.prog Rows.numberFloatsRow.laid w) ∧ sizedMet enc Tryz.prog Tryz.f5 (OpenSpec.ofChange Rows.numberFloatsSpec) false w args) (Rows.numberFloatsSpec.post enc Tryz.prog Tryz.f5 false true false false) := by
  refine returns_and_shaped (C := Tryz.checked) (X := fun w _ => laidMetH Tryz.prog Rows.numberFloatsRow.laid w) own started (by kernel_rfl) Tryz.func5
    (ChangeSpec.witness_shaped (enc := enc) (C := Tryz.checked) (os := os) (X := fun w _ => laidMetH Tryz.prog Rows.numberFloatsRow.laid w) false (laidW Tryz.prog Rows.numberFloatsRow.laid os) #[.string ByteArray.empty, .int .i64 0] 8 rfl (World.shaped_of_RefB (by kernel_rfl) (by kernel_rfl)) (by kernel_rfl) (by kernel_rfl) (by kernel_rfl) (door_met os _)) ?_
  intro W base args ds gs before hval0 hW hcnd hsz0 hshape _
  have hsz : (DataW.weightsEach Tryz.prog (Tryz.f5.params.toList ++ Rows.numberFloatsSpec.plain.varTypes Tryz.prog) (ds ++ gs)).all (· ≤ reachBytes) = true := hsz0
  have hval : ∀ (j : Nat) t v, Tryz.f5.params[j]? = some t → args[j]? = some v → Value.okWide Tryz.prog W .any base t v := hval0
  have hW' := hW
  obtain ⟨p, q, hA0, hV, rfl, hfz, hnd⟩ := hW
  have hA : DataW.TrodAll enc Tryz.prog W 0 (fun _ => true) true Tryz.f5.params.toList args.toList ds p := hA0
  rw [Tryz.params5] at hA hval hsz
  obtain ⟨v0, vs0, d0, ds0, p0, q0, hargs, rfl, rfl, h0, r0⟩ := trodAll_cons hA
  obtain ⟨v1, vs1, d1, ds1, p1, q1, rfl, rfl, rfl, h1, r1⟩ := trodAll_cons r0
  obtain ⟨rfl, rfl, rfl⟩ := trodAll_nil r1
  obtain rfl : args = #[v0, v1] := by cases args; simp_all
  obtain ⟨rfl, rfl⟩ := trodVars_none hV
  obtain ⟨mx, hmx⟩ := cell_of_shapedOpen_int hshape (g := 2) (t := 3) (zero := #[.int .i64 0]) (of_decide_eq_true (by kernel_rfl)) (by kernel_rfl) rfl (by kernel_rfl) (by kernel_rfl) Tryz.underlying3
  have gl : Gl cfg (fun _ => False) W := by
    intro x hx
    obtain rfl : x = _ := List.mem_singleton.1 hx
    refine ⟨fun h => h, ?_, W, mx, rfl, hmx⟩
    unfold World.cell? at hmx
    split at hmx
    · rename_i hb; exact (Array.getElem?_eq_some_iff.1 hb).1
    · cases hmx
  obtain ⟨a0, rfl, rfl, rfl, y0⟩ := open_string Tryz.underlying9 (hval 0 9 v0 rfl rfl) h0
  have w0 : a0.size ≤ 140737488351232 := by
    have z := sized_string hsz (j := 0) (t := 9) rfl rfl
    rw [Array.length_toList] at z
    exact z
  obtain ⟨a1, rfl, rfl, rfl, w1⟩ := open_int Tryz.underlying3 (hval 1 3 v1 rfl rfl) h1
  clear hA0 hval0 hsz0 hsz
  obtain ⟨k, hk⟩ := Pure.NumberFloats a0.data.toList a1 w0 (wf_rng w1).1 (wf_rng w1).2
  have hrun := enters k a0.data.toList a1 (fun v bs ns D => some (v, bs, ns, D))
  rw [hk] at hrun
  have hh := HR.entry (C := cfg) gl [] (by
    intro x hx
    cases hx)
  refine (Snd.row (cavillaw09_NumberFloats.snd k) cavillaw09_NumberFloats.ok.enters hrun hh (cs := [_, _]) ⟨⟨(by show a0.data.size < 4611686018427387904; exact Nat.lt_of_le_of_lt w0 (by decide)), rfl⟩, ⟨wf_rng w1, rfl⟩, trivial⟩).mono fun e W' ⟨he, bel⟩ => ?_
  subst he
  exact ⟨_, rfl, _, _, _, [], _, [], hW', trodAll_mk1 (shut_bool Tryz.underlying4 _), (trodAll_cons_mk (shut_string Tryz.underlying9 y0) (trodAll_cons_mk (shut_int Tryz.underlying3 w1) trodAll_mk0)), rfl, bel.frame _, fun h => by cases h⟩
theorem over : Rows.numberFloatsRow.holds Tryz.pinned (OpenSpec.ofChange Rows.numberFloatsSpec) :=
  OpenClaim.holds_of_wide 5 Tryz.f5 rfl rfl rfl rfl rfl rfl rfl ⟨rfl, rfl, rfl, rfl, rfl⟩ rfl rfl rfl rfl rfl (by kernel_rfl) Tryz.func5 (by kernel_rfl)
    (of_decide_eq_true (by kernel_rfl)) (by unfold Func.isWrapper; first | (rw [if_pos (by decide +kernel)]; kernel_rfl) | (rw [if_neg (by decide +kernel)]; exact ⟨rfl, rfl⟩))
    (fun os started H enc _ => lifted os started H enc)
theorem proved : Rows.NumberFloatsCardSaid :=
  Claim7.holds_tied_plain_at .later [] [.data, .pinned] true (true, "60e967dc9899789d0b1d52cfc7e7919202761b16f84425a4bc5683a75ff2b3ab") true
    over (fun _ h => by cases h) (by kernel_rfl) (fun _ h => by cases h) numberFloats_row_tie rfl ⟨rfl, rfl⟩ (by kernel_rfl) rfl
    (fun f fn hf hfn => by
      obtain rfl : f = 5 := Option.some.inj ((show Tryz.prog.funcNamed "cavil/cavillaw09.NumberFloats" = some 5 by kernel_rfl).symm.trans hf) |>.symm
      obtain rfl : fn = Tryz.f5 := (Option.some.inj (Tryz.func5.symm.trans hfn)).symm
      exact ⟨by kernel_rfl, fun j t ht => by
        rw [Tryz.params5] at ht
        have hm : t ∈ [9, 3] := by simpa using Array.mem_of_getElem? ht
        have hall : ([9, 3].all fun u => !Tryz.prog.wantsStandIn u) = true := by kernel_rfl
        exact (show Tryz.prog.wantsStandIn t = false by simpa using List.all_eq_true.1 hall t hm)⟩)
    (by kernel_rfl)
#print axioms proved
end Go.Proofs.YtaakccdfgejgpaaGreatDoor.numberFloats
namespace Go.Proofs.YtaakccdfgejgpaaGreatDoor
/-- The row, under a short name, for the claim. -/
theorem numberFloats_holds : Rows.NumberFloatsCardSaid := numberFloats.proved
end Go.Proofs.YtaakccdfgejgpaaGreatDoor
