/-
  The law NumberDecimal: for every input it returns true; each argument reads behind the call as it read before.
-/
import Derived.Test.YtaakccdfgejgpaaGreatDoorAbsZd
import Derived.Test.YtaakccdfgejgpaaGreatDoorM3
import Derived.Test.YtaakccdfgejgpaaGreatDoorG2
import Derived.LaidMore
import Derived.Stop.Joined
import Derived.Shelf.Vars
import Derived.Test.YtaakccdfgejgpaaGreatDoorCards
import Derived.Test.YtaakccdfgejgpaaGreatDoorTie
import Derived.SevenTiedAt
namespace Go.Proofs.YtaakccdfgejgpaaGreatDoor.numberDecimal
open Go Go.ChangeShapes Go.WideShapes Go.ChangeAt Go.RowKit Abs
open Go.ChangeMaps (open_string shut_string)
set_option linter.unusedVariables false
theorem own : ownKnob Tryz.prog.godebug = none := by kernel_rfl
theorem laidOut : laidOutB Tryz.prog = true := by kernel_rfl
set_option maxRecDepth 100000 in
theorem enters {R : Type} (k : Nat) (x0 : Bool) (z0 : List Int) (x1 : Int) (K : AVal → List (Nat × Blk) → List Blk → List Nat → Option R) : cavillaw09_NumberDecimal.ct.run k [.agg (.pair (.bool x0) (.pair (.arr 8 (.int .u64 z0)) .nil)), .int .u8 x1] [] 0 K = bindO (cavillaw09_NumberDecimal.m k x0 z0 x1) fun b => K (.bool b) [] [] [] := by kernel_rfl
set_option maxRecDepth 100000 in
theorem door_met (os : Os) (args : Array Value) : laidMetH Tryz.prog Rows.numberDecimalRow.laid ((laidW Tryz.prog Rows.numberDecimalRow.laid os).forCall (fun _ _ => 0) ⟨#[], args, []⟩).memory :=
  laidMetH_of_parts3 (fuel := 8) (laidMet_of_run' 8 (by kernel_rfl) (by kernel_rfl)) (by kernel_rfl) (by kernel_rfl)
set_option maxRecDepth 100000 in
theorem lifted (os : Os) (started : os.Started) (H : Type) (enc : TypeId × Value → H) :
    ReturnsInHanded {} Tryz.checked os 6 .any (fun w args => (Rows.numberDecimalSpec.pre enc Tryz.prog Tryz.f6 Rows.numberDecimalRow.domain false w args ∧ laidMetH Tryz.prog Rows.numberDecimalRow.laid w) ∧ sizedMet enc Tryz.prog Tryz.f6 (OpenSpec.ofChange Rows.numberDecimalSpec) false w args) (Rows.numberDecimalSpec.post enc Tryz.prog Tryz.f6 false true false false) := by
  refine returns_and_shaped (C := Tryz.checked) (X := fun w _ => laidMetH Tryz.prog Rows.numberDecimalRow.laid w) own started (by kernel_rfl) Tryz.func6
    (ChangeSpec.witness_shaped (enc := enc) (C := Tryz.checked) (os := os) (X := fun w _ => laidMetH Tryz.prog Rows.numberDecimalRow.laid w) false (laidW Tryz.prog Rows.numberDecimalRow.laid os) #[.agg #[.bool false, .int .u64 0, .int .u64 0, .int .u64 0, .int .u64 0, .int .u64 0, .int .u64 0, .int .u64 0, .int .u64 0], .int .u8 0] 8 rfl (World.shaped_of_RefB (by kernel_rfl) (by kernel_rfl)) (by kernel_rfl) (by kernel_rfl) (by kernel_rfl) (door_met os _)) ?_
  intro W base args ds gs before hval0 hW hcnd hsz0 hshape _
  have hsz : (DataW.weightsEach Tryz.prog (Tryz.f6.params.toList ++ Rows.numberDecimalSpec.plain.varTypes Tryz.prog) (ds ++ gs)).all (· ≤ reachBytes) = true := hsz0
  have hval : ∀ (j : Nat) t v, Tryz.f6.params[j]? = some t → args[j]? = some v → Value.okWide Tryz.prog W .any base t v := hval0
  have hW' := hW
  obtain ⟨p, q, hA0, hV, rfl, hfz, hnd⟩ := hW
  have hA : DataW.TrodAll enc Tryz.prog W 0 (fun _ => true) true Tryz.f6.params.toList args.toList ds p := hA0
  rw [Tryz.params6] at hA hval hsz
  obtain ⟨v0, vs0, d0, ds0, p0, q0, hargs, rfl, rfl, h0, r0⟩ := trodAll_cons hA
  obtain ⟨v1, vs1, d1, ds1, p1, q1, rfl, rfl, rfl, h1, r1⟩ := trodAll_cons r0
  obtain ⟨rfl, rfl, rfl⟩ := trodAll_nil r1
  obtain rfl : args = #[v0, v1] := by cases args; simp_all
  obtain ⟨rfl, rfl⟩ := trodVars_none hV
  obtain ⟨mx, hmx⟩ := cell_of_shapedOpen_int hshape (g := 2) (t := 3) (zero := #[.int .i64 0]) (of_decide_eq_true (by kernel_rfl)) (by kernel_rfl) rfl (by kernel_rfl) (by kernel_rfl) Tryz.underlying3
  have gl : Gl cfg (fun _ => False) W := by
    intro x hx
    obtain rfl : x = _ := List.mem_singleton.1 hx
    refine ⟨fun h => h, ?_, W, mx, rfl, hmx⟩
    unfold World.cell? at hmx
    split at hmx
    · rename_i hb; exact (Array.getElem?_eq_some_iff.1 hb).1
    · cases hmx
  obtain ⟨b0, a0, y0, w0, rfl⟩ := open_num (n := 8) (k := .u64) Tryz.underlying35 ⟨rfl, rfl⟩ ⟨rfl, rfl⟩ Tryz.underlying4 Tryz.underlying33 Tryz.underlying32 (by kernel_rfl) (by kernel_rfl) (by kernel_rfl) (by kernel_rfl) (hval 0 35 v0 rfl rfl) h0
  have k0 := h0
  have lt0 : ∀ x ∈ p0, x.block < W.heap.size := by obtain ⟨m, hm⟩ := k0; exact DataW.trod_lt m _ _ _ hm
  obtain ⟨a1, rfl, rfl, rfl, w1⟩ := open_int Tryz.underlying5 (hval 1 5 v1 rfl rfl) h1
  clear hA0 hval0 hsz0 hsz
  obtain ⟨k, hk⟩ := Pure.NumberDecimal b0 a0 a1 y0 w0 (wf_rng w1).1 (wf_rng w1).2
  have hrun := enters k b0 a0 a1 (fun v bs ns D => some (v, bs, ns, D))
  rw [hk] at hrun
  have hh := HR.entry (C := cfg) gl [] (by
    intro x hx
    cases hx)
  refine (Snd.row (cavillaw09_NumberDecimal.snd k) cavillaw09_NumberDecimal.ok.enters hrun hh (cs := [_, _]) ⟨⟨_, ⟨_, _, rfl, ⟨_, _, ⟨y0, w0, rfl⟩, rfl, rfl⟩, rfl⟩, rfl⟩, ⟨wf_rng w1, rfl⟩, trivial⟩).mono fun e W' ⟨he, bel⟩ => ?_
  subst he
  exact ⟨_, rfl, _, _, _, [], _, [], hW', trodAll_mk1 (shut_bool Tryz.underlying4 _), (trodAll_cons_mk (Below.trod laidOut (by kernel_rfl) (of_decide_eq_true (by kernel_rfl)) k0 bel lt0) (trodAll_cons_mk (shut_int Tryz.underlying5 w1) trodAll_mk0)), rfl, bel.frame _, fun h => by cases h⟩
theorem over : Rows.numberDecimalRow.holds Tryz.pinned (OpenSpec.ofChange Rows.numberDecimalSpec) :=
  OpenClaim.holds_of_wide 6 Tryz.f6 rfl rfl rfl rfl rfl rfl rfl ⟨rfl, rfl, rfl, rfl, rfl⟩ rfl rfl rfl rfl rfl (by kernel_rfl) Tryz.func6 (by kernel_rfl)
    (of_decide_eq_true (by kernel_rfl)) (by unfold Func.isWrapper; first | (rw [if_pos (by decide +kernel)]; kernel_rfl) | (rw [if_neg (by decide +kernel)]; exact ⟨rfl, rfl⟩))
    (fun os started H enc _ => lifted os started H enc)
theorem proved : Rows.NumberDecimalCardSaid :=
  Claim7.holds_tied_plain_at .later [] [.data, .pinned] true (true, "60e967dc9899789d0b1d52cfc7e7919202761b16f84425a4bc5683a75ff2b3ab") true
    over (fun _ h => by cases h) (by kernel_rfl) (fun _ h => by cases h) numberDecimal_row_tie rfl ⟨rfl, rfl⟩ (by kernel_rfl) rfl
    (fun f fn hf hfn => by
      obtain rfl : f = 6 := Option.some.inj ((show Tryz.prog.funcNamed "cavil/cavillaw09.NumberDecimal" = some 6 by kernel_rfl).symm.trans hf) |>.symm
      obtain rfl : fn = Tryz.f6 := (Option.some.inj (Tryz.func6.symm.trans hfn)).symm
      exact ⟨by kernel_rfl, fun j t ht => by
        rw [Tryz.params6] at ht
        have hm : t ∈ [35, 5] := by simpa using Array.mem_of_getElem? ht
        have hall : ([35, 5].all fun u => !Tryz.prog.wantsStandIn u) = true := by kernel_rfl
        exact (show Tryz.prog.wantsStandIn t = false by simpa using List.all_eq_true.1 hall t hm)⟩)
    (by kernel_rfl)
#print axioms proved
end Go.Proofs.YtaakccdfgejgpaaGreatDoor.numberDecimal
namespace Go.Proofs.YtaakccdfgejgpaaGreatDoor
/-- The row, under a short name, for the claim. -/
theorem numberDecimal_holds : Rows.NumberDecimalCardSaid := numberDecimal.proved
end Go.Proofs.YtaakccdfgejgpaaGreatDoor
