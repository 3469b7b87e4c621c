/-
  The law QuoteReads: for every input it returns true; each argument reads behind the call as it read before.
-/
import Derived.Test.YtjgjbdphjccpcaaDoorAbsZd
import Derived.Test.YtjgjbdphjccpcaaDoorPq
import Derived.Test.YtjgjbdphjccpcaaDoorG1
import Derived.LaidMore
import Derived.Stop.Joined
import Derived.Shelf.Vars
import Derived.Test.YtjgjbdphjccpcaaDoorCards
import Derived.Test.YtjgjbdphjccpcaaDoorTie
import Derived.SevenTiedAt
namespace Go.Proofs.YtjgjbdphjccpcaaDoor.quoteReads
open Go Go.ChangeShapes Go.WideShapes Go.ChangeAt Go.RowKit Abs
open Go.ChangeMaps (open_string shut_string)
set_option linter.unusedVariables false
theorem own : ownKnob Tryd.prog.godebug = none := by kernel_rfl
set_option maxRecDepth 100000 in
theorem enters {R : Type} (k : Nat) (x0 : List UInt8) (K : AVal → List (Nat × Blk) → List Blk → List Nat → Option R) : cavillaw10_QuoteReads.ct.run k [.str x0] [] 0 K = bindO (cavillaw10_QuoteReads.m k x0) fun b => K (.bool b) [] [] [] := by kernel_rfl
set_option maxRecDepth 100000 in
theorem door_met (os : Os) (args : Array Value) : laidMetH Tryd.prog Rows.quoteReadsRow.laid ((laidW Tryd.prog Rows.quoteReadsRow.laid os).forCall (fun _ _ => 0) ⟨#[], args, []⟩).memory :=
  laidMetH_of_parts3 (fuel := 8) (laidMet_of_run' 8 (by kernel_rfl) (by kernel_rfl)) (by kernel_rfl) (by kernel_rfl)
set_option maxRecDepth 100000 in
theorem lifted (os : Os) (started : os.Started) (H : Type) (enc : TypeId × Value → H) :
    ReturnsInHanded {} Tryd.checked os 3 .any (fun w args => (Rows.quoteReadsSpec.pre enc Tryd.prog Tryd.f3 Rows.quoteReadsRow.domain false w args ∧ laidMetH Tryd.prog Rows.quoteReadsRow.laid w) ∧ sizedMet enc Tryd.prog Tryd.f3 (OpenSpec.ofChange Rows.quoteReadsSpec) false w args) (Rows.quoteReadsSpec.post enc Tryd.prog Tryd.f3 false true false false) := by
  refine returns_and_shaped (C := Tryd.checked) (X := fun w _ => laidMetH Tryd.prog Rows.quoteReadsRow.laid w) own started (by kernel_rfl) Tryd.func3
    (ChangeSpec.witness_shaped (enc := enc) (C := Tryd.checked) (os := os) (X := fun w _ => laidMetH Tryd.prog Rows.quoteReadsRow.laid w) false (laidW Tryd.prog Rows.quoteReadsRow.laid os) #[.string ByteArray.empty] 8 rfl (World.shaped_of_RefB (by kernel_rfl) (by kernel_rfl)) (by kernel_rfl) (by kernel_rfl) (by kernel_rfl) (door_met os _)) ?_
  intro W base args ds gs before hval0 hW hcnd hsz0 hshape _
  have hsz : (DataW.weightsEach Tryd.prog (Tryd.f3.params.toList ++ Rows.quoteReadsSpec.plain.varTypes Tryd.prog) (ds ++ gs)).all (· ≤ reachBytes) = true := hsz0
  have hval : ∀ (j : Nat) t v, Tryd.f3.params[j]? = some t → args[j]? = some v → Value.okWide Tryd.prog W .any base t v := hval0
  have hW' := hW
  obtain ⟨p, q, hA0, hV, rfl, hfz, hnd⟩ := hW
  have hA : DataW.TrodAll enc Tryd.prog W 0 (fun _ => true) true Tryd.f3.params.toList args.toList ds p := hA0
  rw [Tryd.params3] at hA hval hsz
  obtain ⟨v0, vs0, d0, ds0, p0, q0, hargs, rfl, rfl, h0, r0⟩ := trodAll_cons hA
  obtain ⟨rfl, rfl, rfl⟩ := trodAll_nil r0
  obtain rfl : args = #[v0] := by cases args; simp_all
  obtain ⟨rfl, rfl⟩ := trodVars_none hV
  obtain ⟨mx, hmx⟩ := cell_of_shapedOpen_int hshape (g := 0) (t := 3) (zero := #[.int .i64 0]) (of_decide_eq_true (by kernel_rfl)) (by kernel_rfl) rfl (by kernel_rfl) (by kernel_rfl) Tryd.underlying3
  have gl : Gl cfg (fun _ => False) W := by
    intro x hx
    obtain rfl : x = _ := List.mem_singleton.1 hx
    refine ⟨fun h => h, ?_, W, mx, rfl, hmx⟩
    unfold World.cell? at hmx
    split at hmx
    · rename_i hb; exact (Array.getElem?_eq_some_iff.1 hb).1
    · cases hmx
  obtain ⟨a0, rfl, rfl, rfl, y0⟩ := open_string Tryd.underlying9 (hval 0 9 v0 rfl rfl) h0
  have w0 : a0.size ≤ 140737488351232 := by
    have z := sized_string hsz (j := 0) (t := 9) rfl rfl
    rw [Array.length_toList] at z
    exact z
  clear hA0 hval0 hsz0 hsz
  obtain ⟨k, hk⟩ := Pure.QuoteReads a0.data.toList w0
  have hrun := enters k a0.data.toList (fun v bs ns D => some (v, bs, ns, D))
  rw [hk] at hrun
  have hh := HR.entry (C := cfg) gl [] (by
    intro x hx
    cases hx)
  refine (Snd.row (cavillaw10_QuoteReads.snd k) hrun hh (cs := [_]) ⟨⟨(by show a0.data.size < 4611686018427387904; exact Nat.lt_of_le_of_lt w0 (by decide)), rfl⟩, trivial⟩).mono fun e W' ⟨he, bel⟩ => ?_
  subst he
  exact ⟨_, rfl, _, _, _, [], _, [], hW', trodAll_mk1 (shut_bool Tryd.underlying4 _), (trodAll_cons_mk (shut_string Tryd.underlying9 y0) trodAll_mk0), rfl, bel.frame _, fun h => by cases h⟩
theorem over : Rows.quoteReadsRow.holds Tryd.pinned (OpenSpec.ofChange Rows.quoteReadsSpec) :=
  OpenClaim.holds_of_wide 3 Tryd.f3 rfl rfl rfl rfl rfl rfl rfl ⟨rfl, rfl, rfl, rfl, rfl⟩ rfl rfl rfl rfl rfl (by kernel_rfl) Tryd.func3 (by kernel_rfl)
    (of_decide_eq_true (by kernel_rfl)) (by unfold Func.isWrapper; first | (rw [if_pos (by decide +kernel)]; kernel_rfl) | (rw [if_neg (by decide +kernel)]; exact ⟨rfl, rfl⟩))
    (fun os started H enc _ => lifted os started H enc)
theorem proved : Rows.QuoteReadsCardSaid :=
  Claim7.holds_tied_plain_at .later [] [.data, .pinned] true (true, "fd6fb2a6af0f4a7918ff598019457236d83170625dd0d47a1171533605e00f1b") true
    over (fun _ h => by cases h) (by kernel_rfl) (fun _ h => by cases h) quoteReads_row_tie rfl ⟨rfl, rfl⟩ (by kernel_rfl) rfl
    (fun f fn hf hfn => by
      obtain rfl : f = 3 := Option.some.inj ((show Tryd.prog.funcNamed "cavil/cavillaw10.QuoteReads" = some 3 by kernel_rfl).symm.trans hf) |>.symm
      obtain rfl : fn = Tryd.f3 := (Option.some.inj (Tryd.func3.symm.trans hfn)).symm
      exact ⟨by kernel_rfl, fun j t ht => by
        rw [Tryd.params3] at ht
        have hm : t ∈ [9] := by simpa using Array.mem_of_getElem? ht
        have hall : ([9].all fun u => !Tryd.prog.wantsStandIn u) = true := by kernel_rfl
        exact (show Tryd.prog.wantsStandIn t = false by simpa using List.all_eq_true.1 hall t hm)⟩)
    (by kernel_rfl)
#print axioms proved
end Go.Proofs.YtjgjbdphjccpcaaDoor.quoteReads
namespace Go.Proofs.YtjgjbdphjccpcaaDoor
/-- The row, under a short name, for the claim. -/
theorem quoteReads_holds : Rows.QuoteReadsCardSaid := quoteReads.proved
end Go.Proofs.YtjgjbdphjccpcaaDoor
