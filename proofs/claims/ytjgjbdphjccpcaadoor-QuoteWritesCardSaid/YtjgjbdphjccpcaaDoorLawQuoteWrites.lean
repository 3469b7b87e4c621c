/-
  The law QuoteWrites: for every input it returns true; each argument reads behind the call as it read before.
-/
import Derived.Test.YtjgjbdphjccpcaaDoorAbsZd
import Derived.Test.YtjgjbdphjccpcaaDoorPq
import Derived.Test.YtjgjbdphjccpcaaDoorG1
import Derived.LaidMore
import Derived.Stop.Joined
import Derived.Shelf.Vars
import Derived.Test.YtjgjbdphjccpcaaDoorCards
import Derived.Test.YtjgjbdphjccpcaaDoorTie
import Derived.SevenTiedAt
namespace Go.Proofs.YtjgjbdphjccpcaaDoor.quoteWrites
open Go Go.ChangeShapes Go.WideShapes Go.ChangeAt Go.RowKit Abs
open Go.ChangeMaps (open_string shut_string)
set_option linter.unusedVariables false
theorem own : ownKnob Tryd.prog.godebug = none := by kernel_rfl
theorem laidOut : laidOutB Tryd.prog = true := by kernel_rfl
set_option maxRecDepth 100000 in
theorem enters {R : Type} (k : Nat) (x0 : List UInt8) (x1 : List UInt8) (K : AVal → List (Nat × Blk) → List Blk → List Nat → Option R) : cavillaw10_QuoteWrites.ct.run k [.str x0, .slice 0 1 .all] [.row 0 1 false 5 (.u8 x1)] 1 K = bindO (cavillaw10_QuoteWrites.m k x0 x1) fun b => K (.bool b) [] [] [0] := by kernel_rfl
set_option maxRecDepth 100000 in
theorem door_met (os : Os) (args : Array Value) : laidMetH Tryd.prog Rows.quoteWritesRow.laid ((laidW Tryd.prog Rows.quoteWritesRow.laid os).forCall (fun _ _ => 0) ⟨#[], args, []⟩).memory :=
  laidMetH_of_parts3 (fuel := 8) (laidMet_of_run' 8 (by kernel_rfl) (by kernel_rfl)) (by kernel_rfl) (by kernel_rfl)
set_option maxRecDepth 100000 in
theorem lifted (os : Os) (started : os.Started) (H : Type) (enc : TypeId × Value → H) :
    ReturnsInHanded {} Tryd.checked os 5 .any (fun w args => (Rows.quoteWritesSpec.pre enc Tryd.prog Tryd.f5 Rows.quoteWritesRow.domain false w args ∧ laidMetH Tryd.prog Rows.quoteWritesRow.laid w) ∧ sizedMet enc Tryd.prog Tryd.f5 (OpenSpec.ofChange Rows.quoteWritesSpec) false w args) (Rows.quoteWritesSpec.post enc Tryd.prog Tryd.f5 false true false false) := by
  refine returns_and_shaped (C := Tryd.checked) (X := fun w _ => laidMetH Tryd.prog Rows.quoteWritesRow.laid w) own started (by kernel_rfl) Tryd.func5
    (ChangeSpec.witness_shaped (enc := enc) (C := Tryd.checked) (os := os) (X := fun w _ => laidMetH Tryd.prog Rows.quoteWritesRow.laid w) false (laidW Tryd.prog Rows.quoteWritesRow.laid os) #[.string ByteArray.empty, .slice none 0 0] 8 rfl (World.shaped_of_RefB (by kernel_rfl) (by kernel_rfl)) (by kernel_rfl) (by kernel_rfl) (by kernel_rfl) (door_met os _)) ?_
  intro W base args ds gs before hval0 hW hcnd hsz0 hshape _
  have hsz : (DataW.weightsEach Tryd.prog (Tryd.f5.params.toList ++ Rows.quoteWritesSpec.plain.varTypes Tryd.prog) (ds ++ gs)).all (· ≤ reachBytes) = true := hsz0
  have hval : ∀ (j : Nat) t v, Tryd.f5.params[j]? = some t → args[j]? = some v → Value.okWide Tryd.prog W .any base t v := hval0
  have hW' := hW
  obtain ⟨p, q, hA0, hV, rfl, hfz, hnd⟩ := hW
  have hA : DataW.TrodAll enc Tryd.prog W 0 (fun _ => true) true Tryd.f5.params.toList args.toList ds p := hA0
  rw [Tryd.params5] at hA hval hsz
  obtain ⟨v0, vs0, d0, ds0, p0, q0, hargs, rfl, rfl, h0, r0⟩ := trodAll_cons hA
  obtain ⟨v1, vs1, d1, ds1, p1, q1, rfl, rfl, rfl, h1, r1⟩ := trodAll_cons r0
  obtain ⟨rfl, rfl, rfl⟩ := trodAll_nil r1
  obtain rfl : args = #[v0, v1] := by cases args; simp_all
  obtain ⟨rfl, rfl⟩ := trodVars_none hV
  obtain ⟨mx, hmx⟩ := cell_of_shapedOpen_int hshape (g := 0) (t := 3) (zero := #[.int .i64 0]) (of_decide_eq_true (by kernel_rfl)) (by kernel_rfl) rfl (by kernel_rfl) (by kernel_rfl) Tryd.underlying3
  have gl : Gl cfg (fun _ => False) W := by
    intro x hx
    obtain rfl : x = _ := List.mem_singleton.1 hx
    refine ⟨fun h => h, ?_, W, mx, rfl, hmx⟩
    unfold World.cell? at hmx
    split at hmx
    · rename_i hb; exact (Array.getElem?_eq_some_iff.1 hb).1
    · cases hmx
  obtain ⟨a0, rfl, rfl, rfl, y0⟩ := open_string Tryd.underlying9 (hval 0 9 v0 rfl rfl) h0
  have w0 : a0.size ≤ 140737488351232 := by
    have z := sized_string hsz (j := 0) (t := 9) rfl rfl
    rw [Array.length_toList] at z
    exact z
  obtain ⟨a1, len1, cap1, rfl⟩ := okWide_slice Tryd.underlying35 (hval 1 35 v1 rfl rfl)
  have k1 := h1
  have lt1 : ∀ x ∈ p1, x.block < W.heap.size := by obtain ⟨m, hm⟩ := k1; exact DataW.trod_lt m _ _ _ hm
  have y1 : len1 * 1 ≤ 140737488351232 := sized_ints hsz (j := 1) (t := 35) rfl rfl Tryd.underlying35 Tryd.underlying5 (by kernel_rfl) (by kernel_rfl) h1
  obtain ⟨l1, pl1, hl1, ri1, so1⟩ := bytes_in (C := cfg) Tryd.underlying35 Tryd.underlying5 (by kernel_rfl) (fun _ => rfl) (by show len1 < 4611686018427387904; omega) (hval 1 35 _ rfl rfl) h1
  subst hl1
  clear hA0 hval0 hsz0 hsz
  obtain ⟨k, hk⟩ := Pure.QuoteWrites a0.data.toList l1 w0 (by omega)
  have hrun := enters k a0.data.toList l1 (fun v bs ns D => some (v, bs, ns, D))
  rw [hk] at hrun
  have hh := HR.entry (C := cfg) gl [(pl1, 5, .u8 l1)] (by
    intro x hx
    simp only [List.mem_cons, List.not_mem_nil, or_false] at hx
    rcases hx with rfl
    · exact ri1)
  refine (Snd.row (cavillaw10_QuoteWrites.snd k) hrun hh (cs := [_, _]) ⟨⟨(by show a0.data.size < 4611686018427387904; exact Nat.lt_of_le_of_lt w0 (by decide)), rfl⟩, ⟨pl1, _, _, _, rfl, Nat.le_of_eq ri1.gen.symm, fun _ => so1, rfl⟩, trivial⟩).mono fun e W' ⟨he, bel⟩ => ?_
  subst he
  exact ⟨_, rfl, _, _, _, [], _, [], hW', trodAll_mk1 (shut_bool Tryd.underlying4 _), (trodAll_cons_mk (shut_string Tryd.underlying9 y0) (trodAll_cons_mk (Below.trod laidOut (by kernel_rfl) (of_decide_eq_true (by kernel_rfl)) k1 bel lt1) trodAll_mk0)), rfl, bel.frame _, fun h => by cases h⟩
theorem over : Rows.quoteWritesRow.holds Tryd.pinned (OpenSpec.ofChange Rows.quoteWritesSpec) :=
  OpenClaim.holds_of_wide 5 Tryd.f5 rfl rfl rfl rfl rfl rfl rfl ⟨rfl, rfl, rfl, rfl, rfl⟩ rfl rfl rfl rfl rfl (by kernel_rfl) Tryd.func5 (by kernel_rfl)
    (of_decide_eq_true (by kernel_rfl)) (by unfold Func.isWrapper; first | (rw [if_pos (by decide +kernel)]; kernel_rfl) | (rw [if_neg (by decide +kernel)]; exact ⟨rfl, rfl⟩))
    (fun os started H enc _ => lifted os started H enc)
theorem proved : Rows.QuoteWritesCardSaid :=
  Claim7.holds_tied_plain_at .later [] [.data, .pinned] true (true, "fd6fb2a6af0f4a7918ff598019457236d83170625dd0d47a1171533605e00f1b") true
    over (fun _ h => by cases h) (by kernel_rfl) (fun _ h => by cases h) quoteWrites_row_tie rfl ⟨rfl, rfl⟩ (by kernel_rfl) rfl
    (fun f fn hf hfn => by
      obtain rfl : f = 5 := Option.some.inj ((show Tryd.prog.funcNamed "cavil/cavillaw10.QuoteWrites" = some 5 by kernel_rfl).symm.trans hf) |>.symm
      obtain rfl : fn = Tryd.f5 := (Option.some.inj (Tryd.func5.symm.trans hfn)).symm
      exact ⟨by kernel_rfl, fun j t ht => by
        rw [Tryd.params5] at ht
        have hm : t ∈ [9, 35] := by simpa using Array.mem_of_getElem? ht
        have hall : ([9, 35].all fun u => !Tryd.prog.wantsStandIn u) = true := by kernel_rfl
        exact (show Tryd.prog.wantsStandIn t = false by simpa using List.all_eq_true.1 hall t hm)⟩)
    (by kernel_rfl)
#print axioms proved
end Go.Proofs.YtjgjbdphjccpcaaDoor.quoteWrites
namespace Go.Proofs.YtjgjbdphjccpcaaDoor
/-- The row, under a short name, for the claim. -/
theorem quoteWrites_holds : Rows.QuoteWritesCardSaid := quoteWrites.proved
end Go.Proofs.YtjgjbdphjccpcaaDoor
