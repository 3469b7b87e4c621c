/-
  From a row's reading (what the call is handed) to the abstract memory; a contract at a row's call.
-/
import Derived.Test.YtaakccdfgejgpaaGreatDoorAbsZc
import Derived.Test.YtaakccdfgejgpaaGreatDoorRows
import Derived.WalkKit
import Derived.ProofKit
import Derived.OpenShut
import Derived.ShutString
import Derived.ChangeOld
import Derived.SizedLaws
import Derived.ChangeSlices
import Derived.HandedShaped
import Derived.LaidMore
namespace Go.Proofs.YtaakccdfgejgpaaGreatDoor.Abs
open Go Go.RowKit Go.ChangeShapes Go.WideShapes
set_option linter.unusedVariables false

/-- What a law's call comes to: it answers true, and all that was is as it was. -/
theorem Snd.row {P : Program} {C : Cfg} {k : Nat} {ct : Ct} {args : List AVal} {H : Heap} {D : List Nat} {σ : List Pl} {w : World} {cs : List Value} (hs : Snd P C k ct) (he : entersB P ct.f = true)
    (hrun : ct.run k args H H.length (fun v bs ns D => some (v, bs, ns, D)) = some (.bool true, [], [], D))
    (hh : HR C (fun _ => False) (fun _ => True) w σ H w) (hv : VLs C σ args cs) :
    Calls P ct.f cs.toArray w fun e w' => e = .returned (.bool true) ∧ Below w.heap.size w w' := by
  obtain ⟨v, bs, ns, D', h1, h2⟩ := hs _ _ _ _ _ _ hrun
  cases h1
  rcases h2.calls _ _ w σ H w cs (fun _ _ => rfl) ⟨Nat.le_refl _, fun j hj => (by cases hj)⟩ hh hv with ⟨_, h3⟩ | ⟨h3, _⟩
  case inr => rw [he] at h3; cases h3
  refine h3.mono ?_
  rintro e w' ⟨c, rfl, σ', _, hr, hc⟩
  simp only [VR, RL, List.cons.injEq, and_true] at hc
  subst hc
  exact ⟨rfl, hr.bx.os, hr.bx.tape, hr.bx.output, hr.bx.size, fun b hb => hr.bx.block b hb (fun h => h)⟩

/-- The rows that come in. -/
structure RowIn (C : Cfg) (w : World) (x : Pl × Nat × Sq) : Prop where
  gen : x.1.gen = 1
  row : RowAt C w x.1 false x.2.1 x.2.2
def heapIn (L : List (Pl × Nat × Sq)) : Heap := L.map fun x => .row 0 1 false x.2.1 x.2.2
theorem heapIn_get : ∀ (L : List (Pl × Nat × Sq)) (b : Nat) (p : Pl), (L.map (·.1))[b]? = some p → ∃ x, x ∈ L ∧ x.1 = p ∧ hget (heapIn L) b = .row 0 1 false x.2.1 x.2.2
  | [], b, p, h => by simp at h
  | x :: r, 0, p, h => ⟨x, by simp, by simpa using h, rfl⟩
  | x :: r, b + 1, p, h => by
    obtain ⟨y, h1, h2, h3⟩ := heapIn_get r b p (by simpa using h)
    exact ⟨y, by simp [h1], h2, h3⟩
theorem HR.entry {C : Cfg} {w : World} (gl : Gl C (fun _ => False) w) (L : List (Pl × Nat × Sq)) (hL : ∀ x ∈ L, RowIn C w x) : HR C (fun _ => False) (fun _ => True) w (L.map (·.1)) (heapIn L) w := by
  refine ⟨⟨rfl, rfl, rfl, Nat.le_refl _, fun _ _ _ => rfl⟩, by simp [heapIn], fun b p hp => ?_, fun b p c o hp hl ha => ?_, fun b p b' p' c o c' o' _ hown _ hp _ _ _ => ?_, gl⟩
  · obtain ⟨x, h1, rfl, h3⟩ := heapIn_get L b p hp
    rw [h3]
    exact ⟨(hL x h1).gen, (hL x h1).row⟩
  · obtain ⟨x, h1, rfl, h3⟩ := heapIn_get L b p hp
    have hr := (hL x h1).row.2.2.2.2.2.2.2.2
    rw [ha] at hr
    obtain ⟨cl, T, fz, h4, _⟩ := hr
    exact ⟨(Array.getElem?_eq_some_iff.1 h4).1, fun h => by rw [h3] at h; exact absurd h (by simp [Blk.own]), .inr (.inr trivial)⟩
  · obtain ⟨x, h1, rfl, h3⟩ := heapIn_get L b p hp
    rw [h3] at hown
    exact absurd hown (by simp [Blk.own])

theorem cell_at {w : World} {a : Addr} {x : Value} {c : List Value} {T : Nat} {fz : Nat × Nat} (hb : w.heap[a.block]? = some (.cells c.toArray T fz)) (h : w.cell? a = some x) : c[a.off]? = some x := by
  unfold World.cell? at h
  rw [hb] at h
  simp only at h
  split at h
  · cases h
  · simpa using h

/-- A row of bytes that comes in. -/
theorem bytes_in {H : Type} {enc : TypeId × Value → H} {P : Program} {C : Cfg} {W : World} {base base' : Nat} {held : Bool} {t e : TypeId} {a : Option Addr} {len cap : Nat} {d : DataW H} {ps : List MemPlace}
    (hu : P.underlying t = some (.slice e)) (he : P.underlying e = some (.int .u8)) (hc : P.cellsOf e = 1) (hq : ∀ l, sqOk C.tt e (.u8 l) = true) (hm : len < maxL)
    (hok : Value.okWide P W .any base' t (.slice a len cap)) (h : DataW.Trod enc P W base (fun _ => true) held t (.slice a len cap) d ps) :
    ∃ (l : List UInt8) (pl : Pl), len = l.length ∧ RowIn C W (pl, e, .u8 l) ∧ SlOk pl .all a len cap := by
  obtain ⟨fuel, hf⟩ := h
  rcases open_ints hu he hc hf with ⟨hcs, _⟩ | ⟨x, l, c, zs, hcs, _, hl, hm', hz, _, hcell, hwf⟩
  · simp [Value.cells] at hcs
    obtain ⟨rfl, rfl, rfl⟩ := hcs
    exact ⟨[], ⟨true, 1, 0, none, e, 1, 0⟩, rfl, ⟨rfl, rfl, rfl, rfl, rfl, hq _, trivial, Nat.le_refl _, (by show 0 < maxL; decide), rfl⟩, trivial, rfl, Nat.le_refl _, Nat.le_refl _, rfl⟩
  · simp [Value.cells] at hcs
    obtain ⟨rfl, rfl, rfl⟩ := hcs
    simp only [if_true] at hz
    simp only [Value.okWide, hu, Cell.okWide, Cell.ok, World.has] at hok
    obtain ⟨_, _, _, hspot, row, cells, hsh, _⟩ := hok
    obtain ⟨c, q, sp⟩ := x
    simp only at hspot hsh
    subst hspot
    unfold World.shape? at hsh
    split at hsh
    · rename_i cl T fz hb
      have hlen : ((zs.take len).map fun n => n.toNat.toUInt8).length = len := by simp; omega
      generalize hL : ((zs.take len).map fun n => n.toNat.toUInt8) = L at hlen
      refine ⟨L, ⟨true, 1, len, some (c, q), e, 1, cap⟩, hlen.symm, ⟨rfl, rfl, hlen.symm, rfl, rfl, hq _, trivial, (by show List.length _ ≤ cap; omega), (by show List.length _ < maxL; omega), ?_⟩, trivial, rfl, hl, by simp [voff], ⟨c, q, none⟩, rfl, fun _ => by simp [voff], q, rfl⟩
      refine ⟨cl.toList, T, fz, by simpa using hb, fun j v hj => ?_, fun h => by cases h⟩
      subst hL
      simp only [Sq.cells, List.map_map, List.getElem?_map, List.getElem?_take] at hj
      split at hj
      · rename_i hjl
        cases hzj : zs[j]? with
        | none => rw [hzj] at hj; cases hj
        | some n =>
          rw [hzj] at hj
          simp only [Option.map_some, Option.some.injEq, Function.comp] at hj
          have hjz := (List.getElem?_eq_some_iff.1 hzj).1
          have hw := hcell j hjz
          have hd : zs.getD j 0 = n := by simp [List.getD_eq_getElem?_getD, hzj]
          rw [hd] at hw
          have hn := hwf n (List.mem_of_getElem? hzj)
          have hmin : IntKind.u8.min = 0 := rfl
          have hmax : IntKind.u8.max = 255 := rfl
          simp only [Lit.wf, Bool.and_eq_true, decide_eq_true_eq] at hn
          have hval : ((n.toNat.toUInt8).toNat : Int) = n := by
            simp only [Nat.toUInt8, UInt8.toNat_ofNat']
            omega
          rw [hval] at hj
          subst hj
          have := cell_at (a := (Addr.mk c q none).add j) (c := cl.toList) (T := T) (fz := fz) (by
            have : ((Addr.mk c q none).add j).block = c := by unfold Addr.add; split <;> rfl
            rw [this]; simpa using hb) hw
          have ho : ((Addr.mk c q none).add j).off = q + j := by
            unfold Addr.add
            split
            · rename_i h0; simp [h0]
            · rfl
          rwa [ho] at this
      · cases hj
    · cases hsh

theorem sized_ints {H : Type} {enc : TypeId × Value → H} {P : Program} {W : World} {base : Nat} {spare : Nat → Bool} {held : Bool} {t e : TypeId} {k : IntKind} {a : Option Addr} {len cap : Nat} {d : DataW H} {ps : List MemPlace} {ts : List TypeId} {ds : List (DataW H)} {j : Nat}
    (hsz : (DataW.weightsEach P ts ds).all (· ≤ reachBytes) = true) (ht : ts[j]? = some t) (hd : ds[j]? = some d) (hu : P.underlying t = some (.slice e)) (he : P.underlying e = some (.int k)) (hc : P.cellsOf e = 1) {B : Nat} (hB : P.bytesOf e = B)
    (h : DataW.Trod enc P W base spare held t (.slice a len cap) d ps) : len * B ≤ 140737488351232 := by
  obtain ⟨fuel, hf⟩ := h
  rcases open_ints hu he hc hf with ⟨hcs, _⟩ | ⟨x, l, c, zs, hcs, _, hl, _, hz, hx, _, _⟩
  · simp [Value.cells] at hcs
    obtain ⟨rfl, rfl, rfl⟩ := hcs
    simp
  · simp [Value.cells] at hcs
    obtain ⟨rfl, rfl, rfl⟩ := hcs
    obtain ⟨hx, _⟩ := Prod.mk.inj hx
    subst hx
    have z := sized_slice hsz ht hd hu
    rw [hB] at z
    have hl2 : len ≤ zs.length := by
      rw [hz]
      split
      · exact hl
      · exact Nat.le_refl _
    have h1 : (lits (H := H) k (zs.take len)).length + (lits (H := H) k (zs.drop len)).length = zs.length := by
      simp [lits]
      omega
    rw [h1] at z
    exact Nat.le_trans (Nat.mul_le_mul_right _ hl2) z
theorem wf_rng {k : IntKind} {n : Int} (h : (Lit.int k n).wf = true) : Rng k n := by
  simp only [Lit.wf, Bool.and_eq_true, decide_eq_true_eq] at h
  cases k <;> exact h

/-- The plain wrap with a condition on the first memory and with its shape kept. -/
theorem returns_and_shaped {H : Type} {enc : TypeId × Value → H} {a : Assume} {C : Checked} {os : Os} {f : FuncId} {fn : Func} {s : ChangeSpec} {conds : List PathCond} {apart fresh handsOn again : Bool} {X : World → Array Value → Prop}
    (own : ownKnob C.prog.godebug = none) (started : os.Started) (noInit : C.prog.inits.idxOf? f = none) (hfn : C.prog.funcs[f]? = some fn)
    (witness : ∃ (w : World) (tape : Tape) (i : Input), w.os = os ∧ (w.forCall tape i).Shaped C.prog ∧ i.vars = [] ∧ Input.okWide C.prog (w.forCall tape i) .any w.heap.size f i ∧
      ((s.pre enc C.prog fn conds apart (w.forCall tape i).memory i.args ∧ X (w.forCall tape i).memory i.args) ∧ sizedMet enc C.prog fn (OpenSpec.ofChange s) apart (w.forCall tape i).memory i.args) ∧ a.holds C.prog (lone (Frame.enter C.prog f i.args .normal) [] (w.forCall tape i)))
    (contract : ∀ (W : World) (base : Nat) (args : Array Value) (ds gs : List (DataW H)) (before : List MemPlace),
      (∀ (j : Nat) t v, fn.params[j]? = some t → args[j]? = some v → Value.okWide C.prog W .any base t v) →
      DataW.Whole enc C.prog fn.params.toList s.vars apart W args.toList ds gs before →
      conds.all (PathCond.test C.prog ⟨fn.params.toList, ds, s.plain.varTypes C.prog, gs⟩) = true →
      (DataW.weightsEach C.prog (fn.params.toList ++ s.plain.varTypes C.prog) (ds ++ gs)).all (· ≤ reachBytes) = true → W.ShapedOpen C.prog →
      a.holds C.prog (lone (Frame.enter C.prog f args .normal) [] W) →
      Calls C.prog f args W fun e W' => ∃ v, e = .returned v ∧ s.post enc C.prog fn apart fresh handsOn again W args v W') :
    ReturnsInHanded a C os f .any (fun w args => (s.pre enc C.prog fn conds apart w args ∧ X w args) ∧ sizedMet enc C.prog fn (OpenSpec.ofChange s) apart w args) (s.post enc C.prog fn apart fresh handsOn again) := by
  refine returnsInHanded_of_calls own started noInit witness ?_
  intro w tape i _ hsh _ hok hpre hholds
  obtain ⟨_, _, _, fn', hfn', _, _, _, _, hval⟩ := hok
  have e : fn' = fn := Option.some.inj (hfn'.symm.trans hfn)
  subst e
  obtain ⟨⟨⟨ds, gs, before, hw, hc⟩, hx⟩, hz⟩ := hpre
  have hw' := DataW.Whole.of_heap (w' := w.forCall tape i) (by rfl) hw
  refine (contract (w.forCall tape i) w.heap.size i.args ds gs before hval hw' hc (hz.weights hw) hsh hholds).mono fun e W' ⟨v, he, hp⟩ => ?_
  subst he
  exact ChangeSpec.post_blind hp

/-! ### A world whose listed variables hold what the row lists -/
def flatD : Nat → DataW Unit → List Value
  | 0, _ => []
  | n + 1, .agg l => l.flatMap (flatD n)
  | _ + 1, .lit (.int k n) => [.int k n]
  | _ + 1, .lit (.bool b) => [.bool b]
  | _ + 1, _ => []
def layD (P : Program) : List (String × DataW Unit) → Array Obj → Array Obj
  | [], h => h
  | (n, d) :: r, h => layD P r (match P.globalNamed n with
    | some g => h.modify g fun
      | .cells _ T fz => .cells (flatD 8 d).toArray T fz
      | o => o
    | none => h)
noncomputable def laidW (P : Program) (l : List (String × DataW Unit)) (os : Os) : World :=
  { World.holding P os ⟨#[], #[], []⟩ with heap := layD P l (World.holding P os ⟨#[], #[], []⟩).heap }
end Go.Proofs.YtaakccdfgejgpaaGreatDoor.Abs
