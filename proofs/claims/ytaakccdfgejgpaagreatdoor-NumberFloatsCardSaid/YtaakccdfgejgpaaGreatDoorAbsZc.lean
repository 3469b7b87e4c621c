/-
  Contracts of functions that change nothing.
-/
import Derived.Test.YtaakccdfgejgpaaGreatDoorAbsZb
import Derived.RowKit
import Derived.Below
namespace Go.Proofs.YtaakccdfgejgpaaGreatDoor.Abs
open Go
set_option linter.unusedVariables false

section
variable {P : Program} {C : Cfg} {σ : List Pl} {w w' w0 : World} {F G : Nat → Prop} {H : Heap}
theorem HR.below (h : HR C F G w0 σ H w) (hb : RowKit.Below w.heap.size w w') : HR C F G w0 σ H w' := by
  have hold : ∀ b p c o, σ[b]? = some p → (hget H b).live = true → p.at_ = some (c, o) → w'.heap[c]? = w.heap[c]? := fun b p c o h1 h2 h3 => hb.block c (h.mine b p c o h1 h2 h3).1
  refine ⟨⟨hb.os.trans h.bx.os, hb.tape.trans h.bx.tape, hb.output.trans h.bx.output, Nat.le_trans h.bx.size hb.size, fun k hk hF => (hb.block k (Nat.lt_of_lt_of_le hk h.bx.size)).trans (h.bx.block k hk hF)⟩, h.len, fun b p hp => ?_, fun b p c o hp hl ha => ?_, h.apart, h.gl⟩
  · have := h.blk b p hp
    cases hd : hget H b with
    | dead => trivial
    | var _ _ _ => rw [← hd]; exact this.keep (.refl σ) (fun c o ha => hold b p c o hp (by rw [hd]; rfl) ha)
    | row _ _ _ _ _ => rw [← hd]; exact this.keep (.refl σ) (fun c o ha => hold b p c o hp (by rw [hd]; rfl) ha)
  · obtain ⟨h1, h2, h3⟩ := h.mine b p c o hp hl ha
    exact ⟨Nat.lt_of_lt_of_le h1 hb.size, h2, h3⟩
theorem CallOk.pure {f n : Nat} {args : List AVal} {v : AVal} {D : List Nat} (hl : ∀ b ∈ D, (hget H b).live = true) (he : entersB P f = true)
    (h : ∀ (F G : Nat → Prop) (w0 : World) (σ : List Pl) (Hc : Heap) (w : World) (cs : List Value), (∀ b ∈ D, hget Hc b = hget H b) → HR C F G w0 σ Hc w → VLs C σ args cs → Calls P f cs.toArray w fun e w' => ∃ c, e = .returned c ∧ RowKit.Below w.heap.size w w' ∧ VR C σ v c) : CallOk P C f args H n v [] [] D := by
  refine ⟨hl, fun x hx => (by cases hx), fun F G w0 σ Hc w cs hag hf hh hv => .inl ⟨he, ?_⟩⟩
  refine (h F G w0 σ Hc w cs hag hh hv).mono ?_
  rintro e w' ⟨c, rfl, hb, hr⟩
  exact ⟨c, rfl, σ, (LeD.refl Hc σ).toF, hh.below hb, hr⟩
/-- A call that the model itself answers. -/
theorem CallOk.extern {f n : Nat} {args : List AVal} {v : AVal} {D : List Nat} (hl : ∀ b ∈ D, (hget H b).live = true) (he : entersB P f = false)
    (h : ∀ (σ : List Pl) (w : World) (cs : List Value), VLs C σ args cs → ∃ c, (callFunc f cs.toArray).run P w = .ok (.value c) w ∧ VR C σ v c) : CallOk P C f args H n v [] [] D := by
  refine ⟨hl, fun x hx => (by cases hx), fun F G w0 σ Hc w cs hag hf hh hv => .inr ⟨he, ?_⟩⟩
  obtain ⟨c, h1, h2⟩ := h σ w cs hv
  exact ⟨c, h1, σ, (LeD.refl Hc σ).toF, hh, h2⟩

def isNo : Er → Bool
  | .no _ => true
  | _ => false
def isSm : Er → Bool
  | .at_ _ _ => false
  | _ => true
def isEq : Er → Int → Bool
  | .no a, c => a == c
  | _, _ => false
def errNo : Er → Int
  | .no n => n
  | .at_ _ n => n
  | .nil => 0
/-- The bytes that a row of bytes holds. -/
theorem u8_reads {b g e : Nat} {own : Bool} {v : Vw} {l : List UInt8} {c : Value} (h : HR C F G w0 σ H w) (hv : VR C σ (.slice b g v) c) (hr : rowAt H b g = some (e, own, .u8 l)) : ∃ l' A len cap, vw v (.u8 l) = .u8 l' ∧ c = .slice A len cap ∧ len = l'.length ∧ (∀ j x, l'[j]? = some x → ∃ ad, A = some ad ∧ w.cell? (ad.add j) = some (.int .u8 (x.toNat : Int))) ∧ (A = none → cap = 0) := by
  obtain ⟨pl, A, len, cap, ver, rfl, q1, q2, q3, q4, q5, q6⟩ := h.slice hv hr
  have key : ∀ (u : Vw) (m : List UInt8), ∃ l', vw u (.u8 m) = .u8 l' := by
    intro u
    induction u with
    | all => intro m; exact ⟨m, rfl⟩
    | cut u lo hi ih => intro m; obtain ⟨l', h⟩ := ih m; exact ⟨Abs.cut l' lo hi, by simp only [vw, h, Sq.cut]⟩
  obtain ⟨l', hl⟩ := key v l
  refine ⟨l', A, len, cap, hl, rfl, by rw [q6, hl]; rfl, fun j x hj => ?_, fun hA => ?_⟩
  · refine sl_reads q4 q5 j _ ?_
    rw [hl]
    simp only [Sq.cells, List.getElem?_map, hj, Option.map_some]
  · have h9 := q5.2.2.2.2
    have h7 := q5.2.2.2.1
    have h8 := q4.2.2.2.2.2.2.2.2
    cases hat : pl.at_ with
    | none => rw [hat] at h8; simp only at h8; omega
    | some co => obtain ⟨c, o⟩ := co; rw [hat] at h9; obtain ⟨a, hh, _⟩ := h9; rw [hA] at hh; cases hh
end
end Go.Proofs.YtaakccdfgejgpaaGreatDoor.Abs
