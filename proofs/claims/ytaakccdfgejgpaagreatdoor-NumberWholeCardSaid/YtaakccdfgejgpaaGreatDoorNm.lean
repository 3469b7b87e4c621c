/-
  Chapter 09, plain: that it works; the law NumberWhole.
-/
import Derived.Test.YtaakccdfgejgpaaGreatDoorNl
namespace Go.Proofs.YtaakccdfgejgpaaGreatDoor.Pure
open Go Abs
set_option linter.unusedVariables false
set_option linter.unusedSimpArgs false

theorem code_tab (k : Nat) : (List.range 26).all (fun n => cavillaw01_Code.m (k + 40) (erOf (n : Int)) == some (n : Int)) = true := by kernel_rfl
theorem code_ev (n : Int) (h0 : 0 ≤ n) (h1 : n ≤ 25) : Ev (fun k => cavillaw01_Code.m k (erOf n)) n := by
  refine ⟨40, fun k hk => ?_⟩
  obtain ⟨j, rfl⟩ : ∃ j, k = j + 40 := ⟨k - 40, by omega⟩
  have := List.all_eq_true.1 (code_tab j) n.toNat (by simp; omega)
  rw [show ((n.toNat : Nat) : Int) = n by omega] at this
  simpa using this
theorem w1 : intF [48, 120, 95, 102, 70] = (255, 0) := by kernel_rfl
theorem w2 : floatF [49, 95, 48, 46, 50, 53, 101, 49] = (some (205, 2), 0) := by kernel_rfl
theorem w3 : scanF [48, 56] 0 = (2, 2, 13) := by kernel_rfl
theorem w4 : textN 255 = [50, 53, 53] := by kernel_rfl
theorem w5 : textN 205 = [50, 48, 53] := by kernel_rfl
theorem w6 : textN 2 = [50] := by kernel_rfl
theorem rtext_ev (n d : Nat) (hn : n < M512) (hd : d < M512) (h1 : d ≠ 1) : Ev (fun k => ratio_Text.m k false (toW n) false (toW d)) (textN n ++ [47] ++ textN d) := by
  refine Ev.succ (f := fun k => ratio_Text.b0 k false (toW n) false (toW d)) ?_ (fun k => rfl)
  simp only [ratio_Text.b0]
  have hl : ∀ v, (textN v).length ≤ 155 := by
    intro v
    have := decL_len 155 v
    unfold textN
    split
    · simp
    · rw [List.length_reverse]; exact this
  have h2 := hl n
  have h3 := hl d
  have hc : cmpN d 1 ≠ 0 := by
    unfold cmpN
    split
    · decide
    · split
      · decide
      · omega
  exact Ev.bind (of_ev 1 (by decide)) (Ev.bind (cmp_ev d 1 hd (by decide)) (Ev.ff (by simpa using hc) (Ev.bind (text_ev n hn) (Ev.gk (roomS_iff.2 (by simp; omega)) (Ev.bind (text_ev d hd) (Ev.gk (roomS_iff.2 (by simp; omega)) Ev.ret))))))
theorem works_ev : Ev (fun k => cavillaw09_works.m k) true := by
  refine Ev.succ (f := fun k => cavillaw09_works.b0 k) ?_ (fun k => rfl)
  simp only [cavillaw09_works.b0]
  have e1 := int_ev [48, 120, 95, 102, 70] (by decide)
  have e2 := float_ev [49, 95, 48, 46, 50, 53, 101, 49] (by decide)
  have e3 := scan_ev [48, 56] 0 (by decide)
  rw [w1] at e1
  rw [w2] at e2
  rw [w3] at e3
  have t1 := text_ev 255 (by decide)
  have t2 := rtext_ev 205 2 (by decide) (by decide) (by decide)
  rw [w4] at t1
  rw [w5, w6] at t2
  have c1 := code_ev 13 (by decide) (by decide)
  exact Ev.bind e1 (Ev.bind e2 (Ev.gk rfl (Ev.bind e3 (Ev.tt rfl (Ev.bind t1 (Ev.tt rfl (Ev.tt rfl (Ev.bind t2 (Ev.tt rfl (Ev.tt rfl (Ev.tt rfl (Ev.bind c1 Ev.ret))))))))))))
/-- The first bytes of a text, at most n. -/
def hdn (n : Int) (l : List UInt8) : List UInt8 := cut l 0 (if n < (l.length : Int) then n else (l.length : Int))
theorem hdn_ok (n : Int) (h : 0 ≤ n) (l : List UInt8) : cutB 0 (if n < (l.length : Int) then n else (l.length : Int)) l.length = true := cutB_iff.2 (by split <;> omega)
theorem hdn_len (n : Int) (h : 0 ≤ n) (l : List UInt8) : ((hdn n l).length : Int) = if n < (l.length : Int) then n else (l.length : Int) := by
  unfold hdn
  have := cut_lenI l 0 (if n < (l.length : Int) then n else (l.length : Int)) (by omega) (by split <;> omega) (by split <;> omega)
  omega
theorem not_w (c : Int) (h : isW c = false) : ¬ (97 ≤ c ∧ c ≤ 122) ∧ ¬ (65 ≤ c ∧ c ≤ 90) ∧ ¬ (48 ≤ c ∧ c ≤ 57) ∧ c ≠ 95 ∧ c ≠ 46 := by
  unfold isW dig letr at h
  simp only [Bool.or_eq_false_iff, Bool.and_eq_false_iff, decide_eq_false_iff_not] at h
  omega
theorem scan_whole (b : List UInt8) (at_ : Int) (hs : b.length ≤ 100000) (hn : (scanF b at_).2.1 ≠ 0) : 0 ≤ at_ ∧ at_ + (scanF b at_).2.1 ≤ (b.length : Int) ∧ at_ < at_ + (scanF b at_).2.1 ∧ (at_ + (scanF b at_).2.1 < (b.length : Int) → isW (byt b (at_ + (scanF b at_).2.1)) = false) := by
  by_cases hb : bodyF b at_ = []
  · unfold scanF at hn
    rw [if_pos hb] at hn
    exact absurd rfl hn
  · have e : (scanF b at_).2.1 = ((bodyF b at_).length : Int) := by unfold scanF; rw [if_neg hb]
    rw [e]
    unfold bodyF at hb ⊢
    by_cases hst : startB b at_ = true
    · rw [if_pos hst]
      obtain ⟨h0, h1, _⟩ := (startB_iff _ _).1 hst
      have h2 := endB_bd b at_ (hexB b at_) b.length at_ (by omega)
      have h3 := cut_lenI b at_ (endB b at_ (hexB b at_) b.length at_) h0 h2.1 h2.2
      have h4 := endB_first b at_ (hexB b at_) hst
      have h5 := endB_stop b at_ (hexB b at_) b.length at_ (by omega)
      rw [show at_ + ((cut b at_ (endB b at_ (hexB b at_) b.length at_)).length : Int) = endB b at_ (hexB b at_) b.length at_ by omega]
      exact ⟨h0, h2.2, by omega, h5⟩
    · rw [if_neg hst] at hb
      exact absurd rfl hb
theorem NumberWhole (l0 : List UInt8) (a1 : Int) (_ : l0.length ≤ 140737488351232) (h0 : 0 ≤ a1) (h1 : a1 ≤ 255) : ∃ k, cavillaw09_NumberWhole.m k l0 a1 = some true := by
  refine Ev.get (f := fun k => cavillaw09_NumberWhole.m k l0 a1) (Ev.succ (f := fun k => cavillaw09_NumberWhole.b0 k l0 a1) ?_ (fun k => rfl))
  simp only [cavillaw09_NumberWhole.b0]
  have e0 : wr .i64 a1 = a1 := v64 (by omega) (by omega)
  rw [e0]
  have hl := hdn_len 60 (by decide) l0
  have hl' : ((hdn 60 l0).length : Int) ≤ 60 := by rw [hl]; split <;> omega
  refine Ev.gk (hdn_ok 60 (by decide) l0) (Ev.bind (scan_ev (hdn 60 l0) a1 (by omega)) (Ev.bif (fun h => Ev.bind works_ev Ev.ret) (fun h => ?_)))
  have hz : (scanF (hdn 60 l0) a1).2.1 ≠ 0 := by simpa using h
  obtain ⟨g0, g1, g2, g3⟩ := scan_whole (hdn 60 l0) a1 (by omega) hz
  generalize hn : (scanF (hdn 60 l0) a1).2.1 = n at *
  have e1 : wr .i64 (a1 + n) = a1 + n := v64 (by omega) (by omega)
  show Ev (fun k => bif decide (wr .i64 (a1 + n) > ((hdn 60 l0).length : Int)) then _ else bif wr .i64 (a1 + n) == ((hdn 60 l0).length : Int) then _ else gk (inB (wr .i64 (a1 + n)) (hdn 60 l0).length) _) true
  rw [e1]
  refine Ev.ff (decide_eq_false (by omega)) (Ev.bif (fun h => Ev.bind works_ev Ev.ret) (fun h => ?_))
  have hne : a1 + n ≠ ((hdn 60 l0).length : Int) := by simpa using h
  have hw := not_w _ (g3 (by omega))
  have hb : ((l0.getD (0 + (a1 + n).toNat) 0).toNat : Int) = byt (hdn 60 l0) (a1 + n) := by
    have := cut_byt l0 0 (if 60 < (l0.length : Int) then 60 else (l0.length : Int)) (a1 + n) (by omega) (by split <;> omega) (by split <;> omega) (by omega) (by omega)
    unfold hdn
    rw [this, Nat.zero_add, Int.zero_add]
    rfl
  rw [hb]
  generalize byt (hdn 60 l0) (a1 + n) = c at hw
  refine Ev.gk (inB_iff.2 (by omega)) ?_
  have W : ∀ {x : Bool}, x = true → Ev (fun k => bif x then (bindO (cavillaw09_works.m k) fun r => some r) else some false) true := fun hx => Ev.tt hx (Ev.bind works_ev Ev.ret)
  have h46 : (!(c == 46)) = true := by simpa using hw.2.2.2.2
  have h95 : (c == 95) = false := by simpa using hw.2.2.2.1
  have T : Ev (fun k => bif (c == 95) then some false else bif (!(c == 46)) then (bindO (cavillaw09_works.m k) fun r => some r) else some false) true := Ev.ff h95 (W h46)
  have D : Ev (fun k => bif (decide (c ≥ 48)) then (bif (decide (c ≤ 57)) then some false else bif (c == 95) then some false else bif (!(c == 46)) then (bindO (cavillaw09_works.m k) fun r => some r) else some false) else bif (c == 95) then some false else bif (!(c == 46)) then (bindO (cavillaw09_works.m k) fun r => some r) else some false) true :=
    Ev.bif (fun h => Ev.ff (decide_eq_false (by have := of_decide_eq_true h; omega)) T) (fun _ => T)
  have U : Ev (fun k => bif (decide (c ≥ 65)) then (bif (decide (c ≤ 90)) then some false else bif (decide (c ≥ 48)) then (bif (decide (c ≤ 57)) then some false else bif (c == 95) then some false else bif (!(c == 46)) then (bindO (cavillaw09_works.m k) fun r => some r) else some false) else bif (c == 95) then some false else bif (!(c == 46)) then (bindO (cavillaw09_works.m k) fun r => some r) else some false) else bif (decide (c ≥ 48)) then (bif (decide (c ≤ 57)) then some false else bif (c == 95) then some false else bif (!(c == 46)) then (bindO (cavillaw09_works.m k) fun r => some r) else some false) else bif (c == 95) then some false else bif (!(c == 46)) then (bindO (cavillaw09_works.m k) fun r => some r) else some false) true :=
    Ev.bif (fun h => Ev.ff (decide_eq_false (by have := of_decide_eq_true h; omega)) D) (fun _ => D)
  exact Ev.bif (fun h => Ev.ff (decide_eq_false (by have := of_decide_eq_true h; omega)) U) (fun _ => U)
end Go.Proofs.YtaakccdfgejgpaaGreatDoor.Pure
