/-
  Regions that draw their order: what the evaluator says holds in any order.
-/
import Derived.Test.YtaakccdfgejgpaaGreatDoorAbsQ
namespace Go.Proofs.YtaakccdfgejgpaaGreatDoor.Abs
open Go
set_option linter.unusedVariables false

theorem mem_dpre {o : Oper} {e : Nat} : e ∈ dpre o ↔ ∃ x ∈ o.after, Region.binds .any x = true ∧ x.on = e := by
  unfold dpre
  simp [List.mem_map, List.mem_filter, and_assoc]
theorem getD_set_ne {l : Array Bool} {i j : Nat} (h : i ≠ j) (d : Bool) : (l.setIfInBounds i true).getD j d = l.getD j d := by
  simp only [Array.getD, Array.size_setIfInBounds]
  split
  · exact Array.getElem_setIfInBounds_ne _ h
  · rfl
theorem getD_set {l : Array Bool} {i : Nat} (hl : i < l.size) (j : Nat) : (l.setIfInBounds i true).getD j false = if i = j then true else l.getD j false := by
  by_cases e : i = j
  · subst e; rw [if_pos rfl]; simp [Array.getD, hl]
  · rw [if_neg e]; exact getD_set_ne e false

section
variable {P : Program} {Q : Exit → Act → World → Prop} {ops : List Oper}

theorem wpAny_inv (Inv : Array Bool → Act → World → Prop) (hback : ∀ i o, ops[i]? = some o → ∀ e ∈ dpre o, e < i) (hlen : ∀ l a w, Inv l a w → l.size = ops.length)
    (hstep : ∀ l a w i o, Inv l a w → ops[i]? = some o → l.getD i false = false → (∀ e ∈ dpre o, l.getD e false = true) →
      if Region.wanted o (yielded ops.toArray a.tmps) then o.wp P a w (fun a' w' => Inv (l.setIfInBounds i true) a' w') Q else Inv (l.setIfInBounds i true) (a.put o.dst undef) w)
    (hend : ∀ l a w, Inv l a w → (∀ i, i < ops.length → l.getD i false = true) → Q .normal a w) :
    ∀ (fuel : Nat) (l : Array Bool) (a : Act) (w : World), Inv l a w → ((List.range ops.length).filter (fun i => !l.getD i false)).length = fuel → wpAny P .any ops.toArray Q fuel l a w := by
  have hready : ∀ (l : Array Bool) (a : Act) (w : World), Inv l a w → Region.ready .any ops.toArray l = [] → ∀ i, i < ops.length → l.getD i false = true := by
    intro l a w hI hr i
    induction i using Nat.strongRecOn with
    | _ i ih =>
      intro hi
      cases hl : l.getD i false with
      | true => rfl
      | false =>
        exfalso
        have ho : ops[i]? = some ops[i] := List.getElem?_eq_getElem hi
        have hlt : i < l.size := by rw [hlen l a w hI]; exact hi
        have hmem : i ∈ Region.ready .any ops.toArray l := by
          rw [mem_ready]
          refine ⟨?_, ops[i], by simp, fun e he hb => ?_⟩
          · have : l.getD i true = l.getD i false := by simp [Array.getD, hlt]
            rw [this]; exact hl
          · have hd : e.on ∈ dpre ops[i] := mem_dpre.2 ⟨e, he, hb, rfl⟩
            have := hback i _ ho _ hd
            exact ih e.on this (by omega)
        rw [hr] at hmem
        cases hmem
  intro fuel
  induction fuel with
  | zero =>
    intro l a w hI hcnt
    have hall : ∀ i, i < ops.length → l.getD i false = true := by
      intro i hi
      cases hl : l.getD i false with
      | true => rfl
      | false =>
        have : i ∈ (List.range ops.length).filter (fun i => !l.getD i false) := List.mem_filter.2 ⟨List.mem_range.2 hi, by rw [hl]; rfl⟩
        rw [List.length_eq_zero_iff.1 hcnt] at this
        cases this
    refine ⟨?_, hend l a w hI hall⟩
    cases hr : Region.ready .any ops.toArray l with
    | nil => rfl
    | cons x r =>
      have hx : x ∈ Region.ready .any ops.toArray l := by rw [hr]; simp
      rw [mem_ready] at hx
      obtain ⟨h1, o, ho, _⟩ := hx
      have hlt : x < ops.length := by
        have := (Array.getElem?_eq_some_iff.1 ho).1
        simpa using this
      have := hall x hlt
      have hls : x < l.size := by rw [hlen l a w hI]; exact hlt
      simp [Array.getD, hls] at h1 this
      rw [this] at h1
      cases h1
  | succ fuel ih =>
    intro l a w hI hcnt
    refine ⟨fun hr => hend l a w hI (hready l a w hI hr), ?_⟩
    intro i hi
    have hi' := hi
    rw [mem_ready] at hi'
    obtain ⟨h1, o, ho, hp⟩ := hi'
    have ho' : ops[i]? = some o := by simpa using ho
    have hlt : i < ops.length := (List.getElem?_eq_some_iff.1 ho').1
    have hls : i < l.size := by rw [hlen l a w hI]; exact hlt
    have hl : l.getD i false = false := by
      simp [Array.getD, hls] at h1 ⊢; exact h1
    have hpre : ∀ e ∈ dpre o, l.getD e false = true := by
      intro e he
      obtain ⟨x, hx, hb, rfl⟩ := mem_dpre.1 he
      exact hp x hx hb
    have hs := hstep l a w i o hI ho' hl hpre
    have hget := getD_set hls
    have hcnt' : ((List.range ops.length).filter (fun j => !(l.setIfInBounds i true).getD j false)).length = fuel := by
      have key : ∀ (L : List Nat), L.Nodup → i ∈ L → (L.filter (fun j => !(l.setIfInBounds i true).getD j false)).length + 1 = (L.filter (fun j => !l.getD j false)).length := by
        intro L hnd hL
        induction L with
        | nil => cases hL
        | cons x r ihL =>
          obtain ⟨hx, hr⟩ := List.nodup_cons.1 hnd
          by_cases e : i = x
          · subst e
            have h1 : (!(l.setIfInBounds i true).getD i false) = false := by rw [hget, if_pos rfl]; rfl
            have h2 : (!l.getD i false) = true := by rw [hl]; rfl
            have h3 : (i :: r).filter (fun j => !(l.setIfInBounds i true).getD j false) = r.filter (fun j => !(l.setIfInBounds i true).getD j false) := by
              rw [List.filter_cons, h1]; rfl
            have h4 : (i :: r).filter (fun j => !l.getD j false) = i :: r.filter (fun j => !l.getD j false) := by
              rw [List.filter_cons, h2]; rfl
            rw [h3, h4, List.length_cons]
            congr 1
            congr 1
            refine List.filter_congr (fun y hy => ?_)
            rw [hget, if_neg (fun h => hx (by rw [h]; exact hy))]
          · have hLr : i ∈ r := by
              rcases List.mem_cons.1 hL with h | h
              · exact absurd h e
              · exact h
            have hxe : (l.setIfInBounds i true).getD x false = l.getD x false := by rw [hget, if_neg e]
            by_cases hq : (!l.getD x false) = true
            · rw [List.filter_cons, List.filter_cons, hxe, if_pos hq, if_pos hq, List.length_cons, List.length_cons, ihL hr hLr]
            · rw [List.filter_cons, List.filter_cons, hxe, if_neg hq, if_neg hq, ihL hr hLr]
      have := key (List.range ops.length) List.nodup_range (List.mem_range.2 hlt)
      omega
    unfold wpOp
    rw [ho]
    simp only
    split
    · rename_i hw
      rw [if_pos hw] at hs
      refine .inl (Oper.wp_mono ?_ hs)
      intro a' w'' h
      exact ih _ _ _ h hcnt'
    · rename_i hw
      rw [if_neg hw] at hs
      exact ih _ _ _ hs hcnt'

/-! ### What stands ahead -/
theorem mor_spec {acc : List Nat} {j : Nat} : ∀ {l : List Nat} {m : Nat}, (mor acc l m).testBit j = true → m.testBit j = true ∨ ∃ e ∈ l, e = j ∨ (acc.getD e 0).testBit j = true
  | [], m, h => .inl h
  | e :: r, m, h => by
    rcases mor_spec (l := r) h with h | ⟨e', he', h⟩
    · rw [Nat.testBit_or, Nat.testBit_or, Bool.or_eq_true, Bool.or_eq_true] at h
      rcases h with (h | h) | h
      · exact .inl h
      · rw [Nat.shiftLeft_eq, Nat.one_mul, Nat.testBit_two_pow] at h
        exact .inr ⟨e, List.mem_cons_self, .inl (by simpa using h)⟩
      · exact .inr ⟨e, List.mem_cons_self, .inr h⟩
    · exact .inr ⟨e', List.mem_cons_of_mem _ he', h⟩
theorem mgo_pre : ∀ (r : List Oper) (acc : List Nat), ∃ tl, mgo r acc = acc ++ tl ∧ tl.length = r.length
  | [], acc => ⟨[], by simp [mgo]⟩
  | o :: r, acc => by
    obtain ⟨tl, h1, h2⟩ := mgo_pre r (acc ++ [mor acc (dpre o) 0])
    exact ⟨mor acc (dpre o) 0 :: tl, by rw [mgo, h1]; simp, by simp [h2]⟩
theorem mgo_at (r : List Oper) : ∀ (acc : List Nat) (k : Nat) (o : Oper), r[k]? = some o → ∃ acc', (mgo r acc).getD (acc.length + k) 0 = mor acc' (dpre o) 0 ∧ acc'.length = acc.length + k ∧ ∃ tl, mgo r acc = acc' ++ tl := by
  induction r with
  | nil => intro acc k o h; cases h
  | cons o' r ih =>
    intro acc k o h
    cases k with
    | zero =>
      simp only [List.getElem?_cons_zero, Option.some.injEq] at h
      subst h
      obtain ⟨tl, h1, _⟩ := mgo_pre r (acc ++ [mor acc (dpre o') 0])
      refine ⟨acc, ?_, rfl, mor acc (dpre o') 0 :: tl, ?_⟩
      · rw [mgo, h1]; simp
      · rw [mgo, h1]; simp
    | succ k =>
      obtain ⟨acc', h1, h2, h3⟩ := ih (acc ++ [mor acc (dpre o') 0]) k o (by simpa using h)
      rw [List.length_append, List.length_singleton] at h1 h2
      exact ⟨acc', by rw [mgo, ← h1]; congr 1; omega, by omega, h3⟩

/-- One operation stands ahead of another. -/
def Bef (ops : List Oper) (i j : Nat) : Prop := ((mgo ops []).getD i 0).testBit j = true
theorem bef_spec {i j : Nat} (h : Bef ops i j) (hback : ∀ i o, ops[i]? = some o → ∀ e ∈ dpre o, e < i) : ∃ o, ops[i]? = some o ∧ ∃ e ∈ dpre o, e = j ∨ Bef ops e j := by
  unfold Bef at h
  obtain ⟨tl, h1, h2⟩ := mgo_pre ops []
  have hl : (mgo ops []).length = ops.length := by rw [h1]; simpa using h2
  by_cases hi : i < ops.length
  · refine ⟨ops[i], List.getElem?_eq_getElem hi, ?_⟩
    obtain ⟨acc', k1, k2, tl', k3⟩ := mgo_at ops [] i _ (List.getElem?_eq_getElem hi)
    simp only [List.length_nil, Nat.zero_add] at k1 k2
    rw [k1] at h
    rcases mor_spec h with h | ⟨e, he, h⟩
    · simp at h
    · refine ⟨e, he, h.imp id fun h => ?_⟩
      have hlt := hback i _ (List.getElem?_eq_getElem hi) e he
      unfold Bef
      rw [k3, List.getD_eq_getElem?_getD, List.getElem?_append_left (by omega), ← List.getD_eq_getElem?_getD]
      exact h
  · rw [List.getD_eq_getElem?_getD, List.getElem?_eq_none (by omega)] at h
    simp at h
theorem bef_listed (hback : ∀ i o, ops[i]? = some o → ∀ e ∈ dpre o, e < i) {l : Array Bool} (hc : ∀ j o, l.getD j false = true → ops[j]? = some o → ∀ e ∈ dpre o, l.getD e false = true) : ∀ (i j : Nat), Bef ops i j → l.getD i false = true → l.getD j false = true := by
  intro i
  induction i using Nat.strongRecOn with
  | _ i ih =>
    intro j h hi
    obtain ⟨o, ho, e, he, hh⟩ := bef_spec h hback
    have hle := hc i o hi ho e he
    rcases hh with rfl | hh
    · exact hle
    · exact ih e (hback i o ho e he) j hh hle
theorem bef_ready (hback : ∀ i o, ops[i]? = some o → ∀ e ∈ dpre o, e < i) {l : Array Bool} (hc : ∀ j o, l.getD j false = true → ops[j]? = some o → ∀ e ∈ dpre o, l.getD e false = true) {i j : Nat} {o : Oper} (ho : ops[i]? = some o) (hp : ∀ e ∈ dpre o, l.getD e false = true) (h : Bef ops i j) : l.getD j false = true := by
  obtain ⟨o', ho', e, he, hh⟩ := bef_spec h hback
  rw [ho] at ho'; cases ho'
  rcases hh with rfl | hh
  · exact hp _ he
  · exact bef_listed hback hc e j hh (hp e he)
theorem ordB_spec {i j : Nat} (h : ordB (mgo ops []) i j = true) (hne : i ≠ j) : (j < i ∧ Bef ops i j) ∨ (i < j ∧ Bef ops j i) := by
  unfold ordB at h
  simp only [Bool.or_eq_true, Bool.and_eq_true, Nat.blt_eq] at h
  rcases h with h | h | h
  · exact absurd (Nat.eq_of_beq_eq_true h) hne
  · exact .inl h
  · exact .inr h

theorem dsts_mem (l : List Oper) : ∀ {i k : Nat} {o : Oper} {d : Nat}, l[k]? = some o → o.dst = some d → (i + k, d) ∈ dsts l i := by
  induction l with
  | nil => intro i k o d h; cases h
  | cons o' r ih =>
    intro i k o d h hd
    cases k with
    | zero =>
      simp only [List.getElem?_cons_zero, Option.some.injEq] at h
      subst h
      simp [dsts, hd]
    | succ k =>
      have := ih (i := i + 1) (k := k) (by simpa using h) hd
      rw [show i + (k + 1) = i + 1 + k by omega]
      unfold dsts
      split
      · exact List.mem_cons_of_mem _ this
      · exact this
theorem dst_unique (l : List Oper) : ∀ {i k k' : Nat} {o o' : Oper} {d : Nat}, nodupB (dsts l i) = true → l[k]? = some o → l[k']? = some o' → o.dst = some d → o'.dst = some d → k = k' := by
  induction l with
  | nil => intro i k k' o o' d _ h; cases h
  | cons x r ih =>
    intro i k k' o o' d h hk hk' hd hd'
    have hr : nodupB (dsts r (i + 1)) = true := by
      unfold dsts at h
      split at h
      · simp only [nodupB, Bool.and_eq_true] at h; exact h.2
      · exact h
    have hno : ∀ {j : Nat} {y : Oper}, r[j]? = some y → x.dst = some d → y.dst = some d → False := by
      intro j y hj h1 h2
      unfold dsts at h
      rw [h1] at h
      simp only [nodupB, Bool.and_eq_true, List.all_eq_true] at h
      have := h.1 _ (dsts_mem r (i := i + 1) hj h2)
      simp [Nat.beq_refl] at this
    cases k with
    | zero => cases k' with
      | zero => rfl
      | succ k' =>
        simp only [List.getElem?_cons_zero, Option.some.injEq, List.getElem?_cons_succ] at hk hk'
        subst hk; exact (hno hk' hd hd').elim
    | succ k => cases k' with
      | zero =>
        simp only [List.getElem?_cons_zero, Option.some.injEq, List.getElem?_cons_succ] at hk hk'
        subst hk'; exact (hno hk hd' hd).elim
      | succ k' =>
        simp only [List.getElem?_cons_succ] at hk hk'
        rw [ih hr hk hk' hd hd']

structure RStat (n : Nat) (ops : List Oper) : Prop where
  back : ∀ i o, ops[i]? = some o → ∀ e ∈ dpre o, e < i
  lt : ∀ (i : Nat) (o : Oper) d, ops[i]? = some o → o.dst = some d → d < n
  slot : ∀ (i : Nat) (o : Oper), ops[i]? = some o → ∀ s ∈ slots ops o, ∀ (j : Nat) (oj : Oper), ops[j]? = some oj → oj.dst = some s → i ≠ j → (j < i ∧ Bef ops i j) ∨ (i < j ∧ Bef ops j i)
  uniq : ∀ (i j : Nat) (oi oj : Oper) d, ops[i]? = some oi → ops[j]? = some oj → oi.dst = some d → oj.dst = some d → i = j
theorem stat_of {n : Nat} (h : okStat n ops (mgo ops []) = true) : RStat n ops := by
  unfold okStat at h
  rw [Bool.and_eq_true] at h
  obtain ⟨h1, h2⟩ := h
  have key : ∀ (r : List Oper) (i : Nat), infoOk (mgo ops []) (dsts ops 0) n ops r i = true → ∀ k o, r[k]? = some o → (∀ e ∈ dpre o, e < i + k) ∧ (∀ d, o.dst = some d → d < n) ∧ ∀ s ∈ slots ops o, ∀ p ∈ dsts ops 0, p.2 = s → ordB (mgo ops []) (i + k) p.1 = true := by
    intro r
    induction r with
    | nil => intro i _ k o h; cases h
    | cons x r ih =>
      intro i h k o hk
      simp only [infoOk, Bool.and_eq_true, List.all_eq_true] at h
      obtain ⟨⟨a1, a2, a3⟩, a4⟩ := h
      cases k with
      | zero =>
        simp only [List.getElem?_cons_zero, Option.some.injEq] at hk
        subst hk
        refine ⟨fun e he => by have := a1 e he; rwa [Nat.blt_eq] at this, fun d hd => ?_, fun s hs p hp he => ?_⟩
        · rw [hd] at a2; simpa [Nat.blt_eq] using a2
        · have := a3 s hs p hp
          rw [he, Nat.beq_refl] at this
          simpa using this
      | succ k =>
        have := ih (i + 1) a4 k o (by simpa using hk)
        rw [show i + (k + 1) = i + 1 + k by omega]
        exact this
  refine ⟨fun i o ho e he => ?_, fun i o d ho hd => ?_, fun i o ho s hs j oj hj hd hne => ?_, fun i j oi oj d hi hj h3 h4 => dst_unique ops h2 hi hj h3 h4⟩
  · have := (key ops 0 h1 i o ho).1 e he; omega
  · exact (key ops 0 h1 i o ho).2.1 d hd
  · have := (key ops 0 h1 i o ho).2.2 s hs _ (dsts_mem ops (i := 0) hj hd) rfl
    simp only [Nat.zero_add] at this
    exact ordB_spec this hne
end
end Go.Proofs.YtaakccdfgejgpaaGreatDoor.Abs
