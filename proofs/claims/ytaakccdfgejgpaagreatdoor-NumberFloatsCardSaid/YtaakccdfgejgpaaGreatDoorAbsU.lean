/-
  States in one form, second part: blocks that are left are dropped.
-/
import Derived.Test.YtaakccdfgejgpaaGreatDoorAbsT
namespace Go.Proofs.YtaakccdfgejgpaaGreatDoor.Abs
open Go
set_option linter.unusedVariables false

def renI (np n0 i : Nat) : Option Nat := match Nat.blt i np with
  | true => some i
  | false => match Nat.blt i n0 with
    | true => none
    | false => some (Nat.sub i (Nat.sub n0 np))
def AVal.ren (np n0 : Nat) : AVal → Option AVal
  | .ptr b g p => match renI np n0 b with
    | some b' => some (.ptr b' g p)
    | none => none
  | .slice b g u => match renI np n0 b with
    | some b' => some (.slice b' g u)
    | none => none
  | .fn f a c => match a.ren np n0, c.ren np n0 with
    | some a', some c' => some (.fn f a' c')
    | _, _ => none
  | .pair a r => match a.ren np n0, r.ren np n0 with
    | some a', some r' => some (.pair a' r')
    | _, _ => none
  | .agg p => match p.ren np n0 with
    | some p' => some (.agg p')
    | none => none
  | .tup p => match p.ren np n0 with
    | some p' => some (.tup p')
    | none => none
  | v => some v
def Blk.ren (tt : Tab) (np n0 : Nat) : Blk → Option Blk
  | .dead => some .dead
  | .row _ g own e s => some (.row 0 g own e s)
  | .var _ T v => match v.ren np n0 with
    | some v' => match fit1 tt v' T with
      | true => some (.var 0 T v')
      | false => none
    | none => none
def renH (tt : Tab) (np n0 : Nat) : Heap → Option Heap
  | [] => some []
  | x :: r => match x.ren tt np n0, renH tt np n0 r with
    | some x', some r' => some (x' :: r')
    | _, _ => none
def renF (np n0 : Nat) : Fr → Option Fr
  | [] => some []
  | (s, v) :: r => match v.ren np n0, renF np n0 r with
    | some v', some r' => some ((s, v') :: r')
    | _, _ => none
abbrev Keep := List (Nat × Nat × Bool)
def canonF (tt : Tab) (np : Nat) : Keep → Fr → Heap → List (Nat × Nat) → Option (Fr × Heap × List (Nat × Nat))
  | [], _, H, m => some ([], H, m)
  | (s, t, ro) :: r, fr, H, m => match look fr s with
    | some v => match canonV tt np false ro 40 v [t] H m with
      | some (v', H1, m1) => match canonF tt np r fr H1 m1 with
        | some (fr', H2, m2) => some ((s, v') :: fr', H2, m2)
        | none => none
      | none => none
    | none => none
def canon (tt : Tab) (np : Nat) (keep : Keep) (fr : Fr) (H : Heap) : Option (Fr × Heap) := match Nat.ble np H.length with
  | false => none
  | true => match canonF tt np keep fr H [] with
    | none => none
    | some (fr1, H1, _) => match renF np H.length fr1, renH tt np H.length (H1.take np ++ H1.drop H.length) with
      | some fr', some H' => some (fr', H')
      | _, _ => none

section
variable {P : Program} {C : Cfg} {σ : List Pl} {w w0 : World} {F G : Nat → Prop} {H : Heap} {n : Nat} {ds : List Deferred} {fr : Fr} {a : Act}

def cutS {α : Type} (np n0 : Nat) (l : List α) : List α := l.take np ++ l.drop n0
theorem cutS_get {α : Type} {np n0 : Nat} (h : np ≤ n0) (l : List α) (hl : np ≤ l.length) (j : Nat) : (cutS np n0 l)[j]? = if j < np then l[j]? else l[j + (n0 - np)]? := by
  unfold cutS
  by_cases hj : j < np
  · rw [if_pos hj, List.getElem?_append_left (by rw [List.length_take]; omega), List.getElem?_take, if_pos hj]
  · rw [if_neg hj, List.getElem?_append_right (by rw [List.length_take]; omega), List.length_take, List.getElem?_drop]
    congr 1; omega
theorem hget_take {np : Nat} : ∀ {H : Heap} {j : Nat}, j < np → hget (H.take np) j = hget H j
  | [], j, _ => by simp
  | x :: r, 0, h => by
    cases np with
    | zero => omega
    | succ np => rfl
  | x :: r, j + 1, h => by
    cases np with
    | zero => omega
    | succ np => exact hget_take (H := r) (np := np) (by omega)
theorem hget_drop : ∀ {H : Heap} {n0 j : Nat}, hget (H.drop n0) j = hget H (n0 + j)
  | [], n0, j => by simp [hget]
  | x :: r, 0, j => by simp
  | x :: r, n0 + 1, j => by
    rw [List.drop_succ_cons, hget_drop (H := r), show n0 + 1 + j = (n0 + j) + 1 by omega]
    rfl
theorem cutS_hget {np n0 : Nat} (h : np ≤ n0) (H : Heap) (hl : np ≤ H.length) (j : Nat) : hget (cutS np n0 H) j = if j < np then hget H j else hget H (j + (n0 - np)) := by
  unfold cutS
  rw [hget_app, List.length_take]
  by_cases hj : j < np
  · rw [if_pos (by omega), if_pos hj, hget_take hj]
  · rw [if_neg (by omega), if_neg hj, hget_drop]
    congr 1; omega
theorem renI_get {np n0 i i' : Nat} (h : np ≤ n0) (hl : np ≤ σ.length) (hi : renI np n0 i = some i') {p : Pl} (hp : σ[i]? = some p) : (cutS np n0 σ)[i']? = some p := by
  rw [cutS_get h σ hl]
  unfold renI at hi
  split at hi
  · rename_i hb
    rw [Nat.blt_eq] at hb
    cases hi
    rw [if_pos hb]; exact hp
  · rename_i hb
    split at hi
    · cases hi
    · rename_i hc
      cases hi
      have h1 : ¬ i < np := by intro h; rw [← Nat.blt_eq, hb] at h; cases h
      have h2 : ¬ i < n0 := by intro h; rw [← Nat.blt_eq, hc] at h; cases h
      have e1 : Nat.sub i (Nat.sub n0 np) = i - (n0 - np) := rfl
      rw [e1, if_neg (by omega), show i - (n0 - np) + (n0 - np) = i by omega]
      exact hp

theorem RL.ren {np n0 : Nat} (h : np ≤ n0) (hl : np ≤ σ.length) : ∀ {v v' : AVal} {m : Bool} {cs : List Value}, v.ren np n0 = some v' → RL C σ v m cs → RL C (cutS np n0 σ) v' m cs := by
  intro v
  induction v with
  | ptr b g p =>
    intro v' m cs hv hr
    simp only [AVal.ren] at hv
    split at hv
    · rename_i b' hb
      cases hv
      simp only [RL] at hr ⊢
      obtain ⟨pl, a, h1, h2⟩ := hr
      exact ⟨pl, a, renI_get h hl hb h1, h2⟩
    · cases hv
  | slice b g u =>
    intro v' m cs hv hr
    simp only [AVal.ren] at hv
    split at hv
    · rename_i b' hb
      cases hv
      simp only [RL] at hr ⊢
      obtain ⟨pl, A, len, cap, h1, h2⟩ := hr
      exact ⟨pl, A, len, cap, renI_get h hl hb h1, h2⟩
    · cases hv
  | fn f a c iha ihc =>
    intro v' m cs hv hr
    simp only [AVal.ren] at hv
    split at hv
    · rename_i a' c' ha hc
      cases hv
      simp only [RL] at hr ⊢
      obtain ⟨x, y, h1, h2, h3⟩ := hr
      exact ⟨x, y, iha ha h1, ihc hc h2, h3⟩
    · cases hv
  | pair a r iha ihr =>
    intro v' m cs hv hr
    simp only [AVal.ren] at hv
    split at hv
    · rename_i a' r' ha hrr
      cases hv
      cases m <;> simp only [RL] at hr ⊢
      · obtain ⟨x, y, h1, h2, h3⟩ := hr
        exact ⟨x, y, iha ha h1, ihr hrr h2, h3⟩
      · obtain ⟨x, y, h1, h2, h3⟩ := hr
        exact ⟨x, y, iha ha h1, ihr hrr h2, h3⟩
    · cases hv
  | agg p ih =>
    intro v' m cs hv hr
    simp only [AVal.ren] at hv
    split at hv
    · rename_i p' hp
      cases hv
      cases m <;> simp only [RL] at hr ⊢
      · exact ih hp hr
      · obtain ⟨x, h1, h2⟩ := hr
        exact ⟨x, ih hp h1, h2⟩
    · cases hv
  | tup p ih =>
    intro v' m cs hv hr
    simp only [AVal.ren] at hv
    split at hv
    · rename_i p' hp
      cases hv
      cases m <;> simp only [RL] at hr ⊢
      obtain ⟨x, h1, h2⟩ := hr
      exact ⟨x, ih hp h1, h2⟩
    · cases hv
  | _ =>
    intro v' m cs hv hr
    cases hv
    cases m <;> first | (simp only [RL] at hr; done) | simpa only [RL] using hr

theorem renH_get {tt : Tab} {np n0 : Nat} : ∀ {H H' : Heap}, renH tt np n0 H = some H' → H'.length = H.length ∧ ∀ j, (hget H j).ren tt np n0 = some (hget H' j)
  | [], H', h => by cases h; exact ⟨rfl, fun j => rfl⟩
  | x :: r, H', h => by
    unfold renH at h
    split at h
    · rename_i x' r' h1 h2
      cases h
      obtain ⟨k1, k2⟩ := renH_get h2
      refine ⟨by simp [k1], fun j => ?_⟩
      cases j with
      | zero => exact h1
      | succ j => exact k2 j
    · cases h
theorem Blk.ren_own {tt : Tab} {np n0 : Nat} {x x' : Blk} (h : x.ren tt np n0 = some x') : x'.own = x.own ∧ x'.live = x.live := by
  cases x with
  | dead => cases h; exact ⟨rfl, rfl⟩
  | row _ _ _ _ _ => cases h; exact ⟨rfl, rfl⟩
  | var ver T v =>
    simp only [Blk.ren] at h
    split at h
    · split at h
      · cases h; exact ⟨rfl, rfl⟩
      · cases h
    · cases h

/-- The blocks between are dropped. -/
theorem HR.cut {np n0 : Nat} {H' : Heap} (hn : np ≤ n0) (hl : n0 ≤ H.length) (h : HR C F G w0 σ H w) (hr : renH C.tt np n0 (cutS np n0 H) = some H') : HR C F G w0 (cutS np n0 σ) H' w := by
  obtain ⟨k1, k2⟩ := renH_get hr
  have hls : np ≤ σ.length := by rw [h.len]; omega
  let φ : Nat → Nat := fun j => if j < np then j else j + (n0 - np)
  have hφ : ∀ j p, (cutS np n0 σ)[j]? = some p → σ[φ j]? = some p ∧ (hget H (φ j)).ren C.tt np n0 = some (hget H' j) := by
    intro j p hp
    rw [cutS_get hn σ hls] at hp
    have := k2 j
    rw [cutS_hget hn H (by omega)] at this
    simp only [φ]
    split
    · rename_i hj; rw [if_pos hj] at hp this; exact ⟨hp, this⟩
    · rename_i hj; rw [if_neg hj] at hp this; exact ⟨hp, this⟩
  have hinj : ∀ j j', j ≠ j' → φ j ≠ φ j' := by
    intro j j' hne
    simp only [φ]
    split <;> split <;> omega
  refine ⟨h.bx, ?_, fun j p hp => ?_, fun j p c o hp hlv ha => ?_, fun j p j' p' c o c' o' hne ho hlv hp hp' ha ha' => ?_, h.gl⟩
  · rw [k1]; unfold cutS; simp [h.len]
  · obtain ⟨q1, q2⟩ := hφ j p hp
    have hb := h.blk _ p q1
    cases hx : hget H (φ j) with
    | dead => rw [hx] at q2; simp only [Blk.ren, Option.some.injEq] at q2; rw [← q2]; trivial
    | row ver g own e s =>
      rw [hx] at q2 hb
      simp only [Blk.ren, Option.some.injEq] at q2
      rw [← q2]
      exact hb
    | var ver T v =>
      rw [hx] at q2 hb
      simp only [Blk.ren] at q2
      split at q2
      · rename_i v' hv
        split at q2
        · rename_i hf
          simp only [Option.some.injEq] at q2
          rw [← q2]
          obtain ⟨b1, b2, b3, b4, c, cs, fz, b5, b6, b7⟩ := hb
          exact ⟨b1, b2, b3, hf, c, cs, fz, b5, RL.ren hn hls hv b6, b7⟩
        · cases q2
      · cases q2
  · obtain ⟨q1, q2⟩ := hφ j p hp
    obtain ⟨e1, e2⟩ := Blk.ren_own q2
    rw [e2] at hlv
    rw [e1]
    exact h.mine _ p c o q1 hlv ha
  · obtain ⟨q1, q2⟩ := hφ j p hp
    obtain ⟨p1, p2⟩ := hφ j' p' hp'
    rw [(Blk.ren_own q2).1] at ho
    rw [(Blk.ren_own p2).2] at hlv
    exact h.apart _ p _ p' c o c' o' (hinj j j' hne) ho hlv q1 p1 ha ha'

/-- The first placements are as they were. -/
def Lp (np : Nat) (σ σ' : List Pl) : Prop := ∀ b, b < np → ∀ p : Pl, σ[b]? = some p → ∃ p' : Pl, σ'[b]? = some p' ∧ p.gen ≤ p'.gen ∧ (p.gen = p'.gen → p' = p)
theorem Lp.refl (np : Nat) (σ : List Pl) : Lp np σ σ := fun b _ p h => ⟨p, h, Nat.le_refl _, fun _ => rfl⟩
theorem Lp.of {np : Nat} {σ σ' : List Pl} (h : Le σ σ') : Lp np σ σ' := fun b _ p hp => h b p hp
theorem Lp.trans {np : Nat} {σ σ' σ'' : List Pl} (h : Lp np σ σ') (k : Lp np σ' σ'') : Lp np σ σ'' := by
  intro b hb p hp
  obtain ⟨p', h1, h2, h3⟩ := h b hb p hp
  obtain ⟨p'', k1, k2, k3⟩ := k b hb p' h1
  refine ⟨p'', k1, Nat.le_trans h2 k2, fun e => ?_⟩
  have e1 : p.gen = p'.gen := by omega
  have e2 : p'.gen = p''.gen := by omega
  rw [k3 e2, h3 e1]
theorem Lp.cut {np n0 : Nat} (h : np ≤ n0) (hl : np ≤ σ.length) : Lp np σ (cutS np n0 σ) := fun b hb p hp => ⟨p, by rw [cutS_get h σ hl, if_pos hb]; exact hp, Nat.le_refl _, fun _ => rfl⟩

theorem canonF_ok (ht : TabOk P C.tt) {np : Nat} : ∀ {keep : Keep} {H : Heap} {m : List (Nat × Nat)} {fr' : Fr} {H' : Heap} {m' : List (Nat × Nat)}, canonF C.tt np keep fr H m = some (fr', H', m') →
    ∀ {σ : List Pl}, RepA C σ n ds fr a → HR C F G w0 σ H w → Mok σ m → ∃ τ, RepA C (σ ++ τ) n ds fr' a ∧ HR C F G w0 (σ ++ τ) H' w ∧ Mok (σ ++ τ) m'
  | [], H, m, fr', H', m', h, σ, hr, hh, hm => by
    cases h
    exact ⟨[], ⟨hr.size, fun i v hi => (by cases hi), hr.dfs⟩, by simpa using hh, by simpa using hm⟩
  | (s, t, ro) :: r, H, m, fr', H', m', h, σ, hr, hh, hm => by
    unfold canonF at h
    split at h
    · rename_i v hv
      split at h
      · rename_i v' H1 m1 h1
        split at h
        · rename_i fr2 H2 m2 h2
          cases h
          obtain ⟨c, hc1, hc2⟩ := hr.vals s v hv
          obtain ⟨τ1, q1, q2, q3, _⟩ := canonV_ok ht 40 h1 hh hm hc2
          obtain ⟨τ2, p1, p2, p3⟩ := canonF_ok ht h2 (hr.mono (Le.push σ τ1)) q1 q2
          refine ⟨τ1 ++ τ2, ?_, by rw [← List.append_assoc]; exact p2, by rw [← List.append_assoc]; exact p3⟩
          rw [← List.append_assoc]
          refine ⟨p1.size, fun i u hi => ?_, p1.dfs⟩
          rw [look_cons] at hi
          split at hi
          · rename_i e
            subst e
            cases hi
            exact ⟨c, hc1, RL.mono (Le.push _ τ2) q3⟩
          · exact p1.vals i u hi
        · cases h
      · cases h
    · cases h
theorem renF_look {np n0 : Nat} : ∀ {fr fr' : Fr}, renF np n0 fr = some fr' → ∀ i v, look fr' i = some v → ∃ u, look fr i = some u ∧ u.ren np n0 = some v
  | [], fr', h, i, v, hv => by cases h; cases hv
  | (s, x) :: r, fr', h, i, v, hv => by
    unfold renF at h
    split at h
    · rename_i x' r' h1 h2
      cases h
      rw [look_cons] at hv
      rw [look_cons]
      split at hv
      · rename_i e
        cases hv
        exact ⟨x, by rw [if_pos e], h1⟩
      · rename_i e
        obtain ⟨u, k1, k2⟩ := renF_look h2 i v hv
        exact ⟨u, by rw [if_neg e]; exact k1, k2⟩
    · cases h
theorem canon_ok (ht : TabOk P C.tt) {np : Nat} {keep : Keep} {fr' : Fr} {H' : Heap} (h : canon C.tt np keep fr H = some (fr', H')) (hr : RepA C σ n ds fr a) (hh : HR C F G w0 σ H w) : ∃ σ', Lp np σ σ' ∧ RepA C σ' n ds fr' a ∧ HR C F G w0 σ' H' w := by
  unfold canon at h
  split at h
  · cases h
  · rename_i hnp
    have hnp := Nat.le_of_ble_eq_true hnp
    split at h
    · cases h
    · rename_i fr1 H1 m1 h1
      split at h
      · rename_i fr2 H2 h2 h3
        cases h
        obtain ⟨τ, q1, q2, _⟩ := canonF_ok ht h1 hr hh (fun b b' h => by cases h)
        have hlen := hh.len
        have hl2 : H.length ≤ H1.length := by rw [← q2.len, List.length_append]; omega
        have hls : np ≤ (σ ++ τ).length := by rw [List.length_append]; omega
        refine ⟨cutS np H.length (σ ++ τ), (Lp.of (Le.push σ τ)).trans (Lp.cut hnp hls), ⟨q1.size, fun i v hi => ?_, q1.dfs⟩, q2.cut hnp hl2 h3⟩
        obtain ⟨u, k1, k2⟩ := renF_look h2 i v hi
        obtain ⟨c, k3, k4⟩ := q1.vals i u k1
        exact ⟨c, k3, RL.ren hnp hls k2 k4⟩
      · cases h
end
end Go.Proofs.YtaakccdfgejgpaaGreatDoor.Abs
