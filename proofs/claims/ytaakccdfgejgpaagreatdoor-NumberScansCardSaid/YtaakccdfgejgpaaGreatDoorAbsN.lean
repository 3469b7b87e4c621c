/-
  Where values point; operations hang on what they point at alone; memory that is kept free for what is to come.
-/
import Derived.Test.YtaakccdfgejgpaaGreatDoorAbsM
namespace Go.Proofs.YtaakccdfgejgpaaGreatDoor.Abs
open Go
set_option linter.unusedVariables false

/-! ### Numbers of blocks in values -/
def AVal.ids : AVal → List Nat
  | .ptr b _ _ => [b]
  | .slice b _ _ => [b]
  | .fn _ a c => a.ids ++ c.ids
  | .pair a r => a.ids ++ r.ids
  | .agg p => p.ids
  | .tup p => p.ids
  | _ => []
def Blk.ids : Blk → List Nat
  | .var _ _ v => v.ids
  | _ => []
def AVal.top : AVal → List Nat
  | .ptr b _ _ => [b]
  | .slice b _ _ => [b]
  | _ => []
def idsL : List AVal → List Nat
  | [] => []
  | v :: r => v.ids ++ idsL r

section
variable {P : Program} {C : Cfg} {σ σ' τ : List Pl} {n : Nat} {ds : List Deferred} {fr fr' : Fr} {a : Act} {w w' w0 : World} {F G : Nat → Prop} {H H' : Heap}

theorem RL.lt : ∀ {v : AVal} {m : Bool} {cs : List Value}, RL C σ v m cs → ∀ i ∈ v.ids, i < σ.length := by
  intro v
  induction v with
  | ptr b g p =>
    intro m cs h i hi
    simp only [RL] at h
    obtain ⟨pl, _, h1, _⟩ := h
    simp only [AVal.ids, List.mem_singleton] at hi
    subst hi
    exact (List.getElem?_eq_some_iff.1 h1).1
  | slice b g v =>
    intro m cs h i hi
    simp only [RL] at h
    obtain ⟨pl, _, _, _, h1, _⟩ := h
    simp only [AVal.ids, List.mem_singleton] at hi
    subst hi
    exact (List.getElem?_eq_some_iff.1 h1).1
  | fn f x y ihx ihy =>
    intro m cs h i hi
    simp only [RL] at h
    obtain ⟨p, q, h1, h2, _⟩ := h
    simp only [AVal.ids, List.mem_append] at hi
    exact hi.elim (ihx h1 i) (ihy h2 i)
  | pair x r ihx ihr =>
    intro m cs h i hi
    simp only [AVal.ids, List.mem_append] at hi
    cases m <;> simp only [RL] at h
    · obtain ⟨p, q, h1, h2, _⟩ := h
      exact hi.elim (ihx h1 i) (ihr h2 i)
    · obtain ⟨p, q, h1, h2, _⟩ := h
      exact hi.elim (ihx h1 i) (ihr h2 i)
  | agg p ih =>
    intro m cs h i hi
    cases m <;> simp only [RL] at h
    · exact ih h i hi
    · obtain ⟨x, h1, _⟩ := h
      exact ih h1 i hi
  | tup p ih =>
    intro m cs h i hi
    cases m <;> simp only [RL] at h
    obtain ⟨x, h1, _⟩ := h
    exact ih h1 i hi
  | _ => intro m cs h i hi; cases hi

/-- Placements that agree where a value points. -/
def LeOn (l : List Nat) (σ τ : List Pl) : Prop := ∀ i ∈ l, ∀ p : Pl, σ[i]? = some p → ∃ p' : Pl, τ[i]? = some p' ∧ p.gen ≤ p'.gen ∧ (p.gen = p'.gen → p' = p)
theorem LeOn.left {l m : List Nat} (h : LeOn (l ++ m) σ τ) : LeOn l σ τ := fun i hi => h i (List.mem_append_left _ hi)
theorem LeOn.right {l m : List Nat} (h : LeOn (l ++ m) σ τ) : LeOn m σ τ := fun i hi => h i (List.mem_append_right _ hi)

theorem RL.monoOn : ∀ {v : AVal} {m : Bool} {cs : List Value}, LeOn v.ids σ τ → RL C σ v m cs → RL C τ v m cs := by
  intro v
  induction v with
  | ptr b g p =>
    intro m cs hl h
    simp only [RL] at h ⊢
    obtain ⟨pl, a, h1, h2, h3, h4⟩ := h
    obtain ⟨pl', k1, k2, k3⟩ := hl b (by simp [AVal.ids]) pl h1
    refine ⟨pl', a, k1, Nat.le_trans h2 k2, fun e => ?_, h4⟩
    have e1 : pl.gen = pl'.gen := by omega
    rw [k3 e1]
    exact h3 (by omega)
  | slice b g v =>
    intro m cs hl h
    simp only [RL] at h ⊢
    obtain ⟨pl, A, len, cap, h1, h2, h3, h4⟩ := h
    obtain ⟨pl', k1, k2, k3⟩ := hl b (by simp [AVal.ids]) pl h1
    refine ⟨pl', A, len, cap, k1, Nat.le_trans h2 k2, fun e => ?_, h4⟩
    have e1 : pl.gen = pl'.gen := by omega
    rw [k3 e1]
    exact h3 (by omega)
  | fn f a c iha ihc =>
    intro m cs hl h
    simp only [RL] at h ⊢
    obtain ⟨x, y, h1, h2, h3⟩ := h
    exact ⟨x, y, iha hl.left h1, ihc hl.right h2, h3⟩
  | pair a r iha ihr =>
    intro m cs hl h
    cases m <;> simp only [RL] at h ⊢
    · obtain ⟨x, y, h1, h2, h3⟩ := h
      exact ⟨x, y, iha hl.left h1, ihr hl.right h2, h3⟩
    · obtain ⟨x, y, h1, h2, h3⟩ := h
      exact ⟨x, y, iha hl.left h1, ihr hl.right h2, h3⟩
  | agg p ih =>
    intro m cs hl h
    cases m <;> simp only [RL] at h ⊢
    · exact ih hl h
    · obtain ⟨x, h1, h2⟩ := h
      exact ⟨x, ih hl h1, h2⟩
  | tup p ih =>
    intro m cs hl h
    cases m <;> simp only [RL] at h ⊢
    obtain ⟨x, h1, h2⟩ := h
    exact ⟨x, ih hl h1, h2⟩
  | _ =>
    intro m cs hl h
    cases m <;> first | (simp only [RL] at h; done) | simpa only [RL] using h
theorem RL.agree {v : AVal} {m : Bool} {cs : List Value} (hl : ∀ i ∈ v.ids, ∀ p, σ[i]? = some p → τ[i]? = some p) (h : RL C σ v m cs) : RL C τ v m cs :=
  RL.monoOn (fun i hi p hp => ⟨p, hl i hi p hp, Nat.le_refl _, fun _ => rfl⟩) h

theorem HR.closed (h : HR C F G w0 σ H w) (b : Nat) : ∀ i ∈ (hget H b).ids, i < H.length := by
  intro i hi
  cases hb : hget H b with
  | dead => rw [hb] at hi; cases hi
  | row _ _ _ _ _ => rw [hb] at hi; cases hi
  | var ver T v =>
    rw [hb] at hi
    have hlt : b < σ.length := by rw [h.len]; exact hget_len (by rw [hb]; rfl)
    obtain ⟨_, _, _, _, c, cs, fz, _, h6, _⟩ := h.var hb (List.getElem?_eq_getElem hlt)
    rw [← h.len]
    exact RL.lt h6 i hi

/-! ### Memory kept free -/
def dum : Pl := ⟨false, 0, 0, none, 0, 0, 0⟩
def setL {α : Type} : List α → Nat → List α → List α
  | l, _, [] => l
  | l, n, x :: r => setL (l.set n x) (n + 1) r
def hsets : Heap → Nat → List Blk → Heap
  | H, _, [] => H
  | H, n, x :: r => hsets (hset H n x) (n + 1) r
theorem setL_get {α : Type} : ∀ (r : List α) (l : List α) (n i : Nat), n + r.length ≤ l.length → (setL l n r)[i]? = if n ≤ i ∧ i < n + r.length then r[i - n]? else l[i]?
  | [], l, n, i, h => by simp [setL]; intro h1 h2; omega
  | x :: r, l, n, i, h => by
    simp only [List.length_cons] at h
    rw [setL, setL_get r _ _ _ (by simp; omega)]
    by_cases h1 : n + 1 ≤ i ∧ i < n + 1 + r.length
    · rw [if_pos h1, if_pos (by simp only [List.length_cons]; omega), show i - n = (i - (n + 1)) + 1 by omega, List.getElem?_cons_succ]
    · rw [if_neg h1]
      by_cases h2 : i = n
      · subst h2
        rw [if_pos (by simp only [List.length_cons]; omega), List.getElem?_set_self (by omega)]
        simp
      · rw [if_neg (by simp only [List.length_cons]; omega), List.getElem?_set_ne (fun e => h2 e.symm)]
theorem setL_len {α : Type} : ∀ (r : List α) (l : List α) (n : Nat), (setL l n r).length = l.length
  | [], _, _ => rfl
  | x :: r, l, n => by rw [setL, setL_len r]; simp
theorem hsets_get : ∀ (r : List Blk) (H : Heap) (n i : Nat), n + r.length ≤ H.length → hget (hsets H n r) i = if n ≤ i ∧ i < n + r.length then hget r (i - n) else hget H i
  | [], H, n, i, h => by simp [hsets]; intro h1 h2; omega
  | x :: r, H, n, i, h => by
    simp only [List.length_cons] at h
    rw [hsets, hsets_get r _ _ _ (by rw [hset_len]; omega), hget_set (by omega)]
    by_cases h1 : n + 1 ≤ i ∧ i < n + 1 + r.length
    · rw [if_pos h1, if_pos (by simp only [List.length_cons]; omega), show i - n = (i - (n + 1)) + 1 by omega]; rfl
    · rw [if_neg h1]
      by_cases h2 : n = i
      · subst h2
        rw [if_pos rfl, if_pos (by simp only [List.length_cons]; omega)]
        simp [hget]
      · rw [if_neg h2, if_neg (by simp only [List.length_cons]; omega)]
theorem hsets_len : ∀ (r : List Blk) (H : Heap) (n : Nat), (hsets H n r).length = H.length
  | [], _, _ => rfl
  | x :: r, H, n => by rw [hsets, hsets_len r, hset_len]
theorem hget_ge : ∀ {H : Heap} {b : Nat}, H.length ≤ b → hget H b = .dead
  | [], _, _ => rfl
  | _ :: r, 0, h => by simp at h
  | _ :: r, b + 1, h => by simp only [List.length_cons] at h; exact hget_ge (H := r) (by omega)
theorem heap_ext : ∀ {A B : Heap}, A.length = B.length → (∀ b, hget A b = hget B b) → A = B
  | [], [], _, _ => rfl
  | x :: r, y :: s, hl, h => by
    have h0 := h 0
    simp only [hget] at h0
    rw [h0, heap_ext (A := r) (B := s) (by simpa using hl) (fun b => h (b + 1))]
  | [], _ :: _, hl, _ => by simp at hl
  | _ :: _, [], hl, _ => by simp at hl
theorem hget_rep (N b : Nat) : hget (List.replicate N Blk.dead) b = .dead := by
  induction N generalizing b with
  | zero => rfl
  | succ N ih => cases b with
    | zero => rfl
    | succ b => exact ih b

theorem HR.reserve (h : HR C F G w0 σ H w) : ∀ N, HR C F G w0 (σ ++ List.replicate N dum) (H ++ List.replicate N .dead) w
  | 0 => by simpa using h
  | N + 1 => by
    have := (h.reserve N).push (But.refl w.heap.size w) dum .dead trivial (fun c o hc => by cases hc)
    rw [List.replicate_succ', List.replicate_succ', ← List.append_assoc, ← List.append_assoc]
    exact this.1
theorem HR.drew (h : HR C F G w0 σ H w) : HR C F G w0 σ H { w with drawn := w.drawn + 1 } := ⟨⟨h.bx.os, h.bx.tape, h.bx.output, h.bx.size, h.bx.block⟩, h.len, h.blk, h.mine, h.apart, h.gl⟩

theorem BR.monoOn {p : Pl} {blk : Blk} (hl : LeOn blk.ids σ τ) (h : BR C σ w p blk) : BR C τ w p blk := by
  cases blk with
  | dead => trivial
  | row _ _ _ _ _ => exact h
  | var ver T v =>
    obtain ⟨h1, h2, h3, h4, c, cs, fz, h5, h6, h7⟩ := h
    exact ⟨h1, h2, h3, h4, c, cs, fz, h5, RL.monoOn hl h6, h7⟩

/-- What was put behind moves to where room was kept. -/
theorem HR.moves {nw : Nat} {pls : List Pl} {blks : List Blk} (h : HR C F G w0 (σ ++ pls) (H ++ blks) w) (hl : σ.length = H.length) (hn : nw + blks.length ≤ H.length) (hd : ∀ j, j < blks.length → hget H (nw + j) = .dead) (h0 : ∀ j, j < blks.length → ∃ p, σ[nw + j]? = some p ∧ p.gen = 0)
    (h1 : ∀ p ∈ pls, p.gen = 1) (hc : ∀ b, ∀ i ∈ (hget H b).ids, i < H.length) (hc' : ∀ blk ∈ blks, ∀ i ∈ blk.ids, i < H.length) :
    HR C F G w0 (setL σ nw pls) (hsets H nw blks) w ∧ Le σ (setL σ nw pls) := by
  have hpl : pls.length = blks.length := by have := h.len; simp only [List.length_append] at this; omega
  have hle : Le σ (setL σ nw pls) := by
    intro b p hb
    rw [setL_get _ _ _ _ (by omega)]
    by_cases hr : nw ≤ b ∧ b < nw + pls.length
    · rw [if_pos hr]
      obtain ⟨q, hq, hg⟩ := h0 (b - nw) (by omega)
      rw [show nw + (b - nw) = b by omega, hb] at hq
      cases hq
      have hlt : b - nw < pls.length := by omega
      refine ⟨pls[b - nw], List.getElem?_eq_getElem hlt, by omega, fun e => ?_⟩
      have := h1 _ (List.getElem_mem hlt)
      omega
    · rw [if_neg hr]; exact ⟨p, hb, Nat.le_refl _, fun _ => rfl⟩
  let φ : Nat → Nat := fun b => if nw ≤ b ∧ b < nw + blks.length then H.length + (b - nw) else b
  have hφ : ∀ b p, (setL σ nw pls)[b]? = some p → b < H.length ∧ (σ ++ pls)[φ b]? = some p ∧ hget (hsets H nw blks) b = hget (H ++ blks) (φ b) := by
    intro b p hb
    have hlt : b < H.length := by have := (List.getElem?_eq_some_iff.1 hb).1; rw [setL_len] at this; omega
    refine ⟨hlt, ?_⟩
    rw [setL_get _ _ _ _ (by omega)] at hb
    rw [hsets_get _ _ _ _ hn, hget_app]
    simp only [φ]
    by_cases hr : nw ≤ b ∧ b < nw + blks.length
    · rw [if_pos (by omega)] at hb
      rw [if_pos hr, if_pos hr, if_neg (by omega), List.getElem?_append_right (by omega)]
      exact ⟨by rw [← hb]; congr 1; omega, by congr 1; omega⟩
    · rw [if_neg (by omega)] at hb
      rw [if_neg hr, if_neg hr, if_pos hlt, List.getElem?_append_left (by omega)]
      exact ⟨hb, rfl⟩
  have hinj : ∀ b b', b < H.length → b' < H.length → b ≠ b' → φ b ≠ φ b' := by
    intro b b' h1 h2 hne
    simp only [φ]
    split <;> split <;> omega
  refine ⟨⟨h.bx, by rw [setL_len, hsets_len, hl], fun b p hb => ?_, fun b p c o hb hlv ha => ?_, fun b p b' p' c o c' o' hne ho hlv hb hb' ha ha' => ?_, h.gl⟩, hle⟩
  · obtain ⟨k0, k1, k2⟩ := hφ b p hb
    rw [k2]
    have hbr := h.blk _ p k1
    refine hbr.monoOn (fun i hi q hq => ?_)
    have hil : i < H.length := by
      rw [hget_app] at hi
      split at hi
      · exact hc _ i hi
      · rename_i hge
        cases hx : hget blks (φ b - H.length) with
        | dead => rw [hx] at hi; cases hi
        | row _ _ _ _ _ => rw [hx] at hi; cases hi
        | var ver T v =>
          have hlt : φ b - H.length < blks.length := hget_len (by rw [hx]; rfl)
          have : ∀ (l : List Blk) (k : Nat), k < l.length → hget l k ∈ l := by
            intro l
            induction l with
            | nil => intro k hk; simp at hk
            | cons y s ih => intro k hk; cases k with
              | zero => exact List.mem_cons_self
              | succ k => exact List.mem_cons_of_mem _ (ih k (by simpa using hk))
          exact hc' _ (this _ _ hlt) i hi
    rw [List.getElem?_append_left (by omega)] at hq
    exact hle i q hq
  · obtain ⟨k0, k1, k2⟩ := hφ b p hb
    rw [k2] at hlv ⊢
    exact h.mine _ p c o k1 hlv ha
  · obtain ⟨k0, k1, k2⟩ := hφ b p hb
    obtain ⟨m0, m1, m2⟩ := hφ b' p' hb'
    rw [k2] at ho
    rw [m2] at hlv
    exact h.apart _ p _ p' c o c' o' (hinj b b' k0 m0 hne) ho hlv k1 m1 ha ha'
end
end Go.Proofs.YtaakccdfgejgpaaGreatDoor.Abs
