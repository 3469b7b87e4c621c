/-
  Memory that is made and written.
-/
import Derived.Test.YtaakccdfgejgpaaGreatDoorAbsH
namespace Go.Proofs.YtaakccdfgejgpaaGreatDoor.Abs
open Go
set_option linter.unusedVariables false

section
variable {P : Program} {C : Cfg} {σ σ' : List Pl} {n : Nat} {w w' w0 : World} {F G : Nat → Prop} {H : Heap}

/-- The world but for one block. -/
structure But (c : Nat) (w w' : World) : Prop where
  os : w'.os = w.os
  tape : w'.tape = w.tape
  output : w'.output = w.output
  size : w.heap.size ≤ w'.heap.size
  other : ∀ k, k < w.heap.size → k ≠ c → w'.heap[k]? = w.heap[k]?

theorem BR.keep (hl : Le σ σ') {p : Pl} {blk : Blk} (hk : ∀ c o, p.at_ = some (c, o) → w'.heap[c]? = w.heap[c]?) (h : BR C σ w p blk) : BR C σ' w' p blk := by
  cases blk with
  | dead => trivial
  | var ver T v =>
    obtain ⟨h1, h2, h3, h4, c, cs, fz, h5, h6, h7, h8⟩ := h
    exact ⟨h1, h2, h3, h4, c, cs, fz, h5, RL.mono hl h6, (hk c 0 h5).trans h7, h8⟩
  | row ver g own e s =>
    obtain ⟨h0, h1, h2, h3, h4, h5, h6, h7, h8, h9⟩ := h
    refine ⟨h0, h1, h2, h3, h4, h5, h6, h7, h8, ?_⟩
    split at h9
    · exact h9
    · rename_i c o hat
      obtain ⟨cl, T, fz, k1, k2⟩ := h9
      exact ⟨cl, T, fz, (hk c o hat).trans k1, k2⟩

theorem Bx.but {c : Nat} (h : Bx F w0 w) (hb : But c w w') (hc : w0.heap.size ≤ c ∨ F c) : Bx F w0 w' :=
  ⟨hb.os.trans h.os, hb.tape.trans h.tape, hb.output.trans h.output, Nat.le_trans h.size hb.size, fun k hk hF => by
    have : k ≠ c := by rintro rfl; rcases hc with hc | hc; omega; exact hF hc
    exact (hb.other k (Nat.lt_of_lt_of_le hk h.size) this).trans (h.block k hk hF)⟩
theorem Bx.new (h : Bx F w0 w) (hb : But w.heap.size w w') : Bx F w0 w' := h.but hb (.inl h.size)

theorem getElem?_push {σ : List Pl} {q : Pl} {b : Nat} {p : Pl} (h : (σ ++ [q])[b]? = some p) : (b < σ.length ∧ σ[b]? = some p) ∨ (b = σ.length ∧ p = q) := by
  by_cases hb : b < σ.length
  · rw [List.getElem?_append_left hb] at h; exact .inl ⟨hb, h⟩
  · rw [List.getElem?_append_right (by omega)] at h
    cases hd : b - σ.length with
    | zero => rw [hd] at h; simp at h; exact .inr ⟨by omega, h.symm⟩
    | succ k => rw [hd] at h; simp at h

/-- A new block. -/
theorem HR.push (h : HR C F G w0 σ H w) (hb : But w.heap.size w w') (q : Pl) (blk : Blk) (hbr : BR C (σ ++ [q]) w' q blk) (hat : ∀ c o, q.at_ = some (c, o) → c = w.heap.size ∧ c < w'.heap.size) :
    HR C F G w0 (σ ++ [q]) (H ++ [blk]) w' ∧ Le σ (σ ++ [q]) := by
  have hle := Le.push σ [q]
  have hold : ∀ b p c o, σ[b]? = some p → (hget H b).live = true → p.at_ = some (c, o) → w'.heap[c]? = w.heap[c]? := fun b p c o h1 h2 h3 => by
    have := (h.mine b p c o h1 h2 h3).1
    exact hb.other c this (by omega)
  have hbl : ∀ b, b < σ.length → hget (H ++ [blk]) b = hget H b := fun b hb' => by rw [hget_app, if_pos (by rw [← h.len]; exact hb')]
  have hbn : hget (H ++ [blk]) σ.length = blk := by rw [hget_app, if_neg (by rw [h.len]; omega), h.len]; simp [hget]
  refine ⟨⟨h.bx.new hb, by simp [h.len], fun b p hp => ?_, fun b p c o hp hl ha => ?_, fun b p b' p' c o c' o' hne ho hl hp hp' ha ha' => ?_, h.gl⟩, hle⟩
  · rcases getElem?_push hp with ⟨hlt, hp⟩ | ⟨rfl, rfl⟩
    · rw [hbl b hlt]
      have := h.blk b p hp
      cases hd : hget H b with
      | dead => trivial
      | var _ _ _ => rw [← hd]; exact this.keep hle (fun c o hat => hold b p c o hp (by rw [hd]; rfl) hat)
      | row _ _ _ _ _ => rw [← hd]; exact this.keep hle (fun c o hat => hold b p c o hp (by rw [hd]; rfl) hat)
    · rw [hbn]; exact hbr
  · rcases getElem?_push hp with ⟨hlt, hp⟩ | ⟨rfl, rfl⟩
    · rw [hbl b hlt] at hl ⊢
      obtain ⟨h1, h2, h3⟩ := h.mine b p c o hp hl ha
      exact ⟨Nat.lt_of_lt_of_le h1 hb.size, h2, h3⟩
    · obtain ⟨rfl, h2⟩ := hat c o ha
      have := h.bx.size
      exact ⟨h2, fun _ => .inl this, .inl this⟩
  · rcases getElem?_push hp with ⟨hlt, hq1⟩ | ⟨hb1, hq1⟩
    · rw [hbl b hlt] at ho
      have hlv : (hget H b).live = true := by cases hd : hget H b <;> simp [hd, Blk.own, Blk.live] at ho ⊢
      rcases getElem?_push hp' with ⟨hlt', hq2⟩ | ⟨hb2, hq2⟩
      · rw [hbl b' hlt'] at hl
        exact h.apart b p b' p' c o c' o' hne ho hl hq1 hq2 ha ha'
      · rw [hq2] at ha'
        have h1 := (h.mine b p c o hq1 hlv ha).1
        have h2 := (hat c' o' ha').1
        omega
    · rw [hq1] at ha
      rcases getElem?_push hp' with ⟨hlt', hq2⟩ | ⟨hb2, hq2⟩
      · rw [hbl b' hlt'] at hl
        have h1 := (h.mine b' p' c' o' hq2 hl ha').1
        have h2 := (hat c o ha).1
        omega
      · exact absurd (hb1.trans hb2.symm) hne

theorem getElem?_set_cases {σ : List Pl} {b i : Nat} {q p : Pl} (h : (σ.set b q)[i]? = some p) : (i = b ∧ p = q) ∨ (i ≠ b ∧ σ[i]? = some p) := by
  by_cases e : i = b
  · subst e
    left
    rw [List.getElem?_set] at h
    split at h
    · split at h
      · exact ⟨rfl, by simpa using h.symm⟩
      · cases h
    · exact absurd rfl ‹_›
  · exact .inr ⟨e, by rwa [List.getElem?_set_ne (fun h => e h.symm)] at h⟩

/-- What is dead stays as it is. -/
def LeD (H : Heap) (σ σ' : List Pl) : Prop := Le σ σ' ∧ σ'.length = σ.length ∧ ∀ b, hget H b = .dead → σ'[b]? = σ[b]?
/-- A block of the call's own is written, or placed anew. -/
theorem HR.upd (h : HR C F G w0 σ H w) {b c : Nat} {p : Pl} (hp : σ[b]? = some p) (hown : (hget H b).own = true) (hbut : But c w w') (hc : (∃ o, p.at_ = some (c, o)) ∨ w.heap.size ≤ c) (q : Pl) (hgen : p.gen ≤ q.gen) (heq : p.gen = q.gen → q = p)
    (blk : Blk) (hat : ∀ c' o', q.at_ = some (c', o') → ((∃ o, p.at_ = some (c', o)) ∨ w.heap.size ≤ c') ∧ c' < w'.heap.size) (hbr : BR C (σ.set b q) w' q blk) :
    HR C F G w0 (σ.set b q) (hset H b blk) w' ∧ LeD H σ (σ.set b q) := by
  have hlt : b < σ.length := (List.getElem?_eq_some_iff.1 hp).1
  have hltH : b < H.length := by rw [← h.len]; exact hlt
  have hlive : (hget H b).live = true := by cases hd : hget H b <;> simp [hd, Blk.own, Blk.live] at hown ⊢
  have hle : Le σ (σ.set b q) := by
    intro i r hr
    by_cases e : i = b
    · subst e
      rw [hp] at hr; cases hr
      exact ⟨q, by rw [List.getElem?_set_self hlt], hgen, heq⟩
    · exact ⟨r, by rw [List.getElem?_set_ne (fun h => e h.symm)]; exact hr, Nat.le_refl _, fun _ => rfl⟩
  have hld : LeD H σ (σ.set b q) := ⟨hle, by simp, fun i hi => List.getElem?_set_ne (fun e => by subst e; rw [hi] at hlive; cases hlive)⟩
  have hold : ∀ i r c' o, i ≠ b → σ[i]? = some r → (hget H i).live = true → r.at_ = some (c', o) → c' < w.heap.size ∧ c' ≠ c := by
    intro i r c' o hne hr hl ha
    have h1 := (h.mine i r c' o hr hl ha).1
    refine ⟨h1, ?_⟩
    rcases hc with ⟨o0, hc⟩ | hc
    · exact fun e => h.apart b p i r c o0 c' o (fun e => hne e.symm) hown hl hp hr hc ha e.symm
    · omega
  refine ⟨⟨?_, by simp [h.len, hset_len], fun i r hr => ?_, fun i r c' o hr hl ha => ?_, fun i r i' r' c1 o1 c2 o2 hne ho hl hr hr' ha ha' => ?_, h.gl⟩, hld⟩
  · refine h.bx.but hbut ?_
    rcases hc with ⟨o, hc⟩ | hc
    · exact (h.mine b p c o hp hlive hc).2.1 hown
    · exact .inl (Nat.le_trans h.bx.size hc)
  · rw [hget_set hltH]
    rcases getElem?_set_cases hr with ⟨rfl, rfl⟩ | ⟨hne, hr⟩
    · rw [if_pos rfl]; exact hbr
    · rw [if_neg (fun e => hne e.symm)]
      have := h.blk i r hr
      cases hd : hget H i with
      | dead => trivial
      | var _ _ _ => rw [← hd]; exact this.keep hle (fun c' o ha => let ⟨k1, k2⟩ := hold i r c' o hne hr (by rw [hd]; rfl) ha; hbut.other c' k1 k2)
      | row _ _ _ _ _ => rw [← hd]; exact this.keep hle (fun c' o ha => let ⟨k1, k2⟩ := hold i r c' o hne hr (by rw [hd]; rfl) ha; hbut.other c' k1 k2)
  · rw [hget_set hltH] at hl ⊢
    rcases getElem?_set_cases hr with ⟨rfl, rfl⟩ | ⟨hne, hr⟩
    · obtain ⟨h1, h2⟩ := hat c' o ha
      have hm : w0.heap.size ≤ c' ∨ F c' := by
        rcases h1 with ⟨o0, h1⟩ | h1
        · exact (h.mine i p c' o0 hp hlive h1).2.1 hown
        · exact .inl (Nat.le_trans h.bx.size h1)
      exact ⟨h2, fun _ => hm, hm.imp id .inl⟩
    · rw [if_neg (fun e => hne e.symm)] at hl ⊢
      obtain ⟨h1, h2, h3⟩ := h.mine i r c' o hr hl ha
      exact ⟨Nat.lt_of_lt_of_le h1 hbut.size, h2, h3⟩
  · rw [hget_set hltH] at ho hl
    rcases getElem?_set_cases hr with ⟨e1, hq1⟩ | ⟨hn1, hq1⟩
    · rw [hq1] at ha
      rcases getElem?_set_cases hr' with ⟨e2, hq2⟩ | ⟨hn2, hq2⟩
      · exact absurd (e1.trans e2.symm) hne
      · rw [if_neg (fun e => hn2 e.symm)] at hl
        obtain ⟨h1, _⟩ := hat c1 o1 ha
        rcases h1 with ⟨o0, h1⟩ | h1
        · exact h.apart b p i' r' c1 o0 c2 o2 (fun e => hn2 e.symm) hown hl hp hq2 h1 ha'
        · have := (h.mine i' r' c2 o2 hq2 hl ha').1; omega
    · rw [if_neg (fun e => hn1 e.symm)] at ho
      rcases getElem?_set_cases hr' with ⟨e2, hq2⟩ | ⟨hn2, hq2⟩
      · rw [hq2] at ha'
        obtain ⟨h1, _⟩ := hat c2 o2 ha'
        rcases h1 with ⟨o0, h1⟩ | h1
        · exact h.apart i r b p c1 o1 c2 o0 hn1 ho hlive hq1 hp ha h1
        · have := (h.mine i r c1 o1 hq1 (by cases hd : hget H i <;> simp [hd, Blk.own, Blk.live] at ho ⊢) ha).1; omega
      · rw [if_neg (fun e => hn2 e.symm)] at hl
        exact h.apart i r i' r' c1 o1 c2 o2 hne ho hl hq1 hq2 ha ha'

/-! ### What an operation with an effect gives -/
/-- It gives a value (or nothing: then the abstract value is undef) and a memory. -/
def Ge (P : Program) (C : Cfg) (F G : Nat → Prop) (w0 : World) (σ : List Pl) (H : Heap) (w : World) (s : Sem Value) (v : AVal) (H' : Heap) : Prop :=
  ∃ c w' σ', s.run P w = .ok c w' ∧ LeD H σ σ' ∧ VR C σ' v c ∧ HR C F G w0 σ' H' w'

/-- Something new is made. -/
def Gn (P : Program) (C : Cfg) (F G : Nat → Prop) (w0 : World) (σ : List Pl) (H : Heap) (w : World) (s : Sem Value) (p : Bool) (blk : Blk) : Prop :=
  ∃ c w' q, s.run P w = .ok c w' ∧ q.gen = 1 ∧ VR C (σ ++ [q]) (nv p H.length) c ∧ HR C F G w0 (σ ++ [q]) (H ++ [blk]) w'

/-- What has an effect is as it says. -/
def AOut.ge (P : Program) (C : Cfg) (F G : Nat → Prop) (w0 : World) (σ : List Pl) (H : Heap) (w : World) (s : Sem Value) : AOut → Prop
  | .upd g b blk v => g = true → Ge P C F G w0 σ H w s v (hset H b blk)
  | .new g p blk => g = true → Gn P C F G w0 σ H w s p blk
  | _ => True

theorem heap_alloc (w : World) (o : Obj) : (∀ k, k < w.heap.size → (w.alloc o).heap[k]? = w.heap[k]?) ∧ (w.alloc o).heap[w.heap.size]? = some o ∧ (w.alloc o).heap.size = w.heap.size + 1 := by
  have e : (w.alloc o).heap = w.heap.push o := rfl
  rw [e]
  exact ⟨fun k hk => by rw [Array.getElem?_push, if_neg (Nat.ne_of_lt hk)], by rw [Array.getElem?_push, if_pos rfl], Array.size_push _⟩
theorem But.alloc (w : World) (o : Obj) : But w.heap.size w (w.alloc o) :=
  ⟨rfl, rfl, rfl, by rw [(heap_alloc w o).2.2]; omega, fun k hk _ => (heap_alloc w o).1 k hk⟩
theorem But.drew (w : World) (o : Obj) : But w.heap.size w (w.drew.alloc o) :=
  ⟨rfl, rfl, rfl, by have := (heap_alloc w.drew o).2.2; rw [this]; exact Nat.le_succ _, fun k hk _ => (heap_alloc w.drew o).1 k hk⟩

/-- A new variable. -/
theorem new_var (h : HR C F G w0 σ H w) {t : Nat} {v : AVal} {cs : List Value} (hf : fit1 C.tt v t = true) (hr : RL C σ v false cs) :
    HR C F G w0 (σ ++ [⟨false, 1, 0, some (w.heap.size, 0), t, 0, 0⟩]) (H ++ [.var 0 t v]) (w.alloc (.cells cs.toArray t)) ∧ Le σ (σ ++ [⟨false, 1, 0, some (w.heap.size, 0), t, 0, 0⟩]) ∧
      VR C (σ ++ [⟨false, 1, 0, some (w.heap.size, 0), t, 0, 0⟩]) (.ptr H.length 1 []) (.pointer (some ⟨w.heap.size, 0, none⟩)) := by
  have ha := heap_alloc w (.cells cs.toArray t)
  have hp := h.push (But.alloc w (.cells cs.toArray t)) ⟨false, 1, 0, some (w.heap.size, 0), t, 0, 0⟩ (.var 0 t v)
    ⟨rfl, rfl, rfl, hf, w.heap.size, cs, (0, 0), rfl, RL.mono (Le.push _ _) hr, ha.2.1, .inl rfl⟩ (fun c o hc => by
      simp only [Option.some.injEq, Prod.mk.injEq] at hc
      exact ⟨hc.1.symm, by rw [← hc.1, ha.2.2]; omega⟩)
  refine ⟨hp.1, hp.2, ?_⟩
  simp only [RL]
  refine ⟨⟨false, 1, 0, some (w.heap.size, 0), t, 0, 0⟩, _, by rw [← h.len]; simp, Nat.le_refl _, fun _ => ⟨trivial, w.heap.size, 0, rfl, rfl⟩, rfl⟩

theorem box_ok (ht : TabOk P C.tt) (h : HR C F G w0 σ H w) {t : Nat} {u : AVal} {g p : Bool} {blk : Blk} {x : Value} (ho : boxA C.tt t u = .new g p blk) (hx : VR C σ u x) : g = true ∧ Gn P C F G w0 σ H w (Instr.box t x) p blk := by
  unfold boxA at ho
  split at ho
  · rename_i hf
    cases ho
    have hf' := hf
    simp only [fit1, Bool.and_eq_true, Bool.not_eq_true'] at hf'
    obtain ⟨cs, hr, hc⟩ := VR.cells hf'.2 hf'.1 hx
    obtain ⟨h1, h2, h3⟩ := new_var h hf hr
    exact ⟨rfl, _, _, _, by simp [Instr.box, newVar, newRow, newObj, Sem.run, hc], rfl, h3, h1⟩
  · cases ho

theorem zero_rng (k : IntKind) : Rng k 0 := by cases k <;> simp [Rng, loK, hiK]
theorem Sq.zero_flat {tt : Tab} {e n : Nat} {s : Sq} (h : zeroSq tt e n = some s) : s.len = n ∧ s.rng ∧ sqOk tt e s = true := by
  unfold zeroSq at h
  split at h
  · rename_i z hz
    cases h
    simp only [sqOk, hz]
    cases z with
    | u8 l => exact ⟨by simp [Sq.rep, Sq.len], trivial, rfl⟩
    | int k l => exact ⟨by simp [Sq.rep, Sq.len], fun x hx => by rw [List.eq_of_mem_replicate hx]; exact zero_rng k, by simp [Sq.rep, Sq.like, kindEq_refl]⟩
    | str l => exact ⟨by simp [Sq.rep, Sq.len], fun x hx => by rw [List.eq_of_mem_replicate hx]; simp [SB], rfl⟩
    | bool l => exact ⟨by simp [Sq.rep, Sq.len], trivial, rfl⟩
    | tok l => exact ⟨by simp [Sq.rep, Sq.len], fun x hx => by rw [List.eq_of_mem_replicate hx]; simp [Tk.rng, tk0, Rng, loK, hiK], rfl⟩
  · cases h

theorem zero_flat {tt : Tab} (C : Cfg) (σ : List Pl) : ∀ (d t : Nat) {v : AVal}, zeroA tt d t = some v → RL C σ v false (flat0 v) ∧ (packV v).cells = (flat0 v).toArray ∧ v.isList = false := by
  intro d
  induction d with
  | zero => intro t v h; cases h
  | succ d ih =>
    intro t v h
    unfold zeroA at h
    split at h
    · cases h
    · rename_i te hte
      split at h
      · rename_i k _; cases h; exact ⟨⟨by cases k <;> simp [Rng, loK, hiK], rfl⟩, rfl, rfl⟩
      · cases h; exact ⟨⟨by simp [SB], rfl⟩, rfl, rfl⟩
      · cases h; exact ⟨rfl, rfl, rfl⟩
      · cases h; exact ⟨⟨trivial, rfl⟩, rfl, rfl⟩
      · cases h; exact ⟨rfl, rfl, rfl⟩
      · cases h; exact ⟨rfl, rfl, rfl⟩
      · cases h; exact ⟨rfl, rfl, rfl⟩
      · split at h
        · rename_i s hs
          cases h
          obtain ⟨z1, z2, _⟩ := Sq.zero_flat hs
          exact ⟨⟨z1, z2, rfl⟩, rfl, rfl⟩
        · cases h
      · rename_i fs hfs
        split at h
        · rename_i p hp
          cases h
          refine ⟨?_, rfl, rfl⟩
          simp only [RL, flat0]
          clear hte hfs
          induction fs generalizing p with
          | nil => simp only [zeros, Option.some.injEq] at hp; subst hp; rfl
          | cons f r ihf =>
            obtain ⟨t, o⟩ := f
            simp only [zeros] at hp
            split at hp
            · rename_i v q h1 h2
              cases hp
              exact ⟨_, _, (ih t h1).1, ihf _ h2, rfl⟩
            · cases hp
        · cases h

theorem alloc_ok (ht : TabOk P C.tt) (h : HR C F G w0 σ H w) {t : Nat} {g p : Bool} {blk : Blk} (ho : allocA C.tt t = .new g p blk) : g = true ∧ Gn P C F G w0 σ H w (Instr.alloc t true (.tuple #[])) p blk := by
  unfold allocA at ho
  split at ho
  · rename_i v hv
    split at ho
    · rename_i hf
      cases ho
      have hf' := hf
      simp only [fit1, Bool.and_eq_true, Bool.not_eq_true'] at hf'
      obtain ⟨te, hte, _⟩ := fits_tlk hf'.2 hf'.1
      obtain ⟨z, hz, hrun⟩ := zero_run (P := P) ht hte w
      rw [hv] at hz; cases hz
      obtain ⟨z1, z2, _⟩ := zero_flat C σ depth t hv
      obtain ⟨h1, h2, h3⟩ := new_var h hf z1
      exact ⟨rfl, _, _, _, by simp [Instr.alloc, hrun, newVar, newRow, newObj, Sem.run, z2], rfl, h3, h1⟩
    · cases ho
  · cases ho
end
end Go.Proofs.YtaakccdfgejgpaaGreatDoor.Abs
