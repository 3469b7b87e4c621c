/-
  States in one form: what is kept is moved to blocks numbered from the first on, in the order in which it is met.
-/
import Derived.Test.YtaakccdfgejgpaaGreatDoorAbsS
namespace Go.Proofs.YtaakccdfgejgpaaGreatDoor.Abs
open Go
set_option linter.unusedVariables false

def tysS (tt : Tab) (t : Nat) : List Nat := match tlk tt t with
  | some ⟨.struct fs, _, _, _⟩ => fs.map (·.1)
  | _ => []
def mlk : List (Nat × Nat) → Nat → Option Nat
  | [], _ => none
  | (a, b) :: r, i => match Nat.beq a i with
    | true => some b
    | false => mlk r i
def hd0 : List Nat → Nat
  | [] => 0
  | t :: _ => t
abbrev CanR := Option (AVal × Heap × List (Nat × Nat))
/-- A value's own blocks move behind all others; np: the first blocks stay; ro: rows become such as are only read; kp: pieces of the first blocks stay pieces. -/
def canonV (tt : Tab) (np : Nat) (ro kp : Bool) : Nat → AVal → List Nat → Heap → List (Nat × Nat) → CanR
  | 0, _, _, _, _ => none
  | d + 1, v, ts, H, m => match v with
    | .pair a r => match canonV tt np ro kp d a [hd0 ts] H m with
      | some (a', H1, m1) => match canonV tt np ro kp d r ts.tail H1 m1 with
        | some (r', H2, m2) => some (.pair a' r', H2, m2)
        | none => none
      | none => none
    | .agg p => match canonV tt np ro kp d p (tysS tt (hd0 ts)) H m with
      | some (p', H1, m1) => some (.agg p', H1, m1)
      | none => none
    | .tup p => match canonV tt np ro kp d p ts H m with
      | some (p', H1, m1) => some (.tup p', H1, m1)
      | none => none
    | .fn f a c => match canonV tt np ro kp d a [] H m with
      | some (a', H1, m1) => match canonV tt np ro kp d c [] H1 m1 with
        | some (c', H2, m2) => some (.fn f a' c', H2, m2)
        | none => none
      | none => none
    | .nils => match elemOf tt (hd0 ts) with
      | some e => match zq tt e with
        | some z => some (.slice H.length 1 .all, H ++ [.row 0 1 (!ro) e z], m)
        | none => none
      | none => none
    | .slice b g u => match hget H b with
      | .row _ g' own e s => match Nat.beq g g' with
        | true => match Nat.blt b np && (!own || (kp && Nat.beq g 1)), u, kp with
          | true, .all, _ => some (.slice b g .all, H, m)
          | true, _, true => some (.slice b g u, H, m)
          | _, _, _ => match own with
            | false => some (.slice H.length 1 .all, H ++ [.row 0 1 false e (vw u s)], m)
            | true => match ro with
              | true => some (.slice H.length 1 .all, hset H b .dead ++ [.row 0 1 false e (vw u s)], m)
              | false => match pre u with
                | true => some (.slice H.length 1 .all, hset H b .dead ++ [.row 0 1 true e (vw u s)], m)
                | false => none
        | false => none
      | _ => none
    | .ptr b g p => match Nat.beq g 1, p with
      | true, [] => match Nat.blt b np with
        | true => match mlk m b with
          | some _ => some (.ptr b 1 [], H, m)
          | none => match hget H b with
            | .var _ T u => match canonV tt np ro kp d u [T] (hset H b .dead) m with
              | some (u', H1, m1) => match hget H1 b, fit1 tt u' T with
                | .dead, true => some (.ptr b 1 [], hset H1 b (.var 0 T u'), (b, b) :: m1)
                | _, _ => none
              | none => none
            | _ => none
        | false => match mlk m b with
          | some b' => some (.ptr b' 1 [], H, m)
          | none => match hget H b with
            | .var _ T u => match canonV tt np ro kp d u [T] (hset H b .dead) m with
              | some (u', H1, m1) => match fit1 tt u' T with
                | true => some (.ptr H1.length 1 [], H1 ++ [.var 0 T u'], (b, H1.length) :: m1)
                | false => none
              | none => none
            | _ => none
      | _, _ => none
    | _ => some (v, H, m)

section
variable {P : Program} {C : Cfg} {σ : List Pl} {w w0 : World} {F G : Nat → Prop} {H : Heap}

theorem hget_dead {H : Heap} {b i : Nat} : hget (hset H b .dead) i = if b = i then .dead else hget H i := by
  by_cases hl : b < H.length
  · exact hget_set hl i
  · have : ∀ (H : Heap) (i : Nat), ¬ i < H.length → hset H i .dead = H := by
      intro H
      induction H with
      | nil => intro i _; cases i <;> rfl
      | cons y s ih => intro i hi; cases i with
        | zero => simp at hi
        | succ i => simp only [hset]; rw [ih i (by simpa using hi)]
    rw [this H b hl]
    split
    · rename_i e; subst e; exact hget_ge (by omega)
    · rfl

/-- A block is given up. -/
theorem HR.kill (h : HR C F G w0 σ H w) (b : Nat) : HR C F G w0 σ (hset H b .dead) w := by
  refine ⟨h.bx, by rw [hset_len]; exact h.len, fun i p hp => ?_, fun i p c o hp hl ha => ?_, fun i p i' p' c o c' o' hne ho hl hp hp' ha ha' => ?_, h.gl⟩
  · rw [hget_dead]; split
    · trivial
    · exact h.blk i p hp
  · rw [hget_dead] at hl ⊢
    split at hl
    · cases hl
    · rename_i e; rw [if_neg e]; exact h.mine i p c o hp hl ha
  · rw [hget_dead] at hl ho
    split at hl
    · cases hl
    · split at ho
      · cases ho
      · exact h.apart i p i' p' c o c' o' hne ho hl hp hp' ha ha'

/-- A block that lies where something lies already, or nowhere. -/
theorem HR.alias (h : HR C F G w0 σ H w) (q : Pl) (blk : Blk) (hbr : BR C (σ ++ [q]) w q blk) (hat : ∀ c o, q.at_ = some (c, o) → c < w.heap.size ∧ (blk.own = true → w0.heap.size ≤ c ∨ F c) ∧ (w0.heap.size ≤ c ∨ F c ∨ G c))
    (hap : ∀ b p c o c' o', (hget H b).live = true → ((hget H b).own = true ∨ blk.own = true) → σ[b]? = some p → p.at_ = some (c, o) → q.at_ = some (c', o') → c ≠ c') : HR C F G w0 (σ ++ [q]) (H ++ [blk]) w := by
  have hle := Le.push σ [q]
  have hbl : ∀ b, b < σ.length → hget (H ++ [blk]) b = hget H b := fun b hb' => by rw [hget_app, if_pos (by rw [← h.len]; exact hb')]
  have hbn : hget (H ++ [blk]) σ.length = blk := by rw [hget_app, if_neg (by rw [h.len]; omega), h.len]; simp [hget]
  have hol : ∀ x : Blk, x.own = true → x.live = true := fun x hx => by cases x <;> simp [Blk.own, Blk.live] at hx ⊢
  refine ⟨h.bx, by simp [h.len], fun b p hp => ?_, fun b p c o hp hl ha => ?_, fun b p b' p' c o c' o' hne ho hl hp hp' ha ha' => ?_, h.gl⟩
  · rcases getElem?_push hp with ⟨hlt, hp⟩ | ⟨rfl, rfl⟩
    · rw [hbl b hlt]
      exact (h.blk b p hp).keep hle (fun _ _ _ => rfl)
    · rw [hbn]; exact hbr
  · rcases getElem?_push hp with ⟨hlt, hp⟩ | ⟨rfl, rfl⟩
    · rw [hbl b hlt] at hl ⊢
      exact h.mine b p c o hp hl ha
    · rw [hbn]; exact hat c o ha
  · rcases getElem?_push hp with ⟨hlt, hq1⟩ | ⟨hb1, hq1⟩
    · rw [hbl b hlt] at ho
      rcases getElem?_push hp' with ⟨hlt', hq2⟩ | ⟨hb2, hq2⟩
      · rw [hbl b' hlt'] at hl
        exact h.apart b p b' p' c o c' o' hne ho hl hq1 hq2 ha ha'
      · rw [hq2] at ha'
        exact hap b p c o c' o' (hol _ ho) (.inl ho) hq1 ha ha'
    · rw [hq1] at ha
      rw [hb1, hbn] at ho
      rcases getElem?_push hp' with ⟨hlt', hq2⟩ | ⟨hb2, hq2⟩
      · rw [hbl b' hlt'] at hl
        exact fun e => hap b' p' c' o' c o hl (.inr ho) hq2 ha' ha e.symm
      · exact absurd (hb1.trans hb2.symm) hne

/-- A dead block gets a content again. -/
theorem HR.revive (h : HR C F G w0 σ H w) {b : Nat} {p : Pl} {blk : Blk} (hp : σ[b]? = some p) (hd : hget H b = .dead) (hbr : BR C σ w p blk) (hat : ∀ c o, p.at_ = some (c, o) → c < w.heap.size ∧ (blk.own = true → w0.heap.size ≤ c ∨ F c) ∧ (w0.heap.size ≤ c ∨ F c ∨ G c))
    (hap : ∀ i q c o c' o', (hget H i).live = true → ((hget H i).own = true ∨ blk.own = true) → σ[i]? = some q → q.at_ = some (c, o) → p.at_ = some (c', o') → c ≠ c') : HR C F G w0 σ (hset H b blk) w := by
  have hlt : b < H.length := by rw [← h.len]; exact (List.getElem?_eq_some_iff.1 hp).1
  have hol : ∀ x : Blk, x.own = true → x.live = true := fun x hx => by cases x <;> simp [Blk.own, Blk.live] at hx ⊢
  refine ⟨h.bx, by rw [hset_len]; exact h.len, fun i q hq => ?_, fun i q c o hq hl ha => ?_, fun i q i' q' c o c' o' hne ho hl hq hq' ha ha' => ?_, h.gl⟩
  · rw [hget_set hlt]; split
    · rename_i e; subst e; rw [hp] at hq; cases hq; exact hbr
    · exact h.blk i q hq
  · rw [hget_set hlt] at hl ⊢
    split at hl
    · rename_i e; subst e; rw [hp] at hq; cases hq; rw [if_pos rfl]; exact hat c o ha
    · rename_i e; rw [if_neg e]; exact h.mine i q c o hq hl ha
  · rw [hget_set hlt] at hl ho
    split at ho
    · rename_i e1
      subst e1
      rw [hp] at hq; cases hq
      split at hl
      · rename_i e2; exact absurd e2 hne
      · exact fun e => hap i' q' c' o' c o hl (.inr ho) hq' ha' ha e.symm
    · split at hl
      · rename_i e2
        subst e2
        rw [hp] at hq'; cases hq'
        exact hap i q c o c' o' (hol _ ho) (.inl ho) hq ha ha'
      · exact h.apart i q i' q' c o c' o' hne ho hl hq hq' ha ha'

/-! ### A row moves -/
/-- What the new place of a row's piece is. -/
def vpl (A : Option Addr) (len cap e esz : Nat) : Pl := ⟨true, 1, len, A.map (fun a => (a.block, a.off)), e, esz, cap⟩

theorem RowAt.piece {pl : Pl} {own : Bool} {e : Nat} {s : Sq} {u : Vw} {A : Option Addr} {len cap : Nat} (hr : RowAt C w pl own e s) (hs : SlOk pl u A len cap) (hl : len = (vw u s).len) : RowAt C w (vpl A len cap e s.esz) false e (vw u s) := by
  have hok : vok s.len u := by rw [← hr.2.1]; exact hs.1
  have hle := vok_le hok
  have hlen : len = vlen s.len u := by rw [hs.2.1, hr.2.1]
  refine ⟨rfl, hl, rfl, by simp only [vpl]; rw [vw_esz], sqOk_like hr.2.2.2.2.1 (vw_like u s), vw_rng u hr.2.2.2.2.2.1, by rw [← hl]; exact hs.2.2.1, by have := hr.2.2.2.2.2.2.2.1; omega, ?_⟩
  have h8 := hr.2.2.2.2.2.2.2.2
  have h9 := hs.2.2.2.2
  have h7 := hs.2.2.2.1
  cases hat : pl.at_ with
  | none =>
    rw [hat] at h8 h9
    simp only at h8 h9
    subst h9
    simp only [vpl, Option.map_none]
    omega
  | some co =>
    obtain ⟨c, o⟩ := co
    rw [hat] at h8 h9
    simp only at h8 h9
    obtain ⟨a, rfl, hae, q, rfl⟩ := h9
    obtain ⟨cl, T, fz, k1, k2, _⟩ := h8
    simp only [vpl, Option.map_some]
    refine ⟨cl, T, fz, k1, fun j v hj => ?_, fun h => by cases h⟩
    have hpos : 0 < len := by
      have h1 := (List.getElem?_eq_some_iff.1 hj).1
      rw [Sq.cells_len, ← hl] at h1
      rcases Nat.eq_zero_or_pos len with h0 | h0
      · rw [h0] at h1; simp at h1
      · exact h0
    have := hae (.inr hpos)
    simp only [Addr.mk.injEq, true_and, and_true] at this
    subst this
    rw [vw_cells u s hok, List.getElem?_take] at hj
    split at hj
    · rw [List.getElem?_drop] at hj
      have := k2 _ v hj
      rw [hr.esz, ← this]
      congr 1; omega
    · cases hj
theorem RowAt.first {pl : Pl} {e : Nat} {s : Sq} {u : Vw} {A : Option Addr} {len cap : Nat} (hr : RowAt C w pl true e s) (hs : SlOk pl u A len cap) (hl : len = (vw u s).len) (hp : pre u = true) : RowAt C w ⟨true, 1, len, pl.at_, e, s.esz, pl.room⟩ true e (vw u s) := by
  have hok : vok s.len u := by rw [← hr.2.1]; exact hs.1
  have hle := vok_le hok
  have hoff := pre_off hp
  have hlen : len = vlen s.len u := by rw [hs.2.1, hr.2.1]
  have hroom := hr.2.2.2.2.2.2.1
  refine ⟨rfl, hl, rfl, by simp only; rw [vw_esz], sqOk_like hr.2.2.2.2.1 (vw_like u s), vw_rng u hr.2.2.2.2.2.1, by simp only; omega, by have := hr.2.2.2.2.2.2.2.1; omega, ?_⟩
  have h8 := hr.2.2.2.2.2.2.2.2
  cases hat : pl.at_ with
  | none => rw [hat] at h8; exact h8
  | some co =>
    obtain ⟨c, o⟩ := co
    rw [hat] at h8
    simp only at h8 ⊢
    obtain ⟨cl, T, fz, k1, k2, k3⟩ := h8
    obtain ⟨rfl, k4, k5⟩ := k3 trivial
    refine ⟨cl, T, fz, k1, fun j v hj => ?_, fun _ => ⟨rfl, by rw [k4, hr.esz], k5⟩⟩
    rw [vw_cells u s hok, List.getElem?_take] at hj
    split at hj
    · rw [List.getElem?_drop, hoff, Nat.zero_mul, Nat.zero_add] at hj
      exact k2 _ v hj
    · cases hj
theorem SlOk.loc {pl : Pl} {u : Vw} {A : Option Addr} {len cap c o : Nat} {e esz : Nat} (hs : SlOk pl u A len cap) (h : (vpl A len cap e esz).at_ = some (c, o)) : ∃ o', pl.at_ = some (c, o') := by
  have h9 := hs.2.2.2.2
  cases hat : pl.at_ with
  | none => rw [hat] at h9; simp only at h9; subst h9; cases h
  | some co =>
    obtain ⟨c', o'⟩ := co
    rw [hat] at h9
    obtain ⟨a, rfl, _, q, rfl⟩ := h9
    simp only [vpl, Option.map_some, Option.some.injEq, Prod.mk.injEq] at h
    exact ⟨o', by rw [h.1]⟩
theorem SlOk.all {pl : Pl} {u : Vw} {A : Option Addr} {len cap e esz : Nat} (hs : SlOk pl u A len cap) : SlOk (vpl A len cap e esz) .all A len cap := by
  refine ⟨trivial, rfl, hs.2.2.1, by simp [voff, vpl], ?_⟩
  have h9 := hs.2.2.2.2
  cases hat : pl.at_ with
  | none => rw [hat] at h9; simp only at h9; subst h9; rfl
  | some co =>
    obtain ⟨c', o'⟩ := co
    rw [hat] at h9
    obtain ⟨a, rfl, _, q, rfl⟩ := h9
    simp only [vpl, Option.map_some]
    exact ⟨_, rfl, fun _ => by simp [voff], _, rfl⟩
theorem SlOk.allF {pl : Pl} {u : Vw} {A : Option Addr} {len cap e esz : Nat} (hs : SlOk pl u A len cap) (hp : pre u = true) : SlOk ⟨true, 1, len, pl.at_, e, esz, pl.room⟩ .all A len cap := by
  have hoff := pre_off hp
  have h7 := hs.2.2.2.1
  refine ⟨trivial, rfl, hs.2.2.1, by simp only [voff]; omega, ?_⟩
  have h9 := hs.2.2.2.2
  cases hat : pl.at_ with
  | none => rw [hat] at h9; exact h9
  | some co =>
    obtain ⟨c', o'⟩ := co
    rw [hat] at h9
    obtain ⟨a, rfl, hae, q, rfl⟩ := h9
    simp only
    exact ⟨_, rfl, fun _ => by have := hae (.inl hoff); rw [hoff] at this; simpa [voff] using this, _, rfl⟩

theorem VR.new_slice {q : Pl} {A : Option Addr} {len cap m : Nat} (hg : q.gen = 1) (hs : SlOk q .all A len cap) (hq : σ[m]? = some q) : VR C σ (.slice m 1 .all) (.slice A len cap) := by
  simp only [RL]
  exact ⟨q, A, len, cap, hq, by omega, fun _ => hs, rfl⟩

def Mok (σ : List Pl) (m : List (Nat × Nat)) : Prop := ∀ b b', mlk m b = some b' → ∃ p, σ[b]? = some p ∧ σ[b']? = some p
theorem Mok.push {m : List (Nat × Nat)} (h : Mok σ m) (τ : List Pl) : Mok (σ ++ τ) m := fun b b' hb => by
  obtain ⟨p, h1, h2⟩ := h b b' hb
  exact ⟨p, by rw [List.getElem?_append_left (List.getElem?_eq_some_iff.1 h1).1]; exact h1, by rw [List.getElem?_append_left (List.getElem?_eq_some_iff.1 h2).1]; exact h2⟩
theorem Mok.ptr {m : List (Nat × Nat)} {b b' : Nat} {c : Value} (h : Mok σ m) (hb : mlk m b = some b') (hv : VR C σ (.ptr b 1 []) c) : VR C σ (.ptr b' 1 []) c := by
  obtain ⟨p, h1, h2⟩ := h b b' hb
  simp only [RL] at hv ⊢
  obtain ⟨pl, a, k1, k2⟩ := hv
  rw [h1] at k1; cases k1
  exact ⟨p, a, h2, k2⟩

/-- Something live lies in a block of the world's. -/
def Loc (σ : List Pl) (H : Heap) (c : Nat) : Prop := ∃ b p o, (hget H b).live = true ∧ σ[b]? = some p ∧ p.at_ = some (c, o)
theorem Loc.alias {q : Pl} {blk : Blk} {c : Nat} (hl : σ.length = H.length) (h : Loc (σ ++ [q]) (H ++ [blk]) c) : Loc σ H c ∨ ∃ o, q.at_ = some (c, o) := by
  obtain ⟨b, p, o, h1, h2, h3⟩ := h
  rcases getElem?_push h2 with ⟨hlt, hp⟩ | ⟨rfl, rfl⟩
  · rw [hget_app, if_pos (by omega)] at h1
    exact .inl ⟨b, p, o, h1, hp, h3⟩
  · exact .inr ⟨o, h3⟩
theorem Loc.kill {b c : Nat} (h : Loc σ (hset H b .dead) c) : Loc σ H c := by
  obtain ⟨i, p, o, h1, h2, h3⟩ := h
  rw [hget_dead] at h1
  split at h1
  · cases h1
  · exact ⟨i, p, o, h1, h2, h3⟩

/-- What a value in one form is. -/
def CanOk (C : Cfg) (F G : Nat → Prop) (w0 : World) (σ : List Pl) (H : Heap) (w : World) (v' : AVal) (H' : Heap) (m' : List (Nat × Nat)) (md : Bool) (cs : List Value) : Prop :=
  ∃ τ, HR C F G w0 (σ ++ τ) H' w ∧ Mok (σ ++ τ) m' ∧ RL C (σ ++ τ) v' md cs ∧ ∀ c, Loc (σ ++ τ) H' c → Loc σ H c

theorem slice_mode {b g : Nat} {u : Vw} {md : Bool} {cs : List Value} (h : RL C σ (.slice b g u) md cs) : ∃ c, cs = [c] ∧ VR C σ (.slice b g u) c := by
  simp only [RL] at h
  obtain ⟨pl, A, len, cap, h1, h2, h3, rfl⟩ := h
  exact ⟨_, rfl, by simp only [RL]; exact ⟨pl, A, len, cap, h1, h2, h3, rfl⟩⟩
theorem ptr_mode {b g : Nat} {p : List Stp} {md : Bool} {cs : List Value} (h : RL C σ (.ptr b g p) md cs) : ∃ c, cs = [c] ∧ VR C σ (.ptr b g p) c := by
  simp only [RL] at h
  obtain ⟨pl, a, h1, h2, h3, rfl⟩ := h
  exact ⟨_, rfl, by simp only [RL]; exact ⟨pl, a, h1, h2, h3, rfl⟩⟩
theorem VR.mode {v : AVal} {c : Value} (hv : (∃ b g u, v = .slice b g u) ∨ ∃ b g p, v = .ptr b g p) (h : VR C σ v c) (md : Bool) : RL C σ v md [c] := by
  rcases hv with ⟨b, g, u, rfl⟩ | ⟨b, g, p, rfl⟩
  · simpa only [RL] using h
  · simpa only [RL] using h

theorem canonV_ok (ht : TabOk P C.tt) {np : Nat} {ro kp : Bool} : ∀ (d : Nat) {v : AVal} {ts : List Nat} {H : Heap} {m : List (Nat × Nat)} {v' : AVal} {H' : Heap} {m' : List (Nat × Nat)}, canonV C.tt np ro kp d v ts H m = some (v', H', m') →
    ∀ {σ : List Pl} {md : Bool} {cs : List Value}, HR C F G w0 σ H w → Mok σ m → RL C σ v md cs → CanOk C F G w0 σ H w v' H' m' md cs := by
  intro d
  induction d with
  | zero => intro v ts H m v' H' m' h; cases h
  | succ d ih =>
    intro v ts H m v' H' m' h σ md cs hh hm hr
    have same : some (v, H, m) = some (v', H', m') → CanOk C F G w0 σ H w v' H' m' md cs := by
      intro h
      cases h
      exact ⟨[], by simpa using hh, by simpa using hm, by simpa using hr, by simp⟩
    cases v with
    | pair a r =>
      simp only [canonV] at h
      split at h
      · rename_i a' H1 m1 h1
        split at h
        · rename_i r' H2 m2 h2
          cases h
          cases md with
          | false =>
            simp only [RL] at hr
            obtain ⟨x, y, k1, k2, rfl⟩ := hr
            obtain ⟨τ1, q1, q2, q3, q4⟩ := ih h1 hh hm k1
            obtain ⟨τ2, p1, p2, p3, p4⟩ := ih h2 q1 q2 (RL.mono (Le.push _ τ1) k2)
            refine ⟨τ1 ++ τ2, by rw [← List.append_assoc]; exact p1, by rw [← List.append_assoc]; exact p2, ?_, fun c hc => q4 c (p4 c (by rw [List.append_assoc]; exact hc))⟩
            rw [← List.append_assoc]
            simp only [RL]
            exact ⟨x, y, RL.mono (Le.push _ τ2) q3, p3, rfl⟩
          | true =>
            simp only [RL] at hr
            obtain ⟨x, y, k1, k2, rfl⟩ := hr
            obtain ⟨τ1, q1, q2, q3, q4⟩ := ih h1 hh hm k1
            obtain ⟨τ2, p1, p2, p3, p4⟩ := ih h2 q1 q2 (RL.mono (Le.push _ τ1) k2)
            refine ⟨τ1 ++ τ2, by rw [← List.append_assoc]; exact p1, by rw [← List.append_assoc]; exact p2, ?_, fun c hc => q4 c (p4 c (by rw [List.append_assoc]; exact hc))⟩
            rw [← List.append_assoc]
            simp only [RL]
            exact ⟨x, y, RL.mono (Le.push _ τ2) q3, p3, rfl⟩
        · cases h
      · cases h
    | agg p =>
      simp only [canonV] at h
      split at h
      · rename_i p' H1 m1 h1
        cases h
        cases md with
        | false =>
          simp only [RL] at hr
          obtain ⟨τ1, q1, q2, q3, q4⟩ := ih h1 hh hm hr
          exact ⟨τ1, q1, q2, by simp only [RL]; exact q3, q4⟩
        | true =>
          simp only [RL] at hr
          obtain ⟨x, k1, rfl⟩ := hr
          obtain ⟨τ1, q1, q2, q3, q4⟩ := ih h1 hh hm k1
          exact ⟨τ1, q1, q2, by simp only [RL]; exact ⟨x, q3, rfl⟩, q4⟩
      · cases h
    | tup p =>
      simp only [canonV] at h
      split at h
      · rename_i p' H1 m1 h1
        cases h
        cases md with
        | false => simp only [RL] at hr
        | true =>
          simp only [RL] at hr
          obtain ⟨x, k1, rfl⟩ := hr
          obtain ⟨τ1, q1, q2, q3, q4⟩ := ih h1 hh hm k1
          exact ⟨τ1, q1, q2, by simp only [RL]; exact ⟨x, q3, rfl⟩, q4⟩
      · cases h
    | fn f a c =>
      simp only [canonV] at h
      split at h
      · rename_i a' H1 m1 h1
        split at h
        · rename_i c' H2 m2 h2
          cases h
          simp only [RL] at hr
          obtain ⟨x, y, k1, k2, rfl⟩ := hr
          obtain ⟨τ1, q1, q2, q3, q4⟩ := ih h1 hh hm k1
          obtain ⟨τ2, p1, p2, p3, p4⟩ := ih h2 q1 q2 (RL.mono (Le.push _ τ1) k2)
          refine ⟨τ1 ++ τ2, by rw [← List.append_assoc]; exact p1, by rw [← List.append_assoc]; exact p2, ?_, fun c hc => q4 c (p4 c (by rw [List.append_assoc]; exact hc))⟩
          rw [← List.append_assoc]
          simp only [RL]
          exact ⟨x, y, RL.mono (Le.push _ τ2) q3, p3, rfl⟩
        · cases h
      · cases h
    | nils =>
      simp only [canonV] at h
      split at h
      · rename_i e he
        split at h
        · rename_i z hz
          cases h
          obtain ⟨z1, z2, z3, z4⟩ := zq_nil hz
          have hcs : cs = [.slice none 0 0] := by simpa only [RL] using hr
          subst hcs
          refine ⟨[vpl none 0 0 e z.esz], ?_, hm.push _, ?_, fun c hc => (Loc.alias hh.len hc).resolve_right (fun ⟨_, h⟩ => by cases h)⟩
          · refine hh.alias _ _ ⟨rfl, rfl, by simp [vpl, z2], rfl, rfl, zq_ok hz z4, z3, by simp [vpl, z2], by rw [z2]; decide, rfl⟩ (fun c o hc => by cases hc) (fun _ _ _ _ _ _ _ _ _ _ hc => by cases hc)
          · refine VR.mode (.inl ⟨_, _, _, rfl⟩) (VR.new_slice (q := vpl none 0 0 e z.esz) rfl ⟨trivial, rfl, Nat.le_refl _, by simp [voff, vlen, vpl], rfl⟩ ?_) md
            rw [← hh.len, List.getElem?_append_right (Nat.le_refl _)]
            simp
        · cases h
      · cases h
    | slice b g u =>
      simp only [canonV] at h
      obtain ⟨c, rfl, hv⟩ := slice_mode hr
      split at h
      · rename_i ver g' own e s hb
        split at h
        · rename_i hg
          have hg := Nat.eq_of_beq_eq_true hg
          subst hg
          have hra : rowAt H b g = some (e, own, s) := by simp [rowAt, hb, Nat.beq_refl]
          obtain ⟨pl, A, len, cap, ver', rfl, q1, q2, q3, q4, q5, q6⟩ := hh.slice hv hra
          have hlive : (hget H b).live = true := by rw [hb]; rfl
          have hlast : ∀ q : Pl, (σ ++ [q])[H.length]? = some q := fun q => by rw [← hh.len, List.getElem?_append_right (Nat.le_refl _)]; simp
          split at h
          · exact same h
          · exact same h
          · split at h
            · -- only read
              cases h
              refine ⟨[vpl A len cap e s.esz], ?_, hm.push _, VR.mode (.inl ⟨_, _, _, rfl⟩) (VR.new_slice rfl q5.all (hlast _)) md, fun c hc => (Loc.alias hh.len hc).elim id (fun ⟨_, h⟩ => let ⟨o', h'⟩ := q5.loc h; ⟨b, pl, o', hlive, q1, h'⟩)⟩
              refine hh.alias _ _ ⟨rfl, q4.piece q5 q6⟩ (fun c o hc => ?_) (fun i p c o c' o' hl ho hp ha hc => ?_)
              · obtain ⟨o', ho'⟩ := q5.loc hc
                obtain ⟨m1, _, m3⟩ := hh.mine b pl c o' q1 hlive ho'
                exact ⟨m1, fun h => (by cases h), m3⟩
              · obtain ⟨o2, ho2⟩ := q5.loc hc
                have ho := ho.resolve_right (by simp [Blk.own])
                refine hh.apart i p b pl c o c' o2 ?_ ho hlive hp q1 ha ho2
                rintro rfl
                rw [hb] at ho; cases ho
            · have hown : (hget H b).own = true := by rw [hb]; rfl
              split at h
              · cases h
                refine ⟨[vpl A len cap e s.esz], ?_, hm.push _, VR.mode (.inl ⟨_, _, _, rfl⟩) (VR.new_slice rfl q5.all (hlast _)) md, fun c hc => (Loc.alias (hh.kill b).len hc).elim Loc.kill (fun ⟨_, h⟩ => let ⟨o', h'⟩ := q5.loc h; ⟨b, pl, o', hlive, q1, h'⟩)⟩
                refine (hh.kill b).alias _ _ ⟨rfl, q4.piece q5 q6⟩ (fun c o hc => ?_) (fun i p c o c' o' hl ho hp ha hc => ?_)
                · obtain ⟨o', ho'⟩ := q5.loc hc
                  obtain ⟨m1, _, m3⟩ := hh.mine b pl c o' q1 hlive ho'
                  exact ⟨m1, fun h => (by cases h), m3⟩
                · obtain ⟨o2, ho2⟩ := q5.loc hc
                  rw [hget_dead] at hl
                  split at hl
                  · cases hl
                  · rename_i hne
                    exact fun e => hh.apart b pl i p c' o2 c o hne hown hl q1 hp ho2 ha e.symm
              · split at h
                · rename_i hpre
                  cases h
                  refine ⟨[⟨true, 1, len, pl.at_, e, s.esz, pl.room⟩], ?_, hm.push _, VR.mode (.inl ⟨_, _, _, rfl⟩) (VR.new_slice rfl (q5.allF hpre) (hlast _)) md, fun c hc => (Loc.alias (hh.kill b).len hc).elim Loc.kill (fun ⟨o, h⟩ => ⟨b, pl, o, hlive, q1, h⟩)⟩
                  refine (hh.kill b).alias _ _ ⟨rfl, q4.first q5 q6 hpre⟩ (fun c o hc => ?_) (fun i p c o c' o' hl ho hp ha hc => ?_)
                  · obtain ⟨m1, m2, m3⟩ := hh.mine b pl c o q1 hlive hc
                    exact ⟨m1, fun _ => m2 hown, m3⟩
                  · rw [hget_dead] at hl
                    split at hl
                    · cases hl
                    · rename_i hne
                      exact fun e => hh.apart b pl i p c' o' c o hne hown hl q1 hp hc ha e.symm
                · cases h
        · cases h
      · cases h
    | ptr b g p =>
      simp only [canonV] at h
      obtain ⟨c, rfl, hv⟩ := ptr_mode hr
      split at h
      · rename_i hg
        have hg := Nat.eq_of_beq_eq_true hg
        subst hg
        split at h
        · split at h
          · exact same h
          · split at h
            · rename_i ver T u hb
              split at h
              · rename_i u' H1 m1 h1
                split at h
                · rename_i hd hf
                  cases h
                  obtain ⟨pl, ad, k1, k2, k3, rfl⟩ := VR.ptr hv
                  obtain ⟨a1, a2, a3, a4, c, cs, fz, a5, a6, a7, a8⟩ := hh.var hb k1
                  obtain ⟨τ, q1, q2, q3, q4⟩ := ih h1 (hh.kill b) hm a6
                  have hp' : (σ ++ τ)[b]? = some pl := by rw [List.getElem?_append_left (List.getElem?_eq_some_iff.1 k1).1]; exact k1
                  have hlive : (hget H b).live = true := by rw [hb]; rfl
                  have hown : (hget H b).own = true := by rw [hb]; rfl
                  have hno : ∀ c o, pl.at_ = some (c, o) → ¬ Loc (σ ++ τ) H1 c := by
                    intro c o hat hloc
                    obtain ⟨i, p, o', l1, l2, l3⟩ := q4 c hloc
                    rw [hget_dead] at l1
                    split at l1
                    · cases l1
                    · rename_i hne
                      exact hh.apart b pl i p c o c o' hne hown l1 k1 l2 hat l3 rfl
                  refine ⟨τ, q1.revive hp' hd ⟨a1, a2, a3, hf, c, cs, fz, a5, q3, a7, a8⟩ (fun c o hat => ?_) (fun i q c o c' o' hl _ hq ha hat e => ?_), ?_, VR.mode (.inr ⟨_, _, _, rfl⟩) (RL.mono (Le.push _ _) hv) md, fun c' hc' => ?_⟩
                  · obtain ⟨m1, m2, m3⟩ := hh.mine b pl c o k1 hlive hat
                    exact ⟨m1, fun _ => m2 hown, m3⟩
                  · subst e
                    exact hno _ _ hat ⟨i, q, o, hl, hq, ha⟩
                  · intro x x' hx
                    unfold mlk at hx
                    split at hx
                    · rename_i hbx
                      cases hx
                      rw [← Nat.eq_of_beq_eq_true hbx]
                      exact ⟨pl, hp', hp'⟩
                    · exact q2 x x' hx
                  · obtain ⟨i, p, o', l1, l2, l3⟩ := hc'
                    by_cases e : b = i
                    · subst e
                      rw [hp'] at l2; cases l2
                      exact ⟨b, pl, o', hlive, k1, l3⟩
                    · rw [hget_set (by rw [← q1.len]; exact (List.getElem?_eq_some_iff.1 hp').1), if_neg e] at l1
                      exact (q4 c' ⟨i, p, o', l1, l2, l3⟩).kill
                · cases h
              · cases h
            · cases h
        · split at h
          · rename_i b' hb'
            cases h
            exact ⟨[], by simpa using hh, by simpa using hm, by simpa using VR.mode (.inr ⟨_, _, _, rfl⟩) (hm.ptr hb' hv) md, by simp⟩
          · split at h
            · rename_i ver T u hb
              split at h
              · rename_i u' H1 m1 h1
                split at h
                · rename_i hf
                  cases h
                  obtain ⟨pl, ad, k1, k2, k3, rfl⟩ := VR.ptr hv
                  obtain ⟨a1, a2, a3, a4, c, cs, fz, a5, a6, a7, a8⟩ := hh.var hb k1
                  obtain ⟨τ, q1, q2, q3, q4⟩ := ih h1 (hh.kill b) hm a6
                  have hp' : (σ ++ τ)[b]? = some pl := by rw [List.getElem?_append_left (List.getElem?_eq_some_iff.1 k1).1]; exact k1
                  have hlive : (hget H b).live = true := by rw [hb]; rfl
                  have hown : (hget H b).own = true := by rw [hb]; rfl
                  have hno : ∀ c o, pl.at_ = some (c, o) → ¬ Loc (σ ++ τ) H1 c := by
                    intro c o hat hloc
                    obtain ⟨i, p, o', l1, l2, l3⟩ := q4 c hloc
                    rw [hget_dead] at l1
                    split at l1
                    · cases l1
                    · rename_i hne
                      exact hh.apart b pl i p c o c o' hne hown l1 k1 l2 hat l3 rfl
                  have hlast : (σ ++ τ ++ [pl])[H1.length]? = some pl := by rw [← q1.len, List.getElem?_append_right (Nat.le_refl _)]; simp
                  refine ⟨τ ++ [pl], ?_, ?_, VR.mode (.inr ⟨_, _, _, rfl⟩) ?_ md, fun c' hc' => ?_⟩
                  · rw [← List.append_assoc]
                    refine q1.alias _ _ ⟨a1, a2, a3, hf, c, cs, fz, a5, RL.mono (Le.push _ _) q3, a7, a8⟩ (fun c o hat => ?_) (fun i q c o c' o' hl _ hq ha hat e => ?_)
                    · obtain ⟨m1, m2, m3⟩ := hh.mine b pl c o k1 hlive hat
                      exact ⟨m1, fun _ => m2 hown, m3⟩
                    · subst e
                      exact hno _ _ hat ⟨i, q, o, hl, hq, ha⟩
                  · rw [← List.append_assoc]
                    intro x x' hx
                    unfold mlk at hx
                    split at hx
                    · rename_i hbx
                      cases hx
                      rw [← Nat.eq_of_beq_eq_true hbx]
                      exact ⟨pl, by rw [List.getElem?_append_left (List.getElem?_eq_some_iff.1 hp').1]; exact hp', hlast⟩
                    · exact q2.push [pl] x x' hx
                  · rw [← List.append_assoc]
                    simp only [RL]
                    exact ⟨pl, ad, hlast, k2, k3, rfl⟩
                  · rw [← List.append_assoc] at hc'
                    rcases Loc.alias q1.len hc' with h | ⟨o, h⟩
                    · exact (q4 c' h).kill
                    · exact ⟨b, pl, o, hlive, k1, h⟩
                · cases h
              · cases h
            · cases h
      · cases h
    | undef => exact same h
    | bool _ => exact same h
    | int _ _ => exact same h
    | str _ => exact same h
    | err _ => exact same h
    | nilp => exact same h
    | nilfn => exact same h
    | nil => exact same h
    | arr _ _ => exact same h
end
end Go.Proofs.YtaakccdfgejgpaaGreatDoor.Abs
