/-
  From functions to contracts: what a function is handed.
-/
import Derived.Test.YtaakccdfgejgpaaGreatDoorAbsW
namespace Go.Proofs.YtaakccdfgejgpaaGreatDoor.Abs
open Go
set_option linter.unusedVariables false

theorem srcAt_eq : ∀ (l : List Src) (i : Nat), srcAt l i = l[i]?
  | [], _ => rfl
  | _ :: _, 0 => rfl
  | _ :: r, i + 1 => by simpa [srcAt] using srcAt_eq r i
theorem srcIds_app : ∀ (l m : List Src), srcIds (l ++ m) = srcIds l ++ srcIds m
  | [], m => rfl
  | s :: r, m => by simp only [List.cons_append, srcIds, srcIds_app r m, List.append_assoc]
theorem mem_srcIds {b : Nat} : ∀ {l : List Src}, b ∈ srcIds l ↔ ∃ s ∈ l, b ∈ s.id
  | [] => by simp [srcIds]
  | s :: r => by simp only [srcIds, List.mem_append, mem_srcIds (l := r), List.mem_cons, exists_eq_or_imp]
theorem mine_id {s : Src} {b : Nat} (h : b ∈ s.mine) : b ∈ s.id := by cases s <;> simp [Src.mine, Src.id] at h ⊢ <;> exact h
theorem ssOk_spec : ∀ {l : List Src}, ssOk l = true → ∀ (i j : Nat) (s q : Src), l[i]? = some s → l[j]? = some q → i ≠ j → ∀ b, b ∈ s.mine → ¬ b ∈ q.id
  | x :: r, h, i, j, s, q, hi, hj, hne, b, hb, hq => by
    simp only [ssOk, Bool.and_eq_true, List.all_eq_true] at h
    obtain ⟨h1, h2, h3⟩ := h
    cases i with
    | zero =>
      simp only [List.getElem?_cons_zero, Option.some.injEq] at hi
      subst hi
      cases j with
      | zero => exact hne rfl
      | succ j =>
        simp only [List.getElem?_cons_succ] at hj
        exact apartL_spec h1 hb (mem_srcIds.2 ⟨q, List.mem_of_getElem? hj, hq⟩)
    | succ i =>
      simp only [List.getElem?_cons_succ] at hi
      cases j with
      | zero =>
        simp only [List.getElem?_cons_zero, Option.some.injEq] at hj
        subst hj
        exact apartL_spec (h2 s (List.mem_of_getElem? hi)) hb hq
      | succ j =>
        simp only [List.getElem?_cons_succ] at hj
        exact ssOk_spec h3 i j s q hi hj (fun e => hne (by rw [e])) b hb hq

section
variable {P : Program} {C : Cfg} {σ σ0 : List Pl} {w w0 : World} {F G : Nat → Prop} {H Hc H0 : Heap} {ss : List Src}

/-- What stands behind a block that is handed over. -/
def VSrc (C : Cfg) (σ : List Pl) (Hc : Heap) (w : World) (σ0 : List Pl) (s : Src) (p : Pl) (blk : Blk) : Prop :=
  BR C σ0 w p blk ∧ p.gen = 1 ∧ match s with
    | .nil => blk.own = false ∧ p.at_ = none ∧ p.n = 0 ∧ p.room = 0
    | .nilo => p.at_ = none
    | .row b g u => (hget Hc b).live = true ∧ blk.own = false ∧ ∃ pl A len cap e esz, σ[b]? = some pl ∧ pl.gen = g ∧ SlOk pl u A len cap ∧ p = vpl A len cap e esz ∧ pl.esz = esz
    | .own b => (hget Hc b).own = true ∧ ∃ pl, σ[b]? = some pl ∧ p.at_ = pl.at_
    | .var b => (hget Hc b).own = true ∧ σ[b]? = some p ∧ p.row = false
structure VS (C : Cfg) (σ : List Pl) (Hc : Heap) (w : World) (H0 : Heap) (ss : List Src) (σ0 : List Pl) : Prop where
  len1 : σ0.length = H0.length
  len2 : ss.length = H0.length
  at_ : ∀ (j : Nat) (s : Src), ss[j]? = some s → ∃ p, σ0[j]? = some p ∧ VSrc C σ Hc w σ0 s p (hget H0 j)
theorem VSrc.push {s : Src} {p : Pl} {blk : Blk} (h : VSrc C σ Hc w σ0 s p blk) (τ : List Pl) : VSrc C σ Hc w (σ0 ++ τ) s p blk := ⟨h.1.keep (Le.push σ0 τ) (fun _ _ _ => rfl), h.2⟩
theorem VS.push (h : VS C σ Hc w H0 ss σ0) {s : Src} {p : Pl} {blk : Blk} (hs : VSrc C σ Hc w (σ0 ++ [p]) s p blk) : VS C σ Hc w (H0 ++ [blk]) (ss ++ [s]) (σ0 ++ [p]) := by
  refine ⟨by simp [h.len1], by simp [h.len2], fun j q hj => ?_⟩
  by_cases hlt : j < ss.length
  · rw [List.getElem?_append_left hlt] at hj
    obtain ⟨r, h1, h2⟩ := h.at_ j q hj
    refine ⟨r, by rw [List.getElem?_append_left (List.getElem?_eq_some_iff.1 h1).1]; exact h1, ?_⟩
    rw [hget_app, if_pos (by rw [← h.len2]; exact hlt)]
    exact h2.push [p]
  · rw [List.getElem?_append_right (by omega)] at hj
    have hj0 : j - ss.length = 0 := by
      cases hd : j - ss.length with
      | zero => rfl
      | succ k => rw [hd] at hj; simp at hj
    rw [hj0] at hj
    simp only [List.getElem?_cons_zero, Option.some.injEq] at hj
    subst hj
    have e1 : j = σ0.length := by rw [h.len1, ← h.len2]; omega
    subst e1
    refine ⟨p, by rw [List.getElem?_append_right (Nat.le_refl _)]; simp, ?_⟩
    rw [hget_app, if_neg (by rw [h.len1]; omega), h.len1, Nat.sub_self]
    exact hs

theorem viewV_pre {tt : Tab} {own : Bool} : ∀ (d : Nat) {v : AVal} {ts : List Nat} {H0 : Heap} {ss : List Src} {v' : AVal} {H1 : Heap} {s1 : List Src}, viewV tt H own d v ts H0 ss = some (v', H1, s1) → ∃ x, s1 = ss ++ x := by
  intro d
  induction d with
  | zero => intro v ts H0 ss v' H1 s1 h; cases h
  | succ d ih =>
    intro v ts H0 ss v' H1 s1 h
    cases v with
    | pair a r =>
      simp only [viewV] at h
      split at h
      · rename_i h1
        split at h
        · rename_i h2
          cases h
          obtain ⟨x, rfl⟩ := ih h1
          obtain ⟨y, rfl⟩ := ih h2
          exact ⟨x ++ y, by rw [List.append_assoc]⟩
        · cases h
      · cases h
    | agg p =>
      simp only [viewV] at h
      split at h
      · rename_i h1; cases h; exact ih h1
      · cases h
    | tup p => simp only [viewV] at h; cases h
    | fn f a c =>
      simp only [viewV] at h
      split at h
      · rename_i h1
        split at h
        · rename_i h2
          cases h
          obtain ⟨x, rfl⟩ := ih h1
          obtain ⟨y, rfl⟩ := ih h2
          exact ⟨x ++ y, by rw [List.append_assoc]⟩
        · cases h
      · cases h
    | nils =>
      simp only [viewV] at h
      split at h
      · split at h
        · cases h; exact ⟨_, rfl⟩
        · cases h
      · cases h
    | slice b g u =>
      simp only [viewV] at h
      split at h
      · split at h
        · cases h; exact ⟨_, rfl⟩
        · split at h
          · cases h; exact ⟨_, rfl⟩
          · cases h
        · cases h
      · cases h
    | ptr b g p =>
      simp only [viewV] at h
      split at h
      · split at h
        · rename_i h1
          split at h
          · cases h
            obtain ⟨x, rfl⟩ := ih h1
            exact ⟨x ++ [.var b], by rw [List.append_assoc]⟩
          · cases h
        · cases h
      · cases h
    | undef => cases h; exact ⟨[], by simp⟩
    | bool _ => cases h; exact ⟨[], by simp⟩
    | int _ _ => cases h; exact ⟨[], by simp⟩
    | str _ => cases h; exact ⟨[], by simp⟩
    | err _ => cases h; exact ⟨[], by simp⟩
    | nilp => cases h; exact ⟨[], by simp⟩
    | nilfn => cases h; exact ⟨[], by simp⟩
    | nil => cases h; exact ⟨[], by simp⟩
    | arr _ _ => cases h; exact ⟨[], by simp⟩

theorem viewV_ok (ht : TabOk P C.tt) {own : Bool} (hh : HR C F G w0 σ Hc w) : ∀ (d : Nat) {v : AVal} {ts : List Nat} {H0 : Heap} {ss : List Src} {v' : AVal} {H1 : Heap} {s1 : List Src}, viewV C.tt H own d v ts H0 ss = some (v', H1, s1) → (∀ b ∈ srcIds s1, hget Hc b = hget H b) →
    ∀ {σ0 : List Pl} {md : Bool} {cs : List Value}, VS C σ Hc w H0 ss σ0 → RL C σ v md cs → ∃ τ, VS C σ Hc w H1 s1 (σ0 ++ τ) ∧ RL C (σ0 ++ τ) v' md cs := by
  intro d
  induction d with
  | zero => intro v ts H0 ss v' H1 s1 h; cases h
  | succ d ih =>
    intro v ts H0 ss v' H1 s1 h hag σ0 md cs hs hr
    cases v with
    | pair a r =>
      simp only [viewV] at h
      split at h
      · rename_i a' H2 s2 h1
        split at h
        · rename_i r' H3 s3 h2
          cases h
          obtain ⟨y, hy⟩ := viewV_pre d h2
          have hag1 : ∀ b ∈ srcIds s2, hget Hc b = hget H b := fun b hb => hag b (by rw [hy, srcIds_app]; exact List.mem_append_left _ hb)
          cases md with
          | false =>
            simp only [RL] at hr
            obtain ⟨x, z, k1, k2, rfl⟩ := hr
            obtain ⟨τ1, q1, q2⟩ := ih h1 hag1 hs k1
            obtain ⟨τ2, p1, p2⟩ := ih h2 hag q1 k2
            refine ⟨τ1 ++ τ2, by rw [← List.append_assoc]; exact p1, ?_⟩
            rw [← List.append_assoc]
            simp only [RL]
            exact ⟨x, z, RL.mono (Le.push _ τ2) q2, p2, rfl⟩
          | true =>
            simp only [RL] at hr
            obtain ⟨x, z, k1, k2, rfl⟩ := hr
            obtain ⟨τ1, q1, q2⟩ := ih h1 hag1 hs k1
            obtain ⟨τ2, p1, p2⟩ := ih h2 hag q1 k2
            refine ⟨τ1 ++ τ2, by rw [← List.append_assoc]; exact p1, ?_⟩
            rw [← List.append_assoc]
            simp only [RL]
            exact ⟨x, z, RL.mono (Le.push _ τ2) q2, p2, rfl⟩
        · cases h
      · cases h
    | agg p =>
      simp only [viewV] at h
      split at h
      · rename_i p' H2 s2 h1
        cases h
        cases md with
        | false =>
          simp only [RL] at hr
          obtain ⟨τ, q1, q2⟩ := ih h1 hag hs hr
          exact ⟨τ, q1, by simp only [RL]; exact q2⟩
        | true =>
          simp only [RL] at hr
          obtain ⟨x, k1, rfl⟩ := hr
          obtain ⟨τ, q1, q2⟩ := ih h1 hag hs k1
          exact ⟨τ, q1, by simp only [RL]; exact ⟨x, q2, rfl⟩⟩
      · cases h
    | tup p => simp only [viewV] at h; cases h
    | fn f a c =>
      simp only [viewV] at h
      split at h
      · rename_i a' H2 s2 h1
        split at h
        · rename_i c' H3 s3 h2
          cases h
          obtain ⟨y, hy⟩ := viewV_pre d h2
          have hag1 : ∀ b ∈ srcIds s2, hget Hc b = hget H b := fun b hb => hag b (by rw [hy, srcIds_app]; exact List.mem_append_left _ hb)
          simp only [RL] at hr
          obtain ⟨x, z, k1, k2, rfl⟩ := hr
          obtain ⟨τ1, q1, q2⟩ := ih h1 hag1 hs k1
          obtain ⟨τ2, p1, p2⟩ := ih h2 hag q1 k2
          refine ⟨τ1 ++ τ2, by rw [← List.append_assoc]; exact p1, ?_⟩
          rw [← List.append_assoc]
          simp only [RL]
          exact ⟨x, z, RL.mono (Le.push _ τ2) q2, p2, rfl⟩
        · cases h
      · cases h
    | nils =>
      simp only [viewV] at h
      split at h
      · rename_i e he
        split at h
        · rename_i z hz
          cases h
          obtain ⟨z1, z2, z3, z4⟩ := zq_nil hz
          have hcs : cs = [.slice none 0 0] := by simpa only [RL] using hr
          subst hcs
          refine ⟨[vpl none 0 0 e z.esz], hs.push ⟨⟨rfl, rfl, by simp [vpl, z2], rfl, rfl, zq_ok hz z4, z3, by simp [vpl, z2], by rw [z2]; decide, rfl⟩, rfl, by cases own with | true => rfl | false => exact ⟨rfl, rfl, rfl, rfl⟩⟩, ?_⟩
          refine VR.mode (.inl ⟨_, _, _, rfl⟩) (VR.new_slice (q := vpl none 0 0 e z.esz) rfl ⟨trivial, rfl, Nat.le_refl _, by simp [voff, vlen, vpl], rfl⟩ ?_) md
          rw [← hs.len1, List.getElem?_append_right (Nat.le_refl _)]
          simp
        · cases h
      · cases h
    | slice b g u =>
      simp only [viewV] at h
      obtain ⟨c, rfl, hv⟩ := slice_mode hr
      split at h
      · rename_i ver g' ow e s hb
        have hlast : ∀ q : Pl, (σ0 ++ [q])[H0.length]? = some q := fun q => by rw [← hs.len1, List.getElem?_append_right (Nat.le_refl _)]; simp
        split at h
        · rename_i hg
          have hg := Nat.eq_of_beq_eq_true hg
          subst hg
          cases h
          have hbc : hget Hc b = .row ver g ow e s := by rw [hag b (by rw [srcIds_app]; exact List.mem_append_right _ (by simp [srcIds, Src.id]))]; exact hb
          obtain ⟨pl, A, len, cap, ver', rfl, q1, q2, q3, q4, q5, q6⟩ := hh.slice hv (e := e) (own := ow) (s := s) (by simp [rowAt, hbc, Nat.beq_refl])
          refine ⟨[vpl A len cap e s.esz], hs.push ⟨⟨rfl, q4.piece q5 q6⟩, rfl, by rw [hbc]; rfl, rfl, pl, A, len, cap, e, s.esz, q1, q2, q5, rfl, q4.esz⟩, VR.mode (.inl ⟨_, _, _, rfl⟩) (VR.new_slice rfl q5.all (hlast _)) md⟩
        · rename_i hg
          have hg := Nat.eq_of_beq_eq_true hg
          subst hg
          split at h
          · rename_i hpre
            cases h
            have hbc : hget Hc b = .row ver g true e s := by rw [hag b (by rw [srcIds_app]; exact List.mem_append_right _ (by simp [srcIds, Src.id]))]; exact hb
            obtain ⟨pl, A, len, cap, ver', rfl, q1, q2, q3, q4, q5, q6⟩ := hh.slice hv (e := e) (own := true) (s := s) (by simp [rowAt, hbc, Nat.beq_refl])
            refine ⟨[⟨true, 1, len, pl.at_, e, s.esz, pl.room⟩], hs.push ⟨⟨rfl, q4.first q5 q6 hpre⟩, rfl, by rw [hbc]; rfl, pl, q1, rfl⟩, VR.mode (.inl ⟨_, _, _, rfl⟩) (VR.new_slice rfl (q5.allF hpre) (hlast _)) md⟩
          · cases h
        · cases h
      · cases h
    | ptr b g p =>
      simp only [viewV] at h
      obtain ⟨c, rfl, hv⟩ := ptr_mode hr
      split at h
      · rename_i ver T u hg hb
        have hg := Nat.eq_of_beq_eq_true hg
        subst hg
        split at h
        · rename_i u' H2 s2 h1
          split at h
          · rename_i hf
            cases h
            have hag1 : ∀ b ∈ srcIds s2, hget Hc b = hget H b := fun b hb => hag b (by rw [srcIds_app]; exact List.mem_append_left _ hb)
            have hbc : hget Hc b = .var ver T u := by rw [hag b (by rw [srcIds_app]; exact List.mem_append_right _ (by simp [srcIds, Src.id]))]; exact hb
            obtain ⟨pl, ad, k1, k2, k3, rfl⟩ := VR.ptr hv
            obtain ⟨a1, a2, a3, a4, c, cs, fz, a5, a6, a7, a8⟩ := hh.var hbc k1
            obtain ⟨τ, q1, q2⟩ := ih h1 hag1 hs a6
            have hlast : (σ0 ++ τ ++ [pl])[H2.length]? = some pl := by rw [← q1.len1, List.getElem?_append_right (Nat.le_refl _)]; simp
            refine ⟨τ ++ [pl], ?_, ?_⟩
            · rw [← List.append_assoc]
              exact q1.push ⟨⟨a1, a2, a3, hf, c, cs, fz, a5, RL.mono (Le.push _ _) q2, a7, a8⟩, a2, by rw [hbc]; rfl, k1, a1⟩
            · rw [← List.append_assoc]
              refine VR.mode (.inr ⟨_, _, _, rfl⟩) ?_ md
              simp only [RL]
              exact ⟨pl, ad, hlast, k2, k3, rfl⟩
          · cases h
        · cases h
      · cases h
    | undef => cases h; exact ⟨[], by simpa using hs, by cases md <;> first | (simp only [RL] at hr; done) | simpa only [RL, List.append_nil] using hr⟩
    | bool _ => cases h; exact ⟨[], by simpa using hs, by cases md <;> simpa only [RL, List.append_nil] using hr⟩
    | int _ _ => cases h; exact ⟨[], by simpa using hs, by cases md <;> simpa only [RL, List.append_nil] using hr⟩
    | str _ => cases h; exact ⟨[], by simpa using hs, by cases md <;> simpa only [RL, List.append_nil] using hr⟩
    | err _ => cases h; exact ⟨[], by simpa using hs, by cases md <;> simpa only [RL, List.append_nil] using hr⟩
    | nilp => cases h; exact ⟨[], by simpa using hs, by cases md <;> simpa only [RL, List.append_nil] using hr⟩
    | nilfn => cases h; exact ⟨[], by simpa using hs, by cases md <;> simpa only [RL, List.append_nil] using hr⟩
    | nil => cases h; exact ⟨[], by simpa using hs, by cases md <;> simpa only [RL, List.append_nil] using hr⟩
    | arr _ _ => cases h; exact ⟨[], by simpa using hs, by cases md <;> simpa only [RL, List.append_nil] using hr⟩

theorem viewL_ok (ht : TabOk P C.tt) (hh : HR C F G w0 σ Hc w) : ∀ {ps : List (Nat × Bool)} {vs : List AVal} {H0 : Heap} {ss : List Src} {l : List AVal} {H1 : Heap} {s1 : List Src}, viewL C.tt H ps vs H0 ss = some (l, H1, s1) → (∃ x, s1 = ss ++ x) ∧ l.length = ps.length ∧ ((∀ b ∈ srcIds s1, hget Hc b = hget H b) →
    ∀ {σ0 : List Pl} {cs : List Value}, VS C σ Hc w H0 ss σ0 → VLs C σ vs cs → ∃ τ, VS C σ Hc w H1 s1 (σ0 ++ τ) ∧ VLs C (σ0 ++ τ) l cs)
  | [], [], H0, ss, l, H1, s1, h => by
    cases h
    refine ⟨⟨[], by simp⟩, rfl, fun _ σ0 cs hs hv => ⟨[], by simpa using hs, ?_⟩⟩
    cases cs with
    | nil => trivial
    | cons _ _ => exact hv.elim
  | (t, own) :: r, v :: vs, H0, ss, l, H1, s1, h => by
    unfold viewL at h
    split at h
    · rename_i v' H2 s2 h1
      split at h
      · rename_i l' H3 s3 h2
        cases h
        obtain ⟨x, hx⟩ := viewV_pre 40 h1
        obtain ⟨⟨y, hy⟩, k2, k3⟩ := viewL_ok ht hh h2
        refine ⟨⟨x ++ y, by rw [hy, hx, List.append_assoc]⟩, by simp [k2], fun hag σ0 cs hs hv => ?_⟩
        cases cs with
        | nil => exact hv.elim
        | cons c cs =>
          obtain ⟨hv1, hv2⟩ := hv
          obtain ⟨τ1, q1, q2⟩ := viewV_ok ht hh 40 h1 (fun b hb => hag b (by rw [hy, srcIds_app]; exact List.mem_append_left _ hb)) hs hv1
          obtain ⟨τ2, p1, p2⟩ := k3 hag q1 hv2
          refine ⟨τ1 ++ τ2, by rw [← List.append_assoc]; exact p1, ?_⟩
          rw [← List.append_assoc]
          exact ⟨RL.mono (Le.push _ τ2) q2, p2⟩
      · cases h
    · cases h
  | [], _ :: _, _, _, _, _, _, h => by cases h
  | _ :: _, [], _, _, _, _, _, h => by cases h

/-- What may be changed: where what is handed over lies. -/
def FS (σ : List Pl) (ss : List Src) (c : Nat) : Prop := ∃ s ∈ ss, ∃ b ∈ s.mine, ∃ p o, σ[b]? = some p ∧ p.at_ = some (c, o)
theorem VSrc.loc {s : Src} {p : Pl} {blk : Blk} (h : VSrc C σ Hc w σ0 s p blk) {c o : Nat} (ha : p.at_ = some (c, o)) : ∃ b ∈ s.id, ∃ q o', σ[b]? = some q ∧ q.at_ = some (c, o') ∧ (hget Hc b).live = true ∧ (blk.own = true → b ∈ s.mine ∧ (hget Hc b).own = true) := by
  have hl : ∀ x : Blk, x.own = true → x.live = true := fun x hx => by cases x <;> simp [Blk.own, Blk.live] at hx ⊢
  obtain ⟨h1, h2, h3⟩ := h
  cases s with
  | nil => rw [h3.2.1] at ha; cases ha
  | nilo => rw [h3] at ha; cases ha
  | row b g u =>
    obtain ⟨k1, k2, pl, A, len, cap, e, esz, k3, k4, k5, rfl, k6⟩ := h3
    obtain ⟨o', ho'⟩ := k5.loc ha
    exact ⟨b, by simp [Src.id], pl, o', k3, ho', k1, fun h => by rw [k2] at h; cases h⟩
  | own b =>
    obtain ⟨k1, pl, k2, k3⟩ := h3
    exact ⟨b, by simp [Src.id], pl, o, k2, by rw [← k3]; exact ha, hl _ k1, fun _ => ⟨by simp [Src.mine], k1⟩⟩
  | var b =>
    obtain ⟨k1, k2, k3⟩ := h3
    exact ⟨b, by simp [Src.id], p, o, k2, ha, hl _ k1, fun _ => ⟨by simp [Src.mine], k1⟩⟩

/-- The memory that a function is handed. -/
theorem VS.enter (hh : HR C F G w0 σ Hc w) (hs : VS C σ Hc w H0 ss σ0) (hok : ssOk ss = true) : HR C (FS σ ss) (fun _ => True) w σ0 H0 w := by
  have get : ∀ (b : Nat) (p : Pl), σ0[b]? = some p → ∃ s, ss[b]? = some s ∧ VSrc C σ Hc w σ0 s p (hget H0 b) := by
    intro b p hp
    have hlt : b < ss.length := by rw [hs.len2, ← hs.len1]; exact (List.getElem?_eq_some_iff.1 hp).1
    obtain ⟨q, h1, h2⟩ := hs.at_ b _ (List.getElem?_eq_getElem hlt)
    rw [hp] at h1; cases h1
    exact ⟨_, List.getElem?_eq_getElem hlt, h2⟩
  refine ⟨⟨rfl, rfl, rfl, Nat.le_refl _, fun _ _ _ => rfl⟩, hs.len1, fun b p hp => ?_, fun b p c o hp hl ha => ?_, fun b p b' p' c o c' o' hne ho hl hp hp' ha ha' => ?_, fun x hx => ?_⟩
  · obtain ⟨s, _, h⟩ := get b p hp; exact h.1
  · obtain ⟨s, hb, h⟩ := get b p hp
    obtain ⟨i, hi, q, o', k1, k2, k3, k4⟩ := h.loc ha
    refine ⟨(hh.mine i q c o' k1 k3 k2).1, fun hown => .inr ⟨s, List.mem_of_getElem? hb, i, (k4 hown).1, q, o', k1, k2⟩, .inr (.inr trivial)⟩
  · obtain ⟨s, hb, h⟩ := get b p hp
    obtain ⟨s', hb', h'⟩ := get b' p' hp'
    obtain ⟨i, hi, q, o1, k1, k2, k3, k4⟩ := h.loc ha
    obtain ⟨i', hi', q', o1', k1', k2', k3', _⟩ := h'.loc ha'
    obtain ⟨m1, m2⟩ := k4 ho
    have hii : i ≠ i' := by rintro rfl; exact ssOk_spec hok b b' s s' hb hb' hne i m1 hi'
    exact hh.apart i q i' q' c o1 c' o1' hii m2 k3' k1 k1' k2 k2'
  · obtain ⟨g1, g2, g3⟩ := hh.gl.at_ hh.bx x hx
    refine ⟨?_, g2, g3⟩
    rintro ⟨s, hs', b, hb, p, o, hp, ha⟩
    obtain ⟨j, hj⟩ := List.getElem?_of_mem hs'
    obtain ⟨q, _, hq⟩ := hs.at_ j s hj
    have hown : (hget Hc b).own = true := by
      cases s with
      | nil => cases hb
      | nilo => cases hb
      | row _ _ _ => cases hb
      | own b' => simp only [Src.mine, List.mem_singleton] at hb; subst hb; exact hq.2.2.1
      | var b' => simp only [Src.mine, List.mem_singleton] at hb; subst hb; exact hq.2.2.1
    have hol : (hget Hc b).live = true := by cases hd : hget Hc b <;> simp [hd, Blk.own, Blk.live] at hown ⊢
    have hlt := (hh.gl x hx).2.1
    rcases (hh.mine b p _ o hp hol ha).2.1 hown with h | h
    · omega
    · exact g1 h
end
end Go.Proofs.YtaakccdfgejgpaaGreatDoor.Abs
