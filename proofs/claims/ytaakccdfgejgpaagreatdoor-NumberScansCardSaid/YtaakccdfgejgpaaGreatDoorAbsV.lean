/-
  Structured code with labels: the evaluator by fuel, and that it is sound.
-/
import Derived.Test.YtaakccdfgejgpaaGreatDoorAbsU
namespace Go.Proofs.YtaakccdfgejgpaaGreatDoor.Abs
open Go
set_option linter.unusedVariables false

inductive ACode where
  | skip
  | ret
  | exit (id : Nat)
  | region (id : Nat) (ops : List Oper) (draw : Bool)
  | seq (a b : ACode)
  | cut (j : Nat) (keep : Keep) (a b : ACode)
  | cond (c : Operand) (a b : ACode)
  | block (id : Nat) (a : ACode)
  | loop (j : Nat) (keep : Keep) (a : ACode)
def ACode.erase : ACode → Code
  | .skip => .skip
  | .ret => .ret
  | .exit id => .exit id
  | .region id ops draw => .region id ops.toArray draw
  | .seq a b => .seq a.erase b.erase
  | .cut _ _ a b => .seq a.erase b.erase
  | .cond c a b => .cond c a.erase b.erase
  | .block id a => .block id a.erase
  | .loop _ _ a => .loop a.erase

inductive AEx where
  | nrm
  | ext (id : Nat)
  | ret
def AEx.to : AEx → Exit
  | .nrm => .normal
  | .ext id => .exit id
  | .ret => .ret

section
variable {R : Type}
abbrev KK (R : Type) := AEx → Fr → Heap → Option R
def goJ (tt : Tab) (np : Nat) (keep : Keep) (J : Fr → Heap → Option R) (fr : Fr) (H : Heap) : Option R := match canon tt np keep fr H with
  | some (fr', H') => J fr' H'
  | none => none
def kSeq (K : KK R) (next : Fr → Heap → Option R) : KK R
  | .nrm => next
  | e => K e
def kBlock (id : Nat) (K : KK R) : KK R
  | .ext i => match Nat.beq i id with
    | true => K .nrm
    | false => K (.ext i)
  | e => K e
def ex (E : Env) (n np : Nat) (J : Nat → Fr → Heap → Option R) : ACode → KK R → Fr → Heap → Option R
  | .skip, K => K .nrm
  | .ret, K => K .ret
  | .exit id, K => K (.ext id)
  | .region _ ops draw, K => exReg E n ops draw (K .nrm)
  | .seq a b, K => ex E n np J a (kSeq K (ex E n np J b K))
  | .cut j keep a b, K => ex E n np J a (kSeq K (goJ E.C.tt np keep (J j)))
  | .cond c a b, K => fun fr H => match ev fr c with
    | some (.bool t) => cond t (ex E n np J a K fr H) (ex E n np J b K fr H)
    | _ => none
  | .block id a, K => ex E n np J a (kBlock id K)
  | .loop j keep a, K => goJ E.C.tt np keep (J j)
def orO {α : Type} : Option α → Option α → Option α
  | some x, _ => some x
  | none, y => y
def seg (E : Env) (n np : Nat) (J : Nat → Fr → Heap → Option R) (j : Nat) : ACode → KK R → Option (Fr → Heap → Option R)
  | .seq a b, K => orO (seg E n np J j a (kSeq K (ex E n np J b K))) (seg E n np J j b K)
  | .cut i keep a b, K => match Nat.beq i j with
    | true => some (ex E n np J b K)
    | false => orO (seg E n np J j a (kSeq K (goJ E.C.tt np keep (J i)))) (seg E n np J j b K)
  | .cond _ a b, K => orO (seg E n np J j a K) (seg E n np J j b K)
  | .block id a, K => seg E n np J j a (kBlock id K)
  | .loop i keep a, K => match Nat.beq i j with
    | true => some (ex E n np J a (kSeq K (goJ E.C.tt np keep (J i))))
    | false => seg E n np J j a (kSeq K (goJ E.C.tt np keep (J i)))
  | _, _ => none
def labels : ACode → List Nat
  | .seq a b => labels a ++ labels b
  | .cut i _ a b => i :: (labels a ++ labels b)
  | .cond _ a b => labels a ++ labels b
  | .block _ a => labels a
  | .loop i _ a => i :: labels a
  | _ => []
def nodupL : List Nat → Bool
  | [] => true
  | x :: r => !(natIn x r) && nodupL r
/-- One step from a label on: label 0 is the whole. -/
def stepJ (C : Cfg) (X : List Ct) (n np : Nat) (c : ACode) (Kend : KK R) (k : Nat) (J : Nat → Fr → Heap → Option R) (j : Nat) (fr : Fr) (H : Heap) : Option R := match j with
  | 0 => ex ⟨C, X, k⟩ n np J c Kend fr H
  | j + 1 => match seg ⟨C, X, k⟩ n np J (j + 1) c Kend with
    | some s => s fr H
    | none => none
def run (C : Cfg) (X : List Ct) (n np : Nat) (c : ACode) (Kend : KK R) : Nat → Nat → Fr → Heap → Option R
  | 0, _, _, _ => none
  | k + 1, j, fr, H => stepJ C X n np c Kend k (run C X n np c Kend k) j fr H
end

section
variable {P : Program} {C : Cfg} {X : List Ct} {n np : Nat} {ds : List Deferred} {w0 : World} {F G : Nat → Prop} {R : Type} {r : R} {c : ACode} {Kend : KK R} {σ0 : List Pl}

theorem nodupL_spec : ∀ {l : List Nat}, nodupL l = true → l.Nodup
  | [], _ => .nil
  | x :: r, h => by
    simp only [nodupL, Bool.and_eq_true, Bool.not_eq_true'] at h
    refine List.nodup_cons.2 ⟨fun hx => ?_, nodupL_spec h.2⟩
    rw [natIn_spec.2 hx] at h
    cases h.1
theorem beq_ne {i j : Nat} (h : i ≠ j) : Nat.beq i j = false := by
  cases hb : Nat.beq i j with
  | false => rfl
  | true => exact absurd (Nat.eq_of_beq_eq_true hb) h
theorem seg_none {E : Env} {J : Nat → Fr → Heap → Option R} {j : Nat} : ∀ {a : ACode} {K : KK R}, ¬ j ∈ labels a → seg E n np J j a K = none := by
  intro a
  induction a with
  | seq a b iha ihb =>
    intro K h
    simp only [labels, List.mem_append, not_or] at h
    simp only [seg, iha h.1, ihb h.2, orO]
  | cut i keep a b iha ihb =>
    intro K h
    simp only [labels, List.mem_cons, List.mem_append, not_or] at h
    simp only [seg, beq_ne (fun e => h.1 e.symm), iha h.2.1, ihb h.2.2, orO]
  | cond c a b iha ihb =>
    intro K h
    simp only [labels, List.mem_append, not_or] at h
    simp only [seg, iha h.1, ihb h.2, orO]
  | block id a iha => intro K h; exact iha h
  | loop i keep a iha =>
    intro K h
    simp only [labels, List.mem_cons, not_or] at h
    simp only [seg, beq_ne (fun e => h.1 e.symm), iha h.2]
  | _ => intro K h; rfl
theorem seg_some {E : Env} {J : Nat → Fr → Heap → Option R} {j : Nat} : ∀ {a : ACode} {K : KK R}, j ∈ labels a → ∃ s, seg E n np J j a K = some s := by
  intro a
  induction a with
  | seq a b iha ihb =>
    intro K h
    simp only [seg]
    by_cases ha : j ∈ labels a
    · obtain ⟨s, hs⟩ := iha (K := kSeq K (ex E n np J b K)) ha
      exact ⟨s, by rw [hs]; rfl⟩
    · simp only [labels, List.mem_append] at h
      obtain ⟨s, hs⟩ := ihb (K := K) (h.resolve_left ha)
      exact ⟨s, by rw [seg_none ha, hs]; rfl⟩
  | cut i keep a b iha ihb =>
    intro K h
    simp only [seg]
    by_cases e : i = j
    · subst e; simp only [Nat.beq_refl]; exact ⟨_, rfl⟩
    · simp only [beq_ne e]
      simp only [labels, List.mem_cons, List.mem_append] at h
      have h := h.resolve_left (fun h => e h.symm)
      by_cases ha : j ∈ labels a
      · obtain ⟨s, hs⟩ := iha (K := kSeq K (goJ E.C.tt np keep (J i))) ha
        exact ⟨s, by rw [hs]; rfl⟩
      · obtain ⟨s, hs⟩ := ihb (K := K) (h.resolve_left ha)
        exact ⟨s, by rw [seg_none ha, hs]; rfl⟩
  | cond c a b iha ihb =>
    intro K h
    simp only [seg]
    by_cases ha : j ∈ labels a
    · obtain ⟨s, hs⟩ := iha (K := K) ha
      exact ⟨s, by rw [hs]; rfl⟩
    · simp only [labels, List.mem_append] at h
      obtain ⟨s, hs⟩ := ihb (K := K) (h.resolve_left ha)
      exact ⟨s, by rw [seg_none ha, hs]; rfl⟩
  | block id a iha => intro K h; exact iha h
  | loop i keep a iha =>
    intro K h
    simp only [seg]
    by_cases e : i = j
    · subst e; simp only [Nat.beq_refl]; exact ⟨_, rfl⟩
    · simp only [beq_ne e]
      simp only [labels, List.mem_cons] at h
      exact iha (h.resolve_left (fun h => e h.symm))
  | _ => intro K h; cases h

/-- The continuation of a part, by fuel. -/
abbrev KF (R : Type) := Nat → KK R
/-- The whole's evaluator, with fuel k left. -/
abbrev ev_ (C : Cfg) (X : List Ct) (n np : Nat) (c : ACode) (Kend : KK R) (k : Nat) : ACode → KK R → Fr → Heap → Option R := ex ⟨C, X, k⟩ n np (run C X n np c Kend k)

def Holds (P : Program) (C : Cfg) (F G : Nat → Prop) (w0 : World) (n np : Nat) (ds : List Deferred) (σ0 : List Pl) (fr : Fr) (H : Heap) (a : Act) (w : World) : Prop := ∃ σ, Lp np σ0 σ ∧ RepA C σ n ds fr a ∧ HR C F G w0 σ H w

theorem run_at {j : Nat} (hj : j ≠ 0) {k : Nat} {fr : Fr} {H : Heap} (h : run C X n np c Kend k j fr H = some r) : ∃ k', k = k' + 1 ∧ ∃ s, seg ⟨C, X, k'⟩ n np (run C X n np c Kend k') j c Kend = some s ∧ s fr H = some r := by
  cases k with
  | zero => cases h
  | succ k =>
    refine ⟨k, rfl, ?_⟩
    unfold run stepJ at h
    cases j with
    | zero => exact absurd rfl hj
    | succ j =>
      simp only at h
      split at h
      · rename_i s hs; exact ⟨s, hs, h⟩
      · cases h

theorem ex_ok (hC : CfgOk P C) (hm : P.follows .mixedOrders = true) : ∀ (a : ACode) (Kx : KF R) (Q : Exit → Act → World → Prop) (kmax : Nat), (∀ k, k ≤ kmax → ∀ ct ∈ X, Snd P C k ct) → (labels a).Nodup → (∀ j ∈ labels a, j ≠ 0) →
    (∀ k j, j ∈ labels a → seg ⟨C, X, k⟩ n np (run C X n np c Kend k) j c Kend = seg ⟨C, X, k⟩ n np (run C X n np c Kend k) j a (Kx k)) →
    (∀ k e fr H act w, k ≤ kmax → Kx k e fr H = some r → Holds P C F G w0 n np ds σ0 fr H act w → Q e.to act w) →
    ∀ k fr H act w, k ≤ kmax → ev_ C X n np c Kend k a (Kx k) fr H = some r → Holds P C F G w0 n np ds σ0 fr H act w → a.erase.wp P Q act w := by
  intro a
  have jump : ∀ {keep : Keep} {J : Fr → Heap → Option R} {fr : Fr} {H : Heap} {act : Act} {w : World}, goJ C.tt np keep J fr H = some r → Holds P C F G w0 n np ds σ0 fr H act w → ∃ fr' H', J fr' H' = some r ∧ Holds P C F G w0 n np ds σ0 fr' H' act w := by
    rintro keep J fr H act w h ⟨σ, h1, h2, h3⟩
    unfold goJ at h
    split at h
    · rename_i fr' H' hc
      obtain ⟨σ', k1, k2, k3⟩ := canon_ok hC.tab hc h2 h3
      exact ⟨fr', H', h, σ', h1.trans k1, k2, k3⟩
    · cases h
  induction a with
  | skip => intro Kx Q kmax hX hnd h0 hseg hK k fr H act w hk h hh; exact wp_skip (hK k .nrm fr H act w hk h hh)
  | ret => intro Kx Q kmax hX hnd h0 hseg hK k fr H act w hk h hh; exact wp_ret (hK k .ret fr H act w hk h hh)
  | exit id => intro Kx Q kmax hX hnd h0 hseg hK k fr H act w hk h hh; exact wp_exit (hK k (.ext id) fr H act w hk h hh)
  | region id ops draw =>
    intro Kx Q kmax hX hnd h0 hseg hK k fr H act w hk h hh
    obtain ⟨σ, h1, h2, h3⟩ := hh
    exact reg_ok (E := ⟨C, X, k⟩) hC hm (hX k hk) h h2 h3 (fun σ' fr' H' a' w' hl hk' hr' hh' => hK k .nrm fr' H' a' w' hk hk' ⟨σ', h1.trans (.of hl), hr', hh'⟩)
  | seq a b iha ihb =>
    intro Kx Q kmax hX hnd h0 hseg hK k fr H act w hk h hh
    simp only [labels] at hnd h0 hseg
    obtain ⟨nd1, nd2, nd3⟩ := List.nodup_append.1 hnd
    refine wp_seq ?_
    refine iha (fun k => kSeq (Kx k) (ev_ C X n np c Kend k b (Kx k))) _ kmax hX nd1 (fun j hj => h0 j (List.mem_append_left _ hj)) (fun k j hj => ?_) (fun k e fr H act w hk h hh => ?_) k fr H act w hk h hh
    · rw [hseg k j (List.mem_append_left _ hj)]
      simp only [seg]
      obtain ⟨s, hs⟩ := seg_some (E := ⟨C, X, k⟩) (n := n) (np := np) (J := run C X n np c Kend k) (K := kSeq (Kx k) (ex ⟨C, X, k⟩ n np (run C X n np c Kend k) b (Kx k))) hj
      rw [hs]; rfl
    · cases e with
      | nrm =>
        refine ihb Kx Q kmax hX nd2 (fun j hj => h0 j (List.mem_append_right _ hj)) (fun k j hj => ?_) hK k fr H act w hk h hh
        rw [hseg k j (List.mem_append_right _ hj)]
        simp only [seg]
        rw [seg_none (fun hja => nd3 j hja j hj rfl)]
        rfl
      | ext i => exact hK k (.ext i) fr H act w hk h hh
      | ret => exact hK k .ret fr H act w hk h hh
  | cut i keep a b iha ihb =>
    intro Kx Q kmax hX hnd h0 hseg hK k fr H act w hk h hh
    simp only [labels] at hnd h0 hseg
    obtain ⟨hi, hnd'⟩ := List.nodup_cons.1 hnd
    obtain ⟨nd1, nd2, nd3⟩ := List.nodup_append.1 hnd'
    have hne : ∀ j, j ∈ labels a ++ labels b → Nat.beq i j = false := fun j hj => beq_ne (fun e => hi (e ▸ hj))
    refine wp_seq ?_
    refine iha (fun k => kSeq (Kx k) (goJ C.tt np keep (run C X n np c Kend k i))) _ kmax hX nd1 (fun j hj => h0 j (List.mem_cons_of_mem _ (List.mem_append_left _ hj))) (fun k j hj => ?_) (fun k e fr H act w hk h hh => ?_) k fr H act w hk h hh
    · rw [hseg k j (List.mem_cons_of_mem _ (List.mem_append_left _ hj))]
      simp only [seg, hne j (List.mem_append_left _ hj)]
      obtain ⟨s, hs⟩ := seg_some (E := ⟨C, X, k⟩) (n := n) (np := np) (J := run C X n np c Kend k) (K := kSeq (Kx k) (goJ C.tt np keep (run C X n np c Kend k i))) hj
      rw [hs]; rfl
    · cases e with
      | nrm =>
        obtain ⟨fr', H', hj, hh'⟩ := jump h hh
        obtain ⟨k', rfl, s, hs, hsr⟩ := run_at (h0 i List.mem_cons_self) hj
        rw [hseg k' i List.mem_cons_self] at hs
        simp only [seg, Nat.beq_refl, Option.some.injEq] at hs
        subst hs
        refine ihb Kx Q kmax hX nd2 (fun j hj => h0 j (List.mem_cons_of_mem _ (List.mem_append_right _ hj))) (fun k j hj => ?_) hK k' fr' H' act w (by omega) hsr hh'
        rw [hseg k j (List.mem_cons_of_mem _ (List.mem_append_right _ hj))]
        simp only [seg, hne j (List.mem_append_right _ hj)]
        rw [seg_none (fun hja => nd3 j hja j hj rfl)]
        rfl
      | ext i => exact hK k (.ext i) fr H act w hk h hh
      | ret => exact hK k .ret fr H act w hk h hh
  | cond x a b iha ihb =>
    intro Kx Q kmax hX hnd h0 hseg hK k fr H act w hk h hh
    simp only [labels] at hnd h0 hseg
    obtain ⟨nd1, nd2, nd3⟩ := List.nodup_append.1 hnd
    obtain ⟨σ, h1, h2, h3⟩ := hh
    have key : ∃ t, ev fr x = some (.bool t) ∧ cond t (ev_ C X n np c Kend k a (Kx k) fr H) (ev_ C X n np c Kend k b (Kx k) fr H) = some r := by
      simp only [ev_, ex] at h
      cases hx : ev fr x with
      | none => rw [hx] at h; cases h
      | some u =>
        rw [hx] at h
        cases u with
        | bool t => exact ⟨t, rfl, h⟩
        | _ => cases h
    obtain ⟨t, ht, h⟩ := key
    have hb := VR.bool (h2.ev ht)
    cases t with
    | true =>
      refine wp_cond_true hb ?_
      refine iha Kx Q kmax hX nd1 (fun j hj => h0 j (List.mem_append_left _ hj)) (fun k j hj => ?_) hK k fr H act w hk h ⟨σ, h1, h2, h3⟩
      rw [hseg k j (List.mem_append_left _ hj)]
      simp only [seg]
      obtain ⟨s, hs⟩ := seg_some (E := ⟨C, X, k⟩) (n := n) (np := np) (J := run C X n np c Kend k) (K := Kx k) hj
      rw [hs]; rfl
    | false =>
      refine wp_cond_false hb ?_
      refine ihb Kx Q kmax hX nd2 (fun j hj => h0 j (List.mem_append_right _ hj)) (fun k j hj => ?_) hK k fr H act w hk h ⟨σ, h1, h2, h3⟩
      rw [hseg k j (List.mem_append_right _ hj)]
      simp only [seg]
      rw [seg_none (fun hja => nd3 j hja j hj rfl)]
      rfl
  | block id a iha =>
    intro Kx Q kmax hX hnd h0 hseg hK k fr H act w hk h hh
    refine wp_block ?_
    refine iha (fun k => kBlock id (Kx k)) _ kmax hX hnd h0 hseg (fun k e fr H act w hk h hh => ?_) k fr H act w hk h hh
    cases e with
    | nrm => exact hK k .nrm fr H act w hk h hh
    | ret => exact hK k .ret fr H act w hk h hh
    | ext i =>
      show (if i = id then Q .normal act w else Q (.exit i) act w)
      simp only [kBlock] at h
      cases hb : Nat.beq i id with
      | true =>
        rw [hb] at h
        rw [if_pos (Nat.eq_of_beq_eq_true hb)]
        exact hK k .nrm fr H act w hk h hh
      | false =>
        rw [hb] at h
        rw [if_neg (fun e => by subst e; rw [Nat.beq_refl] at hb; cases hb)]
        exact hK k (.ext i) fr H act w hk h hh
  | loop i keep a iha =>
    intro Kx Q kmax hX hnd h0 hseg hK k fr H act w hk h hh
    simp only [labels] at hnd h0 hseg
    obtain ⟨hi, nd1⟩ := List.nodup_cons.1 hnd
    obtain ⟨fr', H', hj, hh'⟩ := jump h hh
    refine wp_loop_ghost (fun k act w => k ≤ kmax ∧ ∃ fr H, run C X n np c Kend k i fr H = some r ∧ Holds P C F G w0 n np ds σ0 fr H act w) k ⟨hk, fr', H', hj, hh'⟩ ?_
    rintro k act w ⟨hk, fr, H, hj, hh⟩
    obtain ⟨k', rfl, s, hs, hsr⟩ := run_at (h0 i List.mem_cons_self) hj
    rw [hseg k' i List.mem_cons_self] at hs
    simp only [seg, Nat.beq_refl, Option.some.injEq] at hs
    subst hs
    refine iha (fun k => kSeq (Kx k) (goJ C.tt np keep (run C X n np c Kend k i))) _ k' (fun k hk' => hX k (by omega)) nd1 (fun j hj => h0 j (List.mem_cons_of_mem _ hj)) (fun k j hj => ?_) (fun k2 e fr H act w hk2 h hh => ?_) k' fr H act w (Nat.le_refl _) hsr hh
    · rw [hseg k j (List.mem_cons_of_mem _ hj)]
      have : Nat.beq i j = false := beq_ne (fun e => hi (e ▸ hj))
      simp only [seg, this]
    · cases e with
      | nrm =>
        obtain ⟨fr', H', hj, hh'⟩ := jump h hh
        exact ⟨k2, by omega, by omega, fr', H', hj, hh'⟩
      | ext i => exact hK k2 (.ext i) fr H act w (by omega) h hh
      | ret => exact hK k2 .ret fr H act w (by omega) h hh

/-! ### Functions -/
def argFr : Nat → List AVal → Fr
  | _, [] => []
  | i, v :: r => (i, v) :: argFr (i + 1) r
theorem look_argFr : ∀ (l : List AVal) (i j : Nat) (v : AVal), look (argFr i l) j = some v → i ≤ j ∧ l[j - i]? = some v
  | [], i, j, v, h => by cases h
  | u :: r, i, j, v, h => by
    unfold argFr at h
    rw [look_cons] at h
    by_cases e : i = j
    · subst e; rw [if_pos rfl] at h; cases h; simp
    · rw [if_neg e] at h
      obtain ⟨h1, h2⟩ := look_argFr r (i + 1) j v h
      refine ⟨by omega, ?_⟩
      rw [show j - i = (j - (i + 1)) + 1 by omega, List.getElem?_cons_succ]
      exact h2
theorem VLs.get {σ : List Pl} : ∀ {us : List AVal} {cs : List Value}, VLs C σ us cs → us.length = cs.length ∧ ∀ (i : Nat) (v : AVal), us[i]? = some v → ∃ c, cs[i]? = some c ∧ VR C σ v c
  | [], [], _ => ⟨rfl, fun i v h => by cases h⟩
  | u :: us, x :: cs, ⟨h, k⟩ => by
    obtain ⟨k1, k2⟩ := VLs.get k
    refine ⟨by simp [k1], fun i v hi => ?_⟩
    cases i with
    | zero => simp only [List.getElem?_cons_zero, Option.some.injEq] at hi; subst hi; exact ⟨x, rfl, h⟩
    | succ i => simpa using k2 i v (by simpa using hi)

def resV (tt : Tab) (fr : Fr) (H : Heap) : List ResultVar → Option (List AVal)
  | [] => some []
  | .tmp t :: r => match look fr t, resV tt fr H r with
    | some v, some l => some (v :: l)
    | _, _ => none
  | .cell t ty :: r => match look fr t with
    | some u => match loadOp tt H ty u, resV tt fr H r with
      | .red true _ v, some l => some (v :: l)
      | _, _ => none
    | none => none
def tupV : List AVal → AVal
  | [v] => v
  | l => .tup (.ofList l)
def kEnd (tt : Tab) (rs : List ResultVar) (Kf : AVal → Heap → Option R) : KK R
  | .ext _ => fun _ _ => none
  | _ => fun fr H => match resV tt fr H rs with
    | some l => Kf (tupV l) H
    | none => none

def resGet (tmps : Array Value) : ResultVar → Sem Value
  | .tmp t => pure (tmps.getD t undef)
  | .cell a t => do loadVar t (← asAddr (tmps.getD a undef))
theorem resV_ok (hC : CfgOk P C) {σ : List Pl} {fr : Fr} {H : Heap} {a : Act} {w : World} (hr : RepA C σ n ds fr a) (hh : HR C F G w0 σ H w) : ∀ {rs : List ResultVar} {l : List AVal}, resV C.tt fr H rs = some l → ∃ cs : List Value, VLs C σ l cs ∧ cs.length = rs.length ∧ ∀ (i : Nat) (x : ResultVar) (c : Value), rs[i]? = some x → cs[i]? = some c → (resGet a.tmps x).run P w = .ok c w
  | [], l, h => by cases h; exact ⟨[], trivial, rfl, fun i x c h => by cases h⟩
  | .tmp t :: r, l, h => by
    unfold resV at h
    split at h
    · rename_i v l' h1 h2
      cases h
      obtain ⟨cs, k1, k2, k3⟩ := resV_ok hC hr hh h2
      obtain ⟨c, q1, q2⟩ := hr.vals t v h1
      refine ⟨c :: cs, ⟨q2, k1⟩, by simp [k2], fun i x c' hi hc => ?_⟩
      cases i with
      | zero =>
        simp only [List.getElem?_cons_zero, Option.some.injEq] at hi hc
        subst hi; subst hc
        simp [resGet, q1]
      | succ i => exact k3 i x c' (by simpa using hi) (by simpa using hc)
    · cases h
  | .cell t ty :: r, l, h => by
    unfold resV at h
    split at h
    · rename_i u h1
      split at h
      · rename_i b v l' hl h2
        cases h
        obtain ⟨cs, k1, k2, k3⟩ := resV_ok hC hr hh h2
        obtain ⟨cu, q1, q2⟩ := hr.vals t u h1
        obtain ⟨_, c, p1, p2⟩ := load_ok (P := P) hC.tab hh hl q2
        refine ⟨c :: cs, ⟨p2, k1⟩, by simp [k2], fun i x c' hi hc => ?_⟩
        cases i with
        | zero =>
          simp only [List.getElem?_cons_zero, Option.some.injEq] at hi hc
          subst hi; subst hc
          have hq : a.tmps.getD t undef = cu := by simp [q1]
          have hp : ∃ ad, cu = .pointer (some ad) := by
            cases u <;> simp only [loadOp, reduceCtorEq] at hl
            obtain ⟨pl, ad, _, _, _, rfl⟩ := VR.ptr q2
            exact ⟨ad, rfl⟩
          obtain ⟨ad, rfl⟩ := hp
          have : (Instr.loadAt ty (.pointer (some ad))).run P w = .ok c w := p1
          simp only [resGet, hq]
          simpa [Instr.loadAt, Instr.sureAddr, asAddr] using this
        | succ i => exact k3 i x c' (by simpa using hi) (by simpa using hc)
      · cases h
    · cases h

theorem results_ok (hC : CfgOk P C) {σ : List Pl} {fr : Fr} {H : Heap} {a : Act} {w : World} {fn : Func} {rs : List ResultVar} {l : List AVal} (hr : RepA C σ n ds fr a) (hh : HR C F G w0 σ H w) (h : resV C.tt fr H rs = some l) (hres : fn.results = rs.toArray) (hl : rs.length ≤ 4) : ∃ v, (results fn a.tmps).run P w = .ok v w ∧ VR C σ (tupV l) v := by
  obtain ⟨cs, k1, k2, k3⟩ := resV_ok (P := P) hC hr hh h
  have hdef : results fn a.tmps = (do
      let vs ← fn.results.mapM (resGet a.tmps)
      pure (if h : vs.size = 1 then vs[0] else .tuple vs)) := by
    unfold results
    congr 1
  have hlen := (VLs.get k1).1
  rw [hdef, hres]
  match rs, cs, l, k1, k2, hl, hlen, k3 with
  | [], [], [], k1, _, _, _, k3 => exact ⟨.tuple #[], by simp, [], rfl, rfl⟩
  | [x1], [c1], [v1], k1, _, _, _, k3 => exact ⟨c1, by simp [k3 0 x1 c1 rfl rfl], k1.1⟩
  | [x1, x2], [c1, c2], [v1, v2], k1, _, _, _, k3 => exact ⟨.tuple #[c1, c2], by simp [k3 0 x1 c1 rfl rfl, k3 1 x2 c2 rfl rfl], [c1, c2], VLs.ofList k1, rfl⟩
  | [x1, x2, x3], [c1, c2, c3], [v1, v2, v3], k1, _, _, _, k3 => exact ⟨.tuple #[c1, c2, c3], by simp [k3 0 x1 c1 rfl rfl, k3 1 x2 c2 rfl rfl, k3 2 x3 c3 rfl rfl], [c1, c2, c3], VLs.ofList k1, rfl⟩
  | [x1, x2, x3, x4], [c1, c2, c3, c4], [v1, v2, v3, v4], k1, _, _, _, k3 => exact ⟨.tuple #[c1, c2, c3, c4], by simp [k3 0 x1 c1 rfl rfl, k3 1 x2 c2 rfl rfl, k3 2 x3 c3 rfl rfl, k3 3 x4 c4 rfl rfl], [c1, c2, c3, c4], VLs.ofList k1, rfl⟩
  | _ :: _ :: _ :: _ :: _ :: _, _, _, _, _, hl, _, _ => simp at hl

/-- A function does what the evaluator says. -/
theorem fn_ok (hC : CfgOk P C) (hm : P.follows .mixedOrders = true) {f : Nat} {fn : Func} {rs : List ResultVar} {Kf : AVal → Heap → Option R} (hf : P.funcs[f]? = some fn) (hb : fn.body = some c.erase) (hn : fn.ntmps = n) (hres : fn.results = rs.toArray) (hrl : rs.length ≤ 4) (hnd : nodupL (0 :: labels c) = true)
    {k : Nat} (hX : ∀ k', k' < k → ∀ ct ∈ X, Snd P C k' ct) {args : List AVal} {H : Heap} (hl : args.length ≤ n) (h : run C X n np c (kEnd C.tt rs Kf) k 0 (argFr 0 args) H = some r) {w : World} {cs : List Value} (hh : HR C F G w0 σ0 H w) (hv : VLs C σ0 args cs) :
    Calls P f cs.toArray w fun e w' => ∃ x v H' σ', e = .returned x ∧ Lp np σ0 σ' ∧ VR C σ' v x ∧ HR C F G w0 σ' H' w' ∧ Kf v H' = some r := by
  cases k with
  | zero => cases h
  | succ k =>
    obtain ⟨hlen, hget⟩ := VLs.get hv
    have hnd' := nodupL_spec hnd
    obtain ⟨hz, hnd''⟩ := List.nodup_cons.1 hnd'
    have hend : ∀ (e : AEx) (fr : Fr) (H : Heap) (act : Act) (w : World), kEnd C.tt rs Kf e fr H = some r → Holds P C F G w0 n np [] σ0 fr H act w → bodyPost P fn (fun e w' => ∃ x v H' σ', e = .returned x ∧ Lp np σ0 σ' ∧ VR C σ' v x ∧ HR C F G w0 σ' H' w' ∧ Kf v H' = some r) e.to act w := by
      rintro e fr H act w h ⟨σ, h1, h2, h3⟩
      have key : (match resV C.tt fr H rs with | some l => Kf (tupV l) H | none => none) = some r → act.defers = [] ∧ ∃ v, (results fn act.tmps).run P w = .ok v w ∧ ∃ x v' H' σ', Ending.returned v = .returned x ∧ Lp np σ0 σ' ∧ VR C σ' v' x ∧ HR C F G w0 σ' H' w ∧ Kf v' H' = some r := by
        intro h
        split at h
        · rename_i l hl
          obtain ⟨v, k1, k2⟩ := results_ok (P := P) hC h2 h3 hl hres hrl
          exact ⟨h2.dfs, v, k1, v, _, H, σ, rfl, h1, k2, h3, h⟩
        · cases h
      cases e with
      | nrm => exact key h
      | ret => exact key h
      | ext i => cases h
    refine calls_of_wp hf hb (ex_ok hC hm c (fun _ => kEnd C.tt rs Kf) _ k (fun k' hk' => hX k' (by omega)) hnd'' (fun j hj e => hz (e ▸ hj)) (fun k j hj => rfl) (fun k e fr H act w _ h hh => hend e fr H act w h hh) k (argFr 0 args) H _ w (Nat.le_refl _) h ⟨σ0, .refl np σ0, ⟨?_, ?_, rfl⟩, hh⟩)
    · simp [hn]; omega
    · intro i v hi
      obtain ⟨_, h2⟩ := look_argFr args 0 i v hi
      simp only [Nat.sub_zero] at h2
      obtain ⟨x, k1, k2⟩ := hget i v h2
      refine ⟨x, ?_, k2⟩
      rw [Array.getElem?_append_left (by simpa using (List.getElem?_eq_some_iff.1 k1).1)]
      simpa using k1
end
end Go.Proofs.YtaakccdfgejgpaaGreatDoor.Abs
