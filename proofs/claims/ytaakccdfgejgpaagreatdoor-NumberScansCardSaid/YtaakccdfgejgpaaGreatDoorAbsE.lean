/-
  Places within values, read and written.
-/
import Derived.Test.YtaakccdfgejgpaaGreatDoorAbsD
namespace Go.Proofs.YtaakccdfgejgpaaGreatDoor.Abs
open Go
set_option linter.unusedVariables false

section
variable {P : Program} {C : Cfg} {σ σ' : List Pl} {n : Nat} {w : World}

theorem offs_ok {tt : Tab} : ∀ {fs : List (Nat × Nat)} {a i t o : Nat}, offsOk tt a fs = true → fs[i]? = some (t, o) → o = a + sumSz tt ((fs.map (·.1)).take i)
  | [], a, i, t, o, _, h => by cases h
  | (u, q) :: r, a, i, t, o, ho, h => by
    simp only [offsOk, Bool.and_eq_true] at ho
    cases i with
    | zero =>
      simp only [List.getElem?_cons_zero, Option.some.injEq, Prod.mk.injEq] at h
      obtain ⟨rfl, rfl⟩ := h
      simp [sumSz, Nat.eq_of_beq_eq_true ho.1]
    | succ i =>
      simp only [List.getElem?_cons_succ] at h
      rw [offs_ok ho.2 h]
      simp only [List.map_cons, List.take_succ_cons, sumSz]
      omega

theorem nth_ok (ht : TabOk P C.tt) : ∀ {p : AVal} {ts : List Nat} {cs : List Value} {i : Nat} {v : AVal}, fits C.tt p ts = true → RL C σ p false cs → p.nth i = some v →
    ∃ t, ts[i]? = some t ∧ fit1 C.tt v t = true ∧ RL C σ v false ((cs.drop (sumSz C.tt (ts.take i))).take (szT C.tt t)) ∧ sumSz C.tt (ts.take i) + szT C.tt t ≤ cs.length := by
  intro p
  induction p with
  | pair a r _ ih =>
    intro ts cs i v hf hr h
    simp only [RL] at hr
    obtain ⟨x, y, h1, h2, rfl⟩ := hr
    cases ts with
    | nil => simp [fits] at hf
    | cons t ts =>
      simp only [fits, Bool.and_eq_true, Bool.not_eq_true'] at hf
      have hx : x.length = szT C.tt t := by rw [RL.len ht hf.2.1 h1]; simp [sumSz]
      cases i with
      | zero =>
        simp only [AVal.nth, Option.some.injEq] at h
        subst h
        refine ⟨t, rfl, by simp [fit1, hf.1, hf.2.1], ?_, by simp [sumSz, hx]⟩
        simp only [List.take_zero, sumSz, List.drop_zero]
        rw [take_app hx]
        exact h1
      | succ i =>
        simp only [AVal.nth] at h
        obtain ⟨u, k1, k2, k3, k4⟩ := ih hf.2.2 h2 h
        refine ⟨u, by simpa using k1, k2, ?_, ?_⟩
        · simp only [List.take_succ_cons, sumSz]
          rw [← hx, List.drop_length_add_append]
          exact k3
        · simp only [List.take_succ_cons, sumSz, List.length_append, hx]
          omega
  | _ => intro ts cs i v _ _ h; simp [AVal.nth] at h

theorem setNth_ok (ht : TabOk P C.tt) : ∀ {p p' : AVal} {ts : List Nat} {cs vs : List Value} {i t : Nat} {v : AVal}, fits C.tt p ts = true → RL C σ p false cs → p.setNth i v = some p' → ts[i]? = some t → fit1 C.tt v t = true → RL C σ v false vs →
    fits C.tt p' ts = true ∧ RL C σ p' false (putAt cs (sumSz C.tt (ts.take i)) vs) := by
  intro p
  induction p with
  | pair a r _ ih =>
    intro p' ts cs vs i t v hf hr h ht' hv hrv
    simp only [RL] at hr
    obtain ⟨x, y, h1, h2, rfl⟩ := hr
    cases ts with
    | nil => simp [fits] at hf
    | cons u ts =>
      simp only [fits, Bool.and_eq_true, Bool.not_eq_true'] at hf
      have hx : x.length = szT C.tt u := by rw [RL.len ht hf.2.1 h1]; simp [sumSz]
      simp only [fit1, Bool.and_eq_true, Bool.not_eq_true'] at hv
      have hvs : vs.length = szT C.tt t := by rw [RL.len ht hv.2 hrv]; simp [sumSz]
      cases i with
      | zero =>
        simp only [AVal.setNth, Option.some.injEq] at h
        simp only [List.getElem?_cons_zero, Option.some.injEq] at ht'
        subst h
        subst ht'
        refine ⟨by simp [fits, hv.1, hv.2, hf.2.2], vs, y, hrv, h2, ?_⟩
        simp only [List.take_zero, sumSz]
        rw [putAt_app1 (by omega), putAt_all (by omega)]
      | succ i =>
        simp only [AVal.setNth] at h
        split at h
        · rename_i r' hr'
          cases h
          simp only [List.getElem?_cons_succ] at ht'
          obtain ⟨k1, k2⟩ := ih hf.2.2 h2 hr' ht' (by simp [fit1, hv.1, hv.2]) hrv
          refine ⟨by simp [fits, hf.1, hf.2.1, k1], x, _, h1, k2, ?_⟩
          simp only [List.take_succ_cons, sumSz]
          rw [putAt_app2 hx]
        · cases h
  | _ => intro p' ts cs vs i t v _ _ h; simp [AVal.setNth] at h

theorem setNth_list : ∀ {p p' : AVal} {i : Nat} {v : AVal}, p.setNth i v = some p' → p.isList = true → p'.isList = true := by
  intro p
  induction p with
  | pair a r _ ih =>
    intro p' i v h hl
    cases i with
    | zero => simp only [AVal.setNth, Option.some.injEq] at h; subst h; exact hl
    | succ i =>
      simp only [AVal.setNth] at h
      split at h
      · rename_i r' hr; cases h; show r'.isList = true; exact ih hr hl
      · cases h
  | _ => intro p' i v h; simp [AVal.setNth] at h

theorem set_put {l : List Value} {i : Nat} {c : Value} (h : i < l.length) : l.set i c = putAt l i [c] := by
  rw [List.set_eq_take_append_cons_drop, if_pos h]
  simp [putAt]

theorem tkOf_spec {v : AVal} {t : Tk} (h : tkOf v = some t) : v = tkA t := by
  unfold tkOf at h
  split at h
  · cases h; rfl
  · cases h

theorem Sq.set_ok {s s' : Sq} {i : Nat} {v : AVal} {vs : List Value} (hr : s.rng) (hi : i < s.len) (h : s.set i v = some s') (hv : RL C σ v false vs) :
    s'.rng ∧ s'.len = s.len ∧ s'.esz = s.esz ∧ s.like s' = true ∧ s'.cells = putAt s.cells (i * s.esz) vs := by
  cases s with
  | u8 l =>
    cases v <;> simp only [Sq.set] at h <;> try cases h
    rename_i k m
    cases k <;> simp only [Option.some.injEq, reduceCtorEq] at h
    subst h
    simp only [RL] at hv
    obtain ⟨hm, rfl⟩ := hv
    simp only [Sq.len] at hi
    refine ⟨trivial, by simp [Sq.len], rfl, rfl, ?_⟩
    simp only [Sq.cells, Sq.esz, Nat.mul_one, List.map_set]
    rw [u8_back hm, set_put (by simpa using hi)]
  | int k l =>
    cases v <;> simp only [Sq.set] at h <;> try cases h
    rename_i k' m
    split at h
    · rename_i hk
      cases h
      have := kindEq_spec hk
      subst this
      simp only [RL] at hv
      obtain ⟨hm, rfl⟩ := hv
      simp only [Sq.len] at hi
      refine ⟨fun x hx => ?_, by simp [Sq.len], rfl, kindEq_refl _, ?_⟩
      · rcases List.mem_or_eq_of_mem_set hx with hx | rfl
        · exact hr x hx
        · exact hm
      · simp only [Sq.cells, Sq.esz, Nat.mul_one, List.map_set]
        rw [set_put (by simpa using hi)]
    · cases h
  | str l =>
    cases v <;> simp only [Sq.set] at h <;> try cases h
    simp only [RL] at hv
    obtain ⟨hm, rfl⟩ := hv
    simp only [Sq.len] at hi
    refine ⟨fun x hx => ?_, by simp [Sq.len], rfl, rfl, ?_⟩
    · rcases List.mem_or_eq_of_mem_set hx with hx | rfl
      · exact hr x hx
      · exact hm
    · simp only [Sq.cells, Sq.esz, Nat.mul_one, List.map_set]
      rw [set_put (by simpa using hi)]
  | bool l =>
    cases v <;> simp only [Sq.set] at h <;> try cases h
    simp only [RL] at hv
    subst hv
    simp only [Sq.len] at hi
    refine ⟨trivial, by simp [Sq.len], rfl, rfl, ?_⟩
    simp only [Sq.cells, Sq.esz, Nat.mul_one, List.map_set]
    rw [set_put (by simpa using hi)]
  | tok l =>
    simp only [Sq.len] at hi
    simp only [Sq.set] at h
    split at h
    · rename_i tk htk
      cases h
      have hv0 := tkOf_spec htk
      subst hv0
      simp only [tkA] at hv
      simp only [RL] at hv
      obtain ⟨x1, y1, ⟨r1, rfl⟩, ⟨x2, y2, ⟨r2, rfl⟩, ⟨x3, y3, ⟨r3, rfl⟩, ⟨x4, y4, rfl, ⟨x5, y5, ⟨r5, rfl⟩, rfl, rfl⟩, rfl⟩, rfl⟩, rfl⟩, rfl⟩ := hv
      refine ⟨fun x hx => ?_, by simp [Sq.len], rfl, rfl, ?_⟩
      · rcases List.mem_or_eq_of_mem_set hx with hx | rfl
        · exact hr x hx
        · exact ⟨r1, r2, r3, r5⟩
      · simp only [Sq.cells, Sq.esz]
        clear hr
        induction l generalizing i with
        | nil => simp at hi
        | cons u r ih =>
          cases i with
          | zero =>
            simp only [List.set_cons_zero, List.flatMap_cons, Nat.zero_mul]
            rw [putAt_app1 (by simp [encTk]), putAt_all (by simp [encTk])]
            rfl
          | succ i =>
            simp only [List.set_cons_succ, List.flatMap_cons]
            rw [show (i + 1) * 5 = 5 + i * 5 by omega, putAt_app2 (by simp [encTk])]
            congr 1
            exact ih (by simpa using hi)
    · cases h

theorem like_trans {z s s' : Sq} (h : z.like s = true) (k : s.like s' = true) : z.like s' = true := by
  cases z <;> cases s <;> simp [Sq.like] at h <;> cases s' <;> simp [Sq.like] at k ⊢
  rw [kindEq_spec h]; exact k
theorem sqOk_like {tt : Tab} {e : Nat} {s s' : Sq} (h : sqOk tt e s = true) (k : s.like s' = true) : sqOk tt e s' = true := by
  unfold sqOk at *
  split at h
  · exact like_trans h k
  · cases h

theorem getP_ok (ht : TabOk P C.tt) : ∀ {p : List Stp} {v u : AVal} {t t' : Nat} {cs : List Value}, fit1 C.tt v t = true → RL C σ v false cs → getP v p = some u → tyP C.tt t p = some t' → pokP C.tt t p →
    fit1 C.tt u t' = true ∧ RL C σ u false ((cs.drop (offP C.tt t p)).take (szT C.tt t')) ∧ offP C.tt t p + szT C.tt t' ≤ cs.length
  | [], v, u, t, t', cs, hf, hr, hg, hty, _ => by
    simp only [getP, Option.some.injEq] at hg
    simp only [tyP, Option.some.injEq] at hty
    subst hg; subst hty
    have hl : cs.length = szT C.tt t := by
      simp only [fit1, Bool.and_eq_true] at hf
      rw [RL.len ht hf.2 hr]; simp [sumSz]
    refine ⟨hf, ?_, by simp [offP, hl]⟩
    simp only [offP, List.drop_zero]
    rw [← hl, List.take_length]
    exact hr
  | .f i :: r, v, u, t, t', cs, hf, hr, hg, hty, hpk => by
    cases v <;> simp only [getP] at hg <;> try cases hg
    rename_i q
    split at hg
    · rename_i x hx
      simp only [fit1, Bool.and_eq_true, fits] at hf
      have hf2 := hf.2
      split at hf2
      · rename_i fs sz bt eq he
        rw [Bool.and_eq_true] at hf2
        obtain ⟨hpl, hf2⟩ := hf2
        have hfa : fieldAt C.tt t i = fs[i]? := by simp [fieldAt, he]
        simp only [RL] at hr
        obtain ⟨ti, k1, k2, k3, k4⟩ := nth_ok ht hf2 hr hx
        rw [List.getElem?_map] at k1
        obtain ⟨⟨ti', o⟩, hfi, rfl⟩ := Option.map_eq_some_iff.1 k1
        have hk := (ht _ _ he).2
        simp only [KOk] at hk
        have ho := offs_ok hk.2.1 hfi
        rw [Nat.zero_add] at ho
        rw [← ho] at k3 k4
        simp only [tyP, hfa, hfi] at hty
        simp only [pokP, hfa, hfi] at hpk
        obtain ⟨m1, m2, m3⟩ := getP_ok ht k2 k3 hg hty hpk
        have hsub : ((cs.drop o).take (szT C.tt ti')).length = szT C.tt ti' := by simp; simp only at k4; omega
        refine ⟨m1, ?_, ?_⟩
        · simp only [offP, hfa, hfi]
          have := take_sub (l := cs) (a := o) (b := szT C.tt ti') (c := offP C.tt ti' r) (d := szT C.tt t') rfl (by rw [List.length_take, List.length_drop]; simp only at hsub m3; rw [hsub] at m3; rw [hsub]; omega)
          rw [this]
          exact m2
        · simp only [offP, hfa, hfi]
          simp only at hsub m3
          rw [hsub] at m3
          simp only at k4
          omega
      · cases hf2
    · cases hg
  | .x i :: r, v, u, t, t', cs, hf, hr, hg, hty, hpk => by
    cases v <;> simp only [getP] at hg <;> try cases hg
    rename_i m s
    simp only [fit1, Bool.and_eq_true, fits] at hf
    have hf2 := hf.2
    split at hf2
    · rename_i n' e sz bt eq he
      simp only [Bool.and_eq_true] at hf2
      simp only [RL] at hr
      obtain ⟨r1, r2, rfl⟩ := hr
      simp only [tyP, he] at hty
      simp only [pokP, he] at hpk
      have hn := Nat.eq_of_beq_eq_true hf2.1
      have hesz := sqOk_sz ht hf2.2
      have hi : i < s.len := by omega
      obtain ⟨us, g1, g2, g3⟩ := Sq.get_ok (C := C) (σ := σ) r2 hi
      have hfe := like_fits (i := i) hf2.2
      have hil : (s.get i).isList = false := by cases s <;> rfl
      obtain ⟨m1, m2, m3⟩ := getP_ok ht (by simp [fit1, hfe, hil]) g1 hg hty hpk.2
      have hlen := Sq.cells_len s
      have hle : i * s.esz + s.esz ≤ s.cells.length := by
        rw [hlen, ← Nat.succ_mul]; exact Nat.mul_le_mul_right _ hi
      refine ⟨m1, ?_, ?_⟩
      · simp only [offP, he, hesz]
        rw [← g2] at m2
        have := take_sub (l := s.cells) (a := i * s.esz) (b := s.esz) (c := offP C.tt e r) (d := szT C.tt t') rfl (by rw [g2, List.length_take, List.length_drop]; omega)
        rw [this]
        exact m2
      · simp only [offP, he, hesz]
        omega
    · cases hf2

theorem setP_ok (ht : TabOk P C.tt) : ∀ {p : List Stp} {v v' u : AVal} {t t' : Nat} {cs us : List Value}, fit1 C.tt v t = true → RL C σ v false cs → setP v p u = some v' → tyP C.tt t p = some t' → pokP C.tt t p → fit1 C.tt u t' = true → RL C σ u false us →
    fit1 C.tt v' t = true ∧ RL C σ v' false (putAt cs (offP C.tt t p) us) ∧ offP C.tt t p + us.length ≤ cs.length
  | [], v, v', u, t, t', cs, us, hf, hr, hg, hty, _, hu, hru => by
    simp only [setP, Option.some.injEq] at hg
    simp only [tyP, Option.some.injEq] at hty
    subst hg; subst hty
    have hl : cs.length = szT C.tt t := by
      simp only [fit1, Bool.and_eq_true] at hf
      rw [RL.len ht hf.2 hr]; simp [sumSz]
    have hl2 : us.length = szT C.tt t := by
      simp only [fit1, Bool.and_eq_true] at hu
      rw [RL.len ht hu.2 hru]; simp [sumSz]
    refine ⟨hu, ?_, by simp [offP, hl, hl2]⟩
    simp only [offP]
    rw [putAt_all (by omega)]
    exact hru
  | .f i :: r, v, v', u, t, t', cs, us, hf, hr, hg, hty, hpk, hu, hru => by
    cases v <;> simp only [setP] at hg <;> try cases hg
    rename_i q
    split at hg
    · rename_i x hx
      split at hg
      · rename_i x' hx'
        split at hg
        · rename_i q' hq'
          cases hg
          simp only [fit1, Bool.and_eq_true, fits] at hf
          have hf2 := hf.2
          split at hf2
          · rename_i fs sz bt eq he
            rw [Bool.and_eq_true] at hf2
            obtain ⟨hpl, hf2⟩ := hf2
            have hfa : fieldAt C.tt t i = fs[i]? := by simp [fieldAt, he]
            simp only [RL] at hr
            obtain ⟨ti, k1, k2, k3, k4⟩ := nth_ok ht hf2 hr hx
            have k1' := k1
            rw [List.getElem?_map] at k1
            obtain ⟨⟨ti', o⟩, hfi, rfl⟩ := Option.map_eq_some_iff.1 k1
            have hk := (ht _ _ he).2
            simp only [KOk] at hk
            have ho := offs_ok hk.2.1 hfi
            rw [Nat.zero_add] at ho
            rw [← ho] at k3 k4
            simp only [tyP, hfa, hfi] at hty
            simp only [pokP, hfa, hfi] at hpk
            obtain ⟨m1, m2, m3⟩ := setP_ok ht k2 k3 hx' hty hpk hu hru
            have hsub : ((cs.drop o).take (szT C.tt ti')).length = szT C.tt ti' := by simp; simp only at k4; omega
            obtain ⟨s1, s2⟩ := setNth_ok ht hf2 hr hq' k1' m1 m2
            rw [← ho, putAt_in m3] at s2
            refine ⟨by simp [fit1, AVal.isList, fits, he, s1, setNth_list hq' hpl], ?_, ?_⟩
            · simp only [offP, hfa, hfi, RL]
              exact s2
            · simp only [offP, hfa, hfi]
              simp only at hsub m3
              rw [hsub] at m3
              simp only at k4
              omega
          · cases hf2
        · cases hg
      · cases hg
    · cases hg
  | .x i :: r, v, v', u, t, t', cs, us, hf, hr, hg, hty, hpk, hu, hru => by
    cases v <;> simp only [setP] at hg <;> try cases hg
    rename_i m s
    split at hg
    · rename_i q hq
      split at hg
      · rename_i s' hs'
        cases hg
        simp only [fit1, Bool.and_eq_true, fits] at hf
        have hf2 := hf.2
        split at hf2
        · rename_i n' e sz bt eq he
          simp only [Bool.and_eq_true] at hf2
          simp only [RL] at hr
          obtain ⟨r1, r2, rfl⟩ := hr
          simp only [tyP, he] at hty
          simp only [pokP, he] at hpk
          have hn := Nat.eq_of_beq_eq_true hf2.1
          have hesz := sqOk_sz ht hf2.2
          have hi : i < s.len := by omega
          obtain ⟨gs, g1, g2, g3⟩ := Sq.get_ok (C := C) (σ := σ) r2 hi
          have hfe := like_fits (i := i) hf2.2
          have hil : (s.get i).isList = false := by cases s <;> rfl
          obtain ⟨m1, m2, m3⟩ := setP_ok ht (by simp [fit1, hfe, hil]) g1 hq hty hpk.2 hu hru
          obtain ⟨z1, z2, z3, z4, z5⟩ := Sq.set_ok r2 hi hs' m2
          have hlen := Sq.cells_len s
          have hle : i * s.esz + s.esz ≤ s.cells.length := by
            rw [hlen, ← Nat.succ_mul]; exact Nat.mul_le_mul_right _ hi
          refine ⟨by simp [fit1, AVal.isList, fits, he, hf2.1, sqOk_like hf2.2 z4], ?_, ?_⟩
          · simp only [offP, he, hesz]
            rw [← g2] at m3 z5
            rw [putAt_in m3] at z5
            exact ⟨by omega, z1, z5.symm⟩
          · simp only [offP, he, hesz]
            omega
        · cases hf2
      · cases hg
    · cases hg
end
end Go.Proofs.YtaakccdfgejgpaaGreatDoor.Abs
