/-
  Contracts of functions that change a row of the caller's in place.
-/
import Derived.Test.YtaakccdfgejgpaaGreatDoorAbsZc
namespace Go.Proofs.YtaakccdfgejgpaaGreatDoor.Abs
open Go
set_option linter.unusedVariables false

section
variable {P : Program} {C : Cfg} {X : List Ct}
theorem HR.reviveRow {F G : Nat → Prop} {w0 w w' : World} {σ : List Pl} {Hc : Heap} {b ver g e : Nat} {s s' : Sq} {pl : Pl} (h : HR C F G w0 σ (hset Hc b .dead) w') (h0 : HR C F G w0 σ Hc w)
    (hb : hget Hc b = .row ver g true e s) (hp : σ[b]? = some pl) (hg : pl.gen = g) (hrow : RowAt C w' pl true e s') : HR C F G w0 σ (hset Hc b (.row ver g true e s')) w' := by
  have hlt : b < Hc.length := hget_len (by rw [hb]; rfl)
  have get : ∀ x i, hget (hset Hc b x) i = if b = i then x else hget Hc i := fun x i => hget_set hlt i
  have live0 : ∀ i, (hget (hset Hc b (.row ver g true e s')) i).live = true → (hget Hc i).live = true := by
    intro i hi
    rw [get] at hi
    by_cases e : b = i
    · subst e; rw [hb]; rfl
    · rwa [if_neg e] at hi
  have own0 : ∀ i, (hget (hset Hc b (.row ver g true e s')) i).own = true → (hget Hc i).own = true := by
    intro i hi
    rw [get] at hi
    by_cases e : b = i
    · subst e; rw [hb]; rfl
    · rwa [if_neg e] at hi
  refine ⟨h.bx, by rw [hset_len]; exact h0.len, fun i p hi => ?_, fun i p c o hi hl ha => ?_, fun i p j q c o c' o' hne hi hj hpi hqj ha ha' => h0.apart i p j q c o c' o' hne (own0 i hi) (live0 j hj) hpi hqj ha ha', h.gl⟩
  · rw [get]
    by_cases e : b = i
    · subst e
      rw [if_pos rfl]
      rw [hp] at hi
      cases hi
      exact ⟨hg, hrow⟩
    · rw [if_neg e]
      have := h.blk i p hi
      rwa [get, if_neg e] at this
  · by_cases e : b = i
    · subst e
      rw [hp] at hi
      cases hi
      obtain ⟨m1, m2, m3⟩ := h0.mine b pl c o hp (live0 b hl) ha
      refine ⟨?_, fun _ => m2 (by rw [hb]; rfl), m3⟩
      have := hrow.2.2.2.2.2.2.2.2
      rw [ha] at this
      obtain ⟨cl, T, fz, hc, _⟩ := this
      exact (Array.getElem?_eq_some_iff.1 hc).1
    · have hl' : (hget (hset Hc b .dead) i).live = true := by
        rw [get, if_neg e] at hl
        rw [get, if_neg e]; exact hl
      obtain ⟨m1, m2, m3⟩ := h.mine i p c o hi hl' ha
      refine ⟨m1, fun ho => m2 ?_, m3⟩
      rw [get, if_neg e] at ho
      rw [get, if_neg e]; exact ho

/-- The call of a function that changes its one row of bytes in place. -/
def inpRun (e0 : Nat) (m : Nat → List UInt8 → Option (List UInt8)) {R : Type} (k : Nat) (args : List AVal) (H : Heap) (n : Nat) (K : AVal → List (Nat × Blk) → List Blk → List Nat → Option R) : Option R := match args with
  | [.slice b g .all] => match hget H b with
    | .row ver g' true e (.u8 l) => match Nat.beq g g' with
      | true => match Nat.beq e e0 with
        | true => bindO (m k l) fun l' => K (.tup .nil) [(b, .row ver g' true e (.u8 l'))] [] [b]
        | false => none
      | false => none
    | _ => none
  | _ => none
theorem inp_snd (hC : CfgOk P C) (hm : P.follows .mixedOrders = true) {f n : Nat} {c : ACode} {rs : List ResultVar} (hf : FnOk P C f n c rs) {e0 t : Nat} {ts : List Nat} {m : Nat → List UInt8 → Option (List UInt8)} {decB : AVal → Heap → Option (List UInt8)}
    (hB : ∀ v H l, decB v H = some l → v = .tup .nil ∧ ∃ ver e, H = [.row ver 1 true e (.u8 l)]) (hps : Nat.ble 1 n = true)
    (k : Nat) (hX : ∀ k', k' < k → ∀ ct ∈ X, Snd P C k' ct) (hrun : ∀ l, run C X n 1 c (kEnd C.tt rs (kFin C.tt 1 false ts [] [] decB)) k 0 (argFr 0 [.slice 0 1 .all]) [.row 0 1 true e0 (.u8 l)] = m k l) : Snd P C k ⟨f, inpRun e0 m⟩ := by
  obtain ⟨fn, f1, f2, f3, f4⟩ := hf.fn
  intro R args H n' K r h
  replace h : inpRun e0 m k args H n' K = some r := h
  unfold inpRun at h
  split at h
  · rename_i b g
    split at h
    · rename_i ver g' e l hb
      split at h
      · rename_i hg
        have hg := Nat.eq_of_beq_eq_true hg
        subst hg
        split at h
        case h_2 => cases h
        rename_i he0
        have he0 := Nat.eq_of_beq_eq_true he0
        subst he0
        cases hmk : m k l with
        | none => rw [hmk] at h; cases h
        | some l' =>
          rw [hmk] at h
          simp only [bindO] at h
          have hrun' := hrun l
          rw [hmk] at hrun'
          refine ⟨_, _, _, _, h, fun i hi => (by simp only [List.mem_singleton] at hi; subst hi; rw [hb]; rfl), fun x hx => (by simp only [List.mem_singleton] at hx; subst hx; simp), ?_⟩
          intro F G w0 σ Hc w cs hag hfree hh hv
          have hbc : hget Hc b = .row ver g true e (.u8 l) := by rw [hag b (List.mem_singleton.2 rfl)]; exact hb
          have hview : viewL C.tt H [(t, true)] [.slice b g .all] [] [] = some ([.slice 0 1 .all], [.row 0 1 true e (.u8 l)], [.own b]) := by
            simp only [viewL, viewV, hb, Nat.beq_refl, pre, vw, List.nil_append, List.length_nil]
          obtain ⟨_, _, hvl⟩ := viewL_ok hC.tab hh hview
          obtain ⟨σ0, hs, hvs⟩ := hvl (by simpa [srcIds, Src.id] using hag) (σ0 := []) (cs := cs) ⟨rfl, rfl, fun j s hj => by cases hj⟩ hv
          rw [List.nil_append] at hs hvs
          have hok : ssOk [Src.own b] = true := by simp [ssOk, apartL, srcIds, Src.mine, natIn]
          have hent := VS.enter hh hs hok
          refine .inl ⟨hf.enters, ?_⟩
          refine (fn_ok hC hm f1 f2 f3 f4 (Nat.le_of_ble_eq_true hf.few) hf.labels hX (by simpa using Nat.le_of_ble_eq_true hps) hrun' hent hvs).mono ?_
          rintro ed w' ⟨x, v1, H1, σ1, rfl, k1, k2, k3, k4⟩
          obtain ⟨σ2, v2, H2, p1, p2, p3, p4, p5, p6⟩ := kFin_ok hC.tab k4 k3 k2
          obtain ⟨rfl, ver2, e2, rfl⟩ := hB v2 H2 l' p5
          obtain ⟨r1, r2, r3, r4⟩ := VS.leave (kp := false) hh hs hok p2 (k1.trans p1) rfl p4 (vars := []) (fun j T u hj => by cases hj) (n := n') (by rfl) (bs := [(b, .dead)]) rfl (fun hk => by cases hk) hfree
          have hσ : setL σ n' (σ2.drop 1) = σ := by
            have : σ2.drop 1 = [] := by
              have := p2.len
              rw [List.drop_eq_nil_iff, this]; simp
            rw [this]; rfl
          rw [hσ] at r1 r2
          have r2 : HR C F G w0 σ (hset Hc b .dead) w' := r2
          obtain ⟨q0, a1, a2, a3, a4, pl, a5, a6⟩ := hs.at_ 0 _ rfl
          obtain ⟨q2, b1, b2, b3⟩ := (k1.trans p1) 0 (by decide) q0 a1
          have c1 := p2.blk 0 q2 b1
          have hq : q2 = q0 := by
            refine b3 ?_
            have : q2.gen = 1 := c1.1
            rw [this, a3]
          subst hq
          have c2 := a2.2
          have c3 := hh.blk b pl a5
          rw [hbc] at c3
          obtain ⟨c3g, c3⟩ := c3
          obtain ⟨_, c1⟩ := c1
          obtain ⟨d1, d2, d3, d4, d5, d6, d7, d8, d9⟩ := c1
          obtain ⟨f1, f2, f3, f4, f5, f6, f7, f8, f9⟩ := c3
          obtain ⟨g1, g2, g3, g4, g5, g6, g7, g8, g9⟩ := c2
          have hroom : pl.room = q2.room := by
            cases hat : q2.at_ with
            | none =>
              rw [hat] at g9
              rw [← a6, hat] at f9
              simp only at g9 f9
              omega
            | some co =>
              obtain ⟨cc, o⟩ := co
              rw [hat] at g9
              rw [← a6, hat] at f9
              simp only at g9 f9
              obtain ⟨cl, T, fz, u1, _, u3⟩ := g9
              obtain ⟨cl', T', fz', v1, _, v3⟩ := f9
              rw [u1] at v1
              simp only [Option.some.injEq, Obj.cells.injEq] at v1
              have hl : cl.length = cl'.length := by
                have := congrArg Array.size v1.1
                simpa using this
              have u4 := (u3 trivial).2.1
              have v4 := (v3 trivial).2.1
              have g4 : q2.esz = 1 := g4
              have f4 : pl.esz = 1 := f4
              rw [g4] at u4
              rw [f4] at v4
              omega
          have he : e2 = e := by rw [← d3, g3]
          subst he
          refine ⟨x, rfl, σ, r1, ?_, ?_⟩
          · refine HR.reviveRow r2 hh hbc a5 c3g ⟨f1, ?_, f3, f4, d5, d6, ?_, d8, ?_⟩
            · have h1 : pl.n = l.length := f2
              have h2 : q2.n = l.length := g2
              have h3 : q2.n = l'.length := d2
              show pl.n = l'.length
              omega
            · rw [hroom]; exact d7
            · rw [← a6]
              cases hat : q2.at_ with
              | none => rw [hat] at d9; simp only at d9 ⊢; omega
              | some co =>
                obtain ⟨cc, o⟩ := co
                rw [hat] at d9
                simp only at d9 ⊢
                obtain ⟨cl, T, fz, u1, u2, u3⟩ := d9
                have f4 : pl.esz = 1 := f4
                have d4 : q2.esz = 1 := d4
                refine ⟨cl, T, fz, u1, u2, fun hh => ?_⟩
                obtain ⟨w1, w2, w3⟩ := u3 hh
                exact ⟨w1, by rw [hroom, f4, ← d4]; exact w2, w3⟩
          · simp only [RL] at p3 ⊢
            exact p3
      · cases h
    · cases h
  · cases h
end
end Go.Proofs.YtaakccdfgejgpaaGreatDoor.Abs
