/-
  From functions to contracts: the theorem.
-/
import Derived.Test.YtaakccdfgejgpaaGreatDoorAbsY
namespace Go.Proofs.YtaakccdfgejgpaaGreatDoor.Abs
open Go
set_option linter.unusedVariables false

theorem viewV_live {tt : Tab} {H : Heap} {own : Bool} : ∀ (d : Nat) {v : AVal} {ts : List Nat} {H0 : Heap} {ss : List Src} {v' : AVal} {H1 : Heap} {s1 : List Src}, viewV tt H own d v ts H0 ss = some (v', H1, s1) → ∀ b ∈ srcIds s1, b ∈ srcIds ss ∨ (hget H b).live = true := by
  intro d
  induction d with
  | zero => intro v ts H0 ss v' H1 s1 h; cases h
  | succ d ih =>
    intro v ts H0 ss v' H1 s1 h b hb
    cases v with
    | pair a r =>
      simp only [viewV] at h
      split at h
      · rename_i h1
        split at h
        · rename_i h2
          cases h
          rcases ih h2 b hb with h | h
          · exact ih h1 b h
          · exact .inr h
        · cases h
      · cases h
    | agg p =>
      simp only [viewV] at h
      split at h
      · rename_i h1; cases h; exact ih h1 b hb
      · cases h
    | tup p => simp only [viewV] at h; cases h
    | fn f a c =>
      simp only [viewV] at h
      split at h
      · rename_i h1
        split at h
        · rename_i h2
          cases h
          rcases ih h2 b hb with h | h
          · exact ih h1 b h
          · exact .inr h
        · cases h
      · cases h
    | nils =>
      simp only [viewV] at h
      split at h
      · split at h
        · cases h
          rw [srcIds_app] at hb
          exact .inl ((List.mem_append.1 hb).resolve_right (by cases own <;> simp [srcIds, Src.id]))
        · cases h
      · cases h
    | slice i g u =>
      simp only [viewV] at h
      split at h
      · rename_i hr
        have hl : (hget H i).live = true := by rw [hr]; rfl
        have key : ∀ s : Src, s.id = [i] → b ∈ srcIds (ss ++ [s]) → b ∈ srcIds ss ∨ (hget H b).live = true := by
          intro s hs hb
          rw [srcIds_app] at hb
          rcases List.mem_append.1 hb with hb | hb
          · exact .inl hb
          · simp only [srcIds, hs, List.append_nil, List.mem_singleton] at hb
            subst hb; exact .inr hl
        split at h
        · cases h; exact key _ rfl hb
        · split at h
          · cases h; exact key _ rfl hb
          · cases h
        · cases h
      · cases h
    | ptr i g p =>
      simp only [viewV] at h
      split at h
      · rename_i hr
        have hl : (hget H i).live = true := by rw [hr]; rfl
        split at h
        · rename_i h1
          split at h
          · cases h
            rw [srcIds_app] at hb
            rcases List.mem_append.1 hb with hb | hb
            · exact ih h1 b hb
            · simp only [srcIds, Src.id, List.append_nil, List.mem_singleton] at hb
              subst hb; exact .inr hl
          · cases h
        · cases h
      · cases h
    | undef => cases h; exact .inl hb
    | bool _ => cases h; exact .inl hb
    | int _ _ => cases h; exact .inl hb
    | str _ => cases h; exact .inl hb
    | err _ => cases h; exact .inl hb
    | nilp => cases h; exact .inl hb
    | nilfn => cases h; exact .inl hb
    | nil => cases h; exact .inl hb
    | arr _ _ => cases h; exact .inl hb
theorem viewL_live {tt : Tab} {H : Heap} : ∀ {ps : List (Nat × Bool)} {vs : List AVal} {H0 : Heap} {ss : List Src} {l : List AVal} {H1 : Heap} {s1 : List Src}, viewL tt H ps vs H0 ss = some (l, H1, s1) → ∀ b ∈ srcIds s1, b ∈ srcIds ss ∨ (hget H b).live = true
  | [], [], H0, ss, l, H1, s1, h, b, hb => by cases h; exact .inl hb
  | (t, own) :: r, v :: vs, H0, ss, l, H1, s1, h, b, hb => by
    unfold viewL at h
    split at h
    · rename_i h1
      split at h
      · rename_i h2
        cases h
        rcases viewL_live h2 b hb with h | h
        · exact viewV_live 40 h1 b h
        · exact .inr h
      · cases h
    · cases h
  | [], _ :: _, _, _, _, _, _, h, _, _ => by cases h
  | _ :: _, [], _, _, _, _, _, h, _, _ => by cases h
theorem viewL_len {tt : Tab} {H : Heap} : ∀ {ps : List (Nat × Bool)} {vs : List AVal} {H0 : Heap} {ss : List Src} {l : List AVal} {H1 : Heap} {s1 : List Src}, viewL tt H ps vs H0 ss = some (l, H1, s1) → l.length = ps.length
  | [], [], H0, ss, l, H1, s1, h => by cases h; rfl
  | (t, own) :: r, v :: vs, H0, ss, l, H1, s1, h => by
    unfold viewL at h
    split at h
    · split at h
      · rename_i h2
        cases h
        simp [viewL_len h2]
      · cases h
    · cases h
  | [], _ :: _, _, _, _, _, _, h => by cases h
  | _ :: _, [], _, _, _, _, _, h => by cases h

section
variable {P : Program} {C : Cfg} {X : List Ct}

theorem kFin_ok (ht : TabOk P C.tt) {β : Type} {np : Nat} {kp : Bool} {ts vps vws : List Nat} {decB : AVal → Heap → Option β} {F G : Nat → Prop} {w0 w : World} {σ : List Pl} {H : Heap} {v : AVal} {c : Value} {b : β} (h : kFin C.tt np kp ts vps vws decB v H = some b) (hh : HR C F G w0 σ H w) (hv : VR C σ v c) :
    ∃ σ' v' H', Lp np σ σ' ∧ HR C F G w0 σ' H' w ∧ VR C σ' v' c ∧ np ≤ H'.length ∧ decB v' H' = some b ∧ (kp = true → rowsAt H' vws = true) := by
  unfold kFin at h
  split at h
  · rename_i v' H' he
    obtain ⟨σ', k1, k2, k3, k4⟩ := canE_ok ht he hh hv
    split at h
    · cases h
    · rename_i hne
      refine ⟨σ', v', H', k1, k2, k3, k4, h, fun hk => ?_⟩
      cases hr : rowsAt H' vws with
      | true => rfl
      | false => exact absurd hr (hne hk)
  · cases h

/-- What the generator has to show of a function. -/
structure FnOk (P : Program) (C : Cfg) (f n : Nat) (c : ACode) (rs : List ResultVar) : Prop where
  fn : ∃ fn : Func, P.funcs[f]? = some fn ∧ fn.body = some c.erase ∧ fn.ntmps = n ∧ fn.results = rs.toArray
  enters : entersB P f = true
  labels : nodupL (0 :: labels c) = true
  few : Nat.ble rs.length 4 = true

theorem fn_snd (hC : CfgOk P C) (hm : P.follows .mixedOrders = true) {f n : Nat} {c : ACode} {rs : List ResultVar} (hf : FnOk P C f n c rs) {α β : Type} {np : Nat} {kp : Bool} {ts vps vws : List Nat} {ps : List (Nat × Bool)} {decA : List AVal → Heap → Option α} {encA : α → List AVal × Heap} {m : Nat → α → Option β} {decB : AVal → Heap → Option β} {encB : β → Out} {encK : EncK β} (hK : ∀ R b K, encK R b K = K (encB b))
    (hA : ∀ xs H a, decA xs H = some a → (encA a).1 = xs ∧ (encA a).2 = H ∧ H.length = np ∧ viewsIn vws 0 H = true) (hB : BackOk np vps decB encB) (hps : Nat.ble ps.length n = true)
    (k : Nat) (hX : ∀ k', k' < k → ∀ ct ∈ X, Snd P C k' ct) (hrun : ∀ a, run C X n np c (kEnd C.tt rs (kFin C.tt np kp ts vps vws decB)) k 0 (argFr 0 (encA a).1) (encA a).2 = m k a) : Snd P C k ⟨f, callRun C.tt ps decA m kp encK⟩ := by
  obtain ⟨fn, f1, f2, f3, f4⟩ := hf.fn
  intro R args H n' K r h
  have h : callRun C.tt ps decA m kp encK k args H n' K = some r := h
  unfold callRun at h
  split at h
  · cases h
  · rename_i xs H0 ss hview
    split at h
    · rename_i a hok hdec
      obtain ⟨e1, e2, e3, e4⟩ := hA xs H0 a hdec
      cases hmk : m k a with
      | none => rw [hmk] at h; cases h
      | some b =>
        rw [hmk] at h
        simp only [bindO] at h
        rw [hK] at h
        split at h
        · rename_i v bs htr hback hflat
          have hrun' := hrun a
          rw [hmk, e1, e2] at hrun'
          have hlenxs := viewL_len hview
          refine ⟨v, bs, (encB b).2.2, srcIds ss, h, ?_⟩
          obtain ⟨b1, _, _⟩ := back_spec hback
          have hmine : ∀ x ∈ bs, x.1 ∈ srcIds ss := by
            intro x hx
            obtain ⟨j, s, hj, hc⟩ := b1 x hx
            refine mem_srcIds.2 ⟨s, List.mem_of_getElem? hj, ?_⟩
            rcases hc with ⟨rfl, _⟩ | ⟨rfl, _⟩ <;> simp [Src.id]
          refine ⟨fun i hi => (viewL_live hview i hi).resolve_left (by simp [srcIds]), hmine, ?_⟩
          intro F G w0 σ Hc w cs hag hfree hh hv
          obtain ⟨_, _, hvl⟩ := viewL_ok hC.tab hh hview
          obtain ⟨σ0, hs, hvs⟩ := hvl hag (σ0 := []) (cs := cs) ⟨rfl, rfl, fun j s hj => by cases hj⟩ hv
          rw [List.nil_append] at hs hvs
          have hnp : ss.length = np := by rw [hs.len2]; exact e3
          have hent := VS.enter hh hs hok
          refine .inl ⟨hf.enters, ?_⟩
          refine (fn_ok hC hm f1 f2 f3 f4 (Nat.le_of_ble_eq_true hf.few) hf.labels hX (by rw [hlenxs]; exact Nat.le_of_ble_eq_true hps) hrun' hent hvs).mono ?_
          rintro e w' ⟨x, v1, H1, σ1, rfl, k1, k2, k3, k4⟩
          obtain ⟨σ2, v2, H2, p1, p2, p3, p4, p5, p6⟩ := kFin_ok hC.tab k4 k3 k2
          obtain ⟨q1, q2, q3⟩ := hB v2 H2 b p5
          subst hnp
          rw [← q3] at hflat hfree
          obtain ⟨r1, r2, r3, r4⟩ := VS.leave hh hs hok p2 (k1.trans p1) rfl p4 q2 hflat hback (fun hk j hj => by
            have hno : (hget H0 j).own = false ∧ j < H0.length := by
              rcases hj with ⟨b, g, u, hj⟩ | hj
              · obtain ⟨_, _, _, _, hsrc⟩ := hs.at_ j _ hj
                exact ⟨hsrc.2.1, by rw [← hs.len2]; exact (List.getElem?_eq_some_iff.1 hj).1⟩
              · obtain ⟨_, _, _, _, hsrc⟩ := hs.at_ j _ hj
                exact ⟨hsrc.1, by rw [← hs.len2]; exact (List.getElem?_eq_some_iff.1 hj).1⟩
            have := viewsIn_spec e4 j hno.2 hno.1
            rw [Nat.zero_add] at this
            exact rowsAt_spec (p6 hk) j this) hfree
          rw [← q3]
          refine ⟨x, rfl, _, r1, r2, ?_⟩
          rw [q1] at htr
          exact RL.tr r3 htr (fun j _ hge => r4 j hge) p3
        · cases h
    · cases h
end
end Go.Proofs.YtaakccdfgejgpaaGreatDoor.Abs
