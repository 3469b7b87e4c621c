/-
  Regions that draw their order: the theorem.
-/
import Derived.Test.YtaakccdfgejgpaaGreatDoorAbsR
namespace Go.Proofs.YtaakccdfgejgpaaGreatDoor.Abs
open Go
set_option linter.unusedVariables false

theorem natIn_spec {x : Nat} {l : List Nat} : natIn x l = true ↔ x ∈ l := by
  unfold natIn
  rw [List.any_eq_true]
  constructor
  · rintro ⟨y, hy, h⟩; rw [Nat.eq_of_beq_eq_true h]; exact hy
  · intro h; exact ⟨x, h, Nat.beq_refl x⟩
theorem apartL_spec {l m : List Nat} (h : apartL l m = true) {b : Nat} (hl : b ∈ l) (hm : b ∈ m) : False := by
  unfold apartL at h
  rw [List.all_eq_true] at h
  have := h b hl
  rw [natIn_spec.2 hm] at this
  cases this

def keepF (l : List Nat) : Fr → Fr
  | [] => []
  | (j, v) :: r => match natIn j l with
    | true => (j, v) :: keepF l r
    | false => keepF l r
theorem look_keep {l : List Nat} {s : Nat} : ∀ {fr : Fr}, look (keepF l fr) s = if natIn s l = true then look fr s else none
  | [] => by simp [keepF, look]
  | (j, v) :: r => by
    have ih := look_keep (l := l) (s := s) (fr := r)
    unfold keepF
    split
    · rename_i hj
      rw [look_cons, look_cons, ih]
      by_cases e : j = s
      · subst e; rw [if_pos rfl, if_pos hj, if_pos rfl]
      · rw [if_neg e, if_neg e]
    · rename_i hj
      rw [ih, look_cons]
      by_cases e : j = s
      · subst e; rw [if_neg (by rw [hj]; simp), if_neg (by rw [hj]; simp)]
      · rw [if_neg e]
theorem mem_tmps {t : Nat} : ∀ {l : List Operand}, Operand.tmp t ∈ l → t ∈ tmps l
  | x :: r, h => by
    rcases List.mem_cons.1 h with rfl | h
    · exact List.mem_cons_self
    · have := mem_tmps h
      cases x <;> simp only [tmps] <;> first | exact List.mem_cons_of_mem _ this | exact this

section
variable {P : Program} {E : Env} {n : Nat} {ds : List Deferred} {fr : Fr} {a : Act} {w w0 : World} {F G : Nat → Prop} {H : Heap} {Q : Exit → Act → World → Prop} {ops : List Oper} {t : Trc}

theorem ev_keep {o : Oper} (f : Fr) {x : Operand} (hx : x ∈ opnds o.op) : ev f x = ev (keepF (slots ops o) f) x := by
  cases x with
  | tmp s =>
    have hs : s ∈ slots ops o := List.mem_append_right _ (mem_tmps hx)
    simp only [ev]
    rw [look_keep, if_pos (natIn_spec.2 hs)]
  | const v => rfl
  | global g => rfl
  | func f => rfl
theorem gd_keep {o : Oper} (f : Fr) : gdV ops f o = gdV ops (keepF (slots ops o) f) o := by
  unfold gdV
  split
  · rfl
  · rename_i j want hg
    split
    · rfl
    · rename_i oj hj
      split
      · rfl
      · rename_i d hd
        have hs : d ∈ slots ops o := by
          unfold slots
          refine List.mem_append_left _ ?_
          unfold gslot
          rw [hg]
          simp only [hj, hd]
          exact List.mem_cons_self
        rw [look_keep, if_pos (natIn_spec.2 hs)]

/-- What a step does to memory. -/
theorem step_mem {i : Nat} {o : Oper} (h : t.at_ P E n ops i o) : (t.H i).length ≤ (t.H (i + 1)).length ∧ (∀ b, ¬ 2 * b ∈ t.T i → hget (t.H (i + 1)) b = hget (t.H i) b) ∧ (∀ b, 2 * b ∈ t.T i → b < (t.H (i + 1)).length) ∧ (∀ b, (t.H i).length ≤ b → b < (t.H (i + 1)).length → 2 * b ∈ t.T i) := by
  obtain ⟨_, h1, h2, _⟩ := h
  have key : ∀ (bs : List (Nat × Blk)) (ns : List Blk), t.H (i + 1) = appl (t.H i) bs ++ ns → (∀ b, 2 * b ∈ t.T i ↔ b ∈ fsts bs ++ range (t.H i).length ns.length) → (∀ x ∈ bs, x.1 < (t.H i).length) →
      (t.H i).length ≤ (t.H (i + 1)).length ∧ (∀ b, ¬ 2 * b ∈ t.T i → hget (t.H (i + 1)) b = hget (t.H i) b) ∧ (∀ b, 2 * b ∈ t.T i → b < (t.H (i + 1)).length) ∧ (∀ b, (t.H i).length ≤ b → b < (t.H (i + 1)).length → 2 * b ∈ t.T i) := by
    intro bs ns e1 e2 e3
    have hl : (t.H (i + 1)).length = (t.H i).length + ns.length := by rw [e1, List.length_append, appl_len]
    refine ⟨by omega, fun b hb => ?_, fun b hb => ?_, fun b h1 h2 => ?_⟩
    · rw [e2, List.mem_append, mem_range] at hb
      rw [e1, hget_app, appl_len]
      by_cases hlt : b < (t.H i).length
      · rw [if_pos hlt]
        exact appl_other bs (fun h => hb (.inl h))
      · rw [if_neg hlt, hget_ge (by omega), hget_ge (by omega)]
    · rw [e2, List.mem_append, mem_range] at hb
      rcases hb with hb | hb
      · obtain ⟨x, hx, rfl⟩ := mem_fsts.1 hb
        have := e3 x hx; omega
      · omega
    · rw [e2, List.mem_append, mem_range]; right; omega
  cases hW : t.W i with
  | true =>
    have hd := h1 hW
    generalize t.D i = D at hd
    generalize hT : t.T i = T at hd
    generalize hV : t.V i = V at hd
    generalize hH : t.H (i + 1) = H' at hd
    cases hd with
    | val h => exact key [] [] (by simp [appl, hH]) (fun b => by simp [fsts, range, hT]) (by simp) |> fun h => by rw [hH, hT] at h; exact h
    | red h => exact key [] [] (by simp [appl, hH]) (fun b => by simp [fsts, range, hT]) (by simp) |> fun h => by rw [hH, hT] at h; exact h
    | upd h => rename_i b blk; exact key [(b, blk)] [] (by simp [appl, hH]) (fun i => by rw [hT, mem_touchU.1]; simp [fsts, range]) (by simpa using hget_len (upd_live h)) |> fun h => by rw [hH, hT] at h; exact h
    | new h hi => rename_i p blk; exact key [] [blk] (by simp [appl, hH]) (fun i => by rw [hT, mem_touchA.1]; simp [fsts, range]) (by simp) |> fun h => by rw [hH, hT] at h; exact h
    | call ho hx hu h1 h2 hc => rename_i bs ns D0; exact key bs ns hH (fun b => by rw [hT]; exact mem_touchA.1) (fun x hx => hget_len (hc.live _ (hc.upd x hx))) |> fun h => by rw [hH, hT] at h; exact h
  | false =>
    obtain ⟨_, _, e1, e2⟩ := h2 hW
    exact key [] [] (by simp [appl, e2]) (fun b => by simp [fsts, range, e1]) (by simp)

/-- What a step does to shapes. -/
theorem step_shp {i : Nat} {o : Oper} (h : t.at_ P E n ops i o) : (∀ b, ¬ 2 * b + 1 ∈ t.T i → (hget (t.H (i + 1)) b).shp = (hget (t.H i) b).shp) ∧ (∀ b, 2 * b + 1 ∈ t.T i → 2 * b ∈ t.T i) := by
  have hm := step_mem h
  obtain ⟨_, h1, h2, _⟩ := h
  have all : ∀ l : List Nat, t.T i = touchA l → (∀ b, ¬ 2 * b + 1 ∈ t.T i → (hget (t.H (i + 1)) b).shp = (hget (t.H i) b).shp) ∧ (∀ b, 2 * b + 1 ∈ t.T i → 2 * b ∈ t.T i) := by
    intro l e
    refine ⟨fun b hb => congrArg Blk.shp (hm.2.1 b fun hh => hb ?_), fun b hb => ?_⟩
    · rw [e] at hh ⊢; rw [mem_touchA.1] at hh; exact mem_touchA.2.2 hh
    · rw [e] at hb ⊢; rw [mem_touchA.2] at hb; exact mem_touchA.1.2 hb
  cases hW : t.W i with
  | true =>
    have hd := h1 hW
    generalize t.D i = D at hd
    generalize hT : t.T i = T at hd
    generalize hV : t.V i = V at hd
    generalize hH : t.H (i + 1) = H' at hd
    cases hd with
    | val h => have := all [] (by rw [hT]; rfl); rw [hT, hH] at this; exact this
    | red h => have := all [] (by rw [hT]; rfl); rw [hT, hH] at this; exact this
    | upd h =>
      rename_i b blk
      have hlt := hget_len (upd_live h)
      refine ⟨fun j hj => ?_, fun j hj => mem_touchU.1.2 (mem_touchU.2.1 hj)⟩
      rw [hget_set hlt]
      by_cases e : b = j
      · subst e
        rw [if_pos rfl]
        cases hs : isStore o.op with
        | true => exact store_shp h hs
        | false => exact absurd (mem_touchU.2.2 hs rfl) hj
      · rw [if_neg e]
    | new h hi => have := all [(t.H i).length] (by rw [hT]); rw [hT, hH] at this; exact this
    | call ho hx hu h1 h2 hc => have := all _ hT; rw [hT, hH] at this; exact this
  | false =>
    obtain ⟨_, _, e1, e2⟩ := h2 hW
    exact all [] (by rw [e1]; rfl)

theorem len_mono (ht : ∀ (j : Nat) (o : Oper), ops[j]? = some o → t.at_ P E n ops j o) : ∀ (k i : Nat), i + k ≤ ops.length → (t.H i).length ≤ (t.H (i + k)).length
  | 0, i, _ => Nat.le_refl _
  | k + 1, i, h => by
    have h1 := len_mono ht k i (by omega)
    have h2 := (step_mem (ht (i + k) _ (List.getElem?_eq_getElem (by omega)))).1
    rw [← Nat.add_assoc]; omega
theorem same_mem (ht : ∀ (j : Nat) (o : Oper), ops[j]? = some o → t.at_ P E n ops j o) {b : Nat} : ∀ (k i : Nat), i + k ≤ ops.length → (∀ e, i ≤ e → e < i + k → ¬ 2 * b ∈ t.T e) → hget (t.H (i + k)) b = hget (t.H i) b
  | 0, i, _, _ => rfl
  | k + 1, i, h, hb => by
    have h1 := same_mem ht k i (by omega) (fun e h1 h2 => hb e h1 (by omega))
    have h2 := (step_mem (ht (i + k) _ (List.getElem?_eq_getElem (by omega)))).2.1 b (hb (i + k) (by omega) (by omega))
    rw [← Nat.add_assoc, h2, h1]
theorem same_shp (ht : ∀ (j : Nat) (o : Oper), ops[j]? = some o → t.at_ P E n ops j o) {b : Nat} : ∀ (k i : Nat), i + k ≤ ops.length → (∀ e, i ≤ e → e < i + k → ¬ 2 * b + 1 ∈ t.T e) → (hget (t.H (i + k)) b).shp = (hget (t.H i) b).shp
  | 0, i, _, _ => rfl
  | k + 1, i, h, hb => by
    have h1 := same_shp ht k i (by omega) (fun e h1 h2 => hb e h1 (by omega))
    have h2 := (step_shp (ht (i + k) _ (List.getElem?_eq_getElem (by omega)))).1 b (hb (i + k) (by omega) (by omega))
    rw [← Nat.add_assoc, h2, h1]
theorem touch_lt (ht : ∀ (j : Nat) (o : Oper), ops[j]? = some o → t.at_ P E n ops j o) {b e i : Nat} (he : e < i) (hi : i ≤ ops.length) (hb : 2 * b ∈ t.T e) : b < (t.H i).length := by
  have h1 := (step_mem (ht e _ (List.getElem?_eq_getElem (by omega)))).2.2.1 b hb
  have h2 := len_mono ht (i - (e + 1)) (e + 1) (by omega)
  rw [show e + 1 + (i - (e + 1)) = i by omega] at h2
  omega

/-- Where a slot's value comes from. -/
theorem slot_from (ht : ∀ (j : Nat) (o : Oper), ops[j]? = some o → t.at_ P E n ops j o) (h0 : Sub (t.F 0) fr) : ∀ (i : Nat), i ≤ ops.length → ∀ s v, look (t.F i) s = some v →
    (∃ j o, j < i ∧ ops[j]? = some o ∧ o.dst = some s ∧ t.V j = v) ∨ ((∀ (j : Nat) (o : Oper), j < i → ops[j]? = some o → o.dst ≠ some s) ∧ look fr s = some v)
  | 0, _, s, v, h => .inr ⟨fun j o hj => absurd hj (Nat.not_lt_zero _), h0 s v h⟩
  | i + 1, hi, s, v, h => by
    have ho := List.getElem?_eq_getElem (l := ops) (i := i) (by omega)
    obtain ⟨_, _, _, fr', hp, hs⟩ := ht i _ ho
    have h' := hs s v h
    have old : (ops[i].dst ≠ some s) → look (t.F i) s = some v → (∃ j o, j < i + 1 ∧ ops[j]? = some o ∧ o.dst = some s ∧ t.V j = v) ∨ ((∀ (j : Nat) (o : Oper), j < i + 1 → ops[j]? = some o → o.dst ≠ some s) ∧ look fr s = some v) := by
      intro hne hl
      rcases slot_from ht h0 i (by omega) s v hl with ⟨j, o, h1, h2, h3, h4⟩ | ⟨h1, h2⟩
      · exact .inl ⟨j, o, by omega, h2, h3, h4⟩
      · refine .inr ⟨fun j o hj hoj => ?_, h2⟩
        by_cases e : j = i
        · subst e; rw [ho] at hoj; cases hoj; exact hne
        · exact h1 j o (by omega) hoj
    unfold putA at hp
    split at hp
    · rename_i hd
      cases hp
      exact old (by rw [hd]; simp) h'
    · rename_i d hd
      split at hp
      · cases hp
        rw [look_cons] at h'
        split at h'
        · rename_i e
          subst e
          cases h'
          exact .inl ⟨i, _, by omega, ho, hd, rfl⟩
        · rename_i e
          exact old (by rw [hd]; simpa using e) h'
      · cases hp

structure DInv (P : Program) (E : Env) (F G : Nat → Prop) (w0 : World) (n : Nat) (ds : List Deferred) (fr : Fr) (ops : List Oper) (t : Trc) (σ0 σ : List Pl) (Hc : Heap) (l : Array Bool) (a : Act) (w : World) : Prop where
  hr : HR E.C F G w0 σ Hc w
  le : Le σ0 σ
  size : a.tmps.size = n
  dfs : a.defers = ds
  done : ∀ (j : Nat) (o : Oper) d, l.getD j false = true → ops[j]? = some o → o.dst = some d → ∃ c, a.tmps[d]? = some c ∧ VR E.C σ (t.V j) c
  base : ∀ s v, look fr s = some v → (∀ (j : Nat) (o : Oper), l.getD j false = true → ops[j]? = some o → o.dst ≠ some s) → ∃ c, a.tmps[s]? = some c ∧ VR E.C σ v c
  closed : ∀ (j : Nat) (o : Oper), l.getD j false = true → ops[j]? = some o → ∀ e ∈ dpre o, l.getD e false = true
  len : l.size = ops.length
  hlen : Hc.length = (t.H ops.length).length
  blk : ∀ b i, i ≤ ops.length → (∀ e, e < i → 2 * b ∈ t.T e → l.getD e false = true) → (∀ e, i ≤ e → e < ops.length → 2 * b ∈ t.T e → l.getD e false = false) → hget Hc b = hget (t.H i) b
  shp : ∀ b i, i ≤ ops.length → (∀ e, e < i → 2 * b + 1 ∈ t.T e → l.getD e false = true) → (∀ e, i ≤ e → e < ops.length → 2 * b + 1 ∈ t.T e → l.getD e false = false) → (hget Hc b).shp = (hget (t.H i) b).shp
  res : ∀ e, e < ops.length → l.getD e false = false → ∀ b, (t.H e).length ≤ b → b < (t.H (e + 1)).length → ∃ p, σ[b]? = some p ∧ p.gen = 0

set_option maxHeartbeats 1600000 in
/-- A region that draws its order. -/
theorem reg_draw (hC : CfgOk P E.C) (hm : P.follows .mixedOrders = true) {id : Nat} {σ : List Pl} (hs : RStat n ops) (ht : ∀ (j : Nat) (o : Oper), ops[j]? = some o → t.at_ P E n ops j o) (h0 : Sub (t.F 0) fr)
    (hlog : ∀ i j, i < ops.length → j < ops.length → i ≠ j → t.W i = true → t.W j = true → ∀ b, b ∈ t.T j → (b ∈ t.D i ∨ b ∈ t.T i) → (j < i ∧ Bef ops i j) ∨ (i < j ∧ Bef ops j i))
    (hr : RepA E.C σ n ds fr a) (hh : HR E.C F G w0 σ (t.H 0) w)
    (hend : ∀ σ' a' w', Le σ σ' → RepA E.C σ' n ds (t.F ops.length) a' → HR E.C F G w0 σ' (t.H ops.length) w' → Q .normal a' w') : (Code.region id ops.toArray true).wp P Q a w := by
  have hTW : ∀ i, i < ops.length → ∀ b, b ∈ t.T i → t.W i = true := by
    intro i hi b hb
    cases hW : t.W i with
    | true => rfl
    | false =>
      obtain ⟨_, _, e, _⟩ := (ht i _ (List.getElem?_eq_getElem hi)).2.2.1 hW
      rw [e] at hb; cases hb
  refine wp_region_any hm ?_
  have hsz : ops.toArray.size = ops.length := by simp
  rw [hsz]
  have hN := len_mono ht ops.length 0 (by omega)
  rw [Nat.zero_add] at hN
  have hres := hh.drew.reserve ((t.H ops.length).length - (t.H 0).length)
  have hbase := hh.len
  refine wpAny_inv (fun l a w => ∃ σ' Hc, DInv P E F G w0 n ds fr ops t σ σ' Hc l a w) hs.back (fun l a w ⟨_, _, h⟩ => h.len) ?_ ?_ ops.length _ a _ ⟨σ ++ List.replicate ((t.H ops.length).length - (t.H 0).length) dum, t.H 0 ++ List.replicate ((t.H ops.length).length - (t.H 0).length) .dead, ?_⟩ ?_
  · -- one operation
    rintro l a w i o ⟨σ', Hc, I⟩ ho hl hp
    have hi : i < ops.length := (List.getElem?_eq_some_iff.1 ho).1
    have hls : i < l.size := by rw [I.len]; exact hi
    have hgl := getD_set hls
    obtain ⟨a1, a2, a3, fr', a4, a5⟩ := ht i o ho
    have m1 := step_mem (ht i o ho)
    -- who is ahead, who is behind
    have ahead : ∀ j, (j < i ∧ Bef ops i j) → l.getD j false = true := fun j h => bef_ready hs.back I.closed ho hp h.2
    have behind : ∀ j, (i < j ∧ Bef ops j i) → l.getD j false = false := by
      intro j h
      cases hq : l.getD j false with
      | false => rfl
      | true => rw [bef_listed hs.back I.closed j i h.2 hq] at hl; cases hl
    -- the frame that it looks at
    have hrep : RepA E.C σ' n ds (keepF (slots ops o) (t.F i)) a := by
      refine ⟨I.size, fun s v hv => ?_, I.dfs⟩
      rw [look_keep] at hv
      split at hv
      · rename_i hsl
        have hsl := natIn_spec.1 hsl
        rcases slot_from ht h0 i (by omega) s v hv with ⟨j, oj, h1, h2, h3, h4⟩ | ⟨h1, h2⟩
        · have : l.getD j false = true := by
            rcases hs.slot i o ho s hsl j oj h2 h3 (by omega) with h | h
            · exact ahead j h
            · omega
          obtain ⟨c, k1, k2⟩ := I.done j oj s this h2 h3
          exact ⟨c, k1, h4 ▸ k2⟩
        · refine I.base s v h2 (fun j oj hj hoj hd => ?_)
          by_cases e : i = j
          · subst e; rw [hl] at hj; cases hj
          · rcases hs.slot i o ho s hsl j oj hoj hd e with h | h
            · exact h1 j oj h.1 hoj hd
            · rw [behind j h] at hj; cases hj
      · cases hv
    have hw := gd_spec (ops := ops) hrep (by rw [← gd_keep]; exact a1)
    -- what is at a block now
    have now : ∀ b, (2 * b ∈ t.D i ∨ 2 * b ∈ t.T i) → t.W i = true → hget Hc b = hget (t.H i) b := by
      intro b hb hW
      refine I.blk b i (by omega) (fun e he hbe => ?_) (fun e he hem hbe => ?_)
      · rcases hlog i e hi (by omega) (by omega) hW (hTW e (by omega) _ hbe) _ hbe hb with h | h
        · exact ahead e h
        · omega
      · by_cases e' : e = i
        · subst e'; exact hl
        · rcases hlog i e hi hem (by omega) hW (hTW e hem _ hbe) _ hbe hb with h | h
          · omega
          · exact behind e h
    have nowS : ∀ b, 2 * b + 1 ∈ t.D i → t.W i = true → (hget Hc b).shp = (hget (t.H i) b).shp := by
      intro b hb hW
      refine I.shp b i (by omega) (fun e he hbe => ?_) (fun e he hem hbe => ?_)
      · rcases hlog i e hi (by omega) (by omega) hW (hTW e (by omega) _ hbe) _ hbe (.inl hb) with h | h
        · exact ahead e h
        · omega
      · by_cases e' : e = i
        · subst e'; exact hl
        · rcases hlog i e hi hem (by omega) hW (hTW e hem _ hbe) _ hbe (.inl hb) with h | h
          · omega
          · exact behind e h
    -- what is behind
    have next : ∀ (σ1 : List Pl) (H1 : Heap) (c : Value) (w1 : World), HR E.C F G w0 σ1 H1 w1 → Le σ' σ1 → VR E.C σ1 (t.V i) c → H1.length = Hc.length → (∀ b, ¬ 2 * b ∈ t.T i → hget H1 b = hget Hc b) → (∀ b, 2 * b ∈ t.T i → hget H1 b = hget (t.H (i + 1)) b) →
        (∀ e, e < ops.length → e ≠ i → l.getD e false = false → ∀ b, (t.H e).length ≤ b → b < (t.H (e + 1)).length → σ1[b]? = σ'[b]?) → ∃ σ2 H2, DInv P E F G w0 n ds fr ops t σ σ2 H2 (l.setIfInBounds i true) (a.put o.dst c) w1 := by
      intro σ1 H1 c w1 h1 hle hv hl1 hsame hnew hres1
      refine ⟨σ1, H1, h1, I.le.trans hle, ?_, ?_, ?_, ?_, ?_, by simp [I.len], hl1.trans I.hlen, ?_, ?_, ?_⟩
      · rw [← I.size]; cases o.dst <;> simp [Act.put]
      · rw [← I.dfs]; cases o.dst <;> rfl
      · intro j oj d hj hoj hd
        rw [hgl] at hj
        by_cases e : i = j
        · subst e
          rw [ho] at hoj; cases hoj
          rw [hd]
          have := hs.lt i _ d ho hd
          exact ⟨c, by simp [Act.put, I.size, this], hv⟩
        · rw [if_neg e] at hj
          obtain ⟨c', k1, k2⟩ := I.done j oj d hj hoj hd
          refine ⟨c', ?_, RL.mono hle k2⟩
          cases ho2 : o.dst with
          | none => simpa [Act.put] using k1
          | some d' =>
            have hne : d' ≠ d := fun h => e (hs.uniq i j o oj d ho hoj (by rw [ho2, h]) hd)
            simp only [Act.put]
            rw [Array.getElem?_setIfInBounds_ne hne]
            exact k1
      · intro s v hs' hnd
        obtain ⟨c', k1, k2⟩ := I.base s v hs' (fun j oj hj hoj => hnd j oj (by rw [hgl]; split <;> simp_all) hoj)
        refine ⟨c', ?_, RL.mono hle k2⟩
        cases ho2 : o.dst with
        | none => simpa [Act.put] using k1
        | some d' =>
          have hne : d' ≠ s := fun h => hnd i o (by rw [hgl, if_pos rfl]) ho (by rw [ho2, h])
          simp only [Act.put]
          rw [Array.getElem?_setIfInBounds_ne hne]
          exact k1
      · intro j oj hj hoj e he
        rw [hgl]
        split
        · rfl
        · rw [hgl] at hj
          by_cases e' : i = j
          · subst e'; rw [ho] at hoj; cases hoj; exact hp e he
          · rw [if_neg e'] at hj; exact I.closed j oj hj hoj e he
      · intro b q hq hA hB
        by_cases hb : 2 * b ∈ t.T i
        · rw [hnew b hb]
          have hiq : i < q := by
            refine Nat.lt_of_not_le fun hle => ?_
            have := hB i hle hi hb
            rw [hgl, if_pos rfl] at this
            cases this
          have hW := hTW i hi _ hb
          have := same_mem ht (b := b) (q - (i + 1)) (i + 1) (by omega) (fun e h1 h2 hbe => by
            have h3 := hA e (by omega) hbe
            rw [hgl, if_neg (by omega)] at h3
            rcases hlog i e hi (by omega) (by omega) hW (hTW e (by omega) _ hbe) _ hbe (.inr hb) with h | h
            · omega
            · rw [behind e h] at h3; cases h3)
          rw [show i + 1 + (q - (i + 1)) = q by omega] at this
          exact this.symm
        · rw [hsame b hb]
          refine I.blk b q hq (fun e he hbe => ?_) (fun e h1 h2 hbe => ?_)
          · have := hA e he hbe
            rw [hgl, if_neg (fun e' => hb (by rw [e']; exact hbe))] at this
            exact this
          · have := hB e h1 h2 hbe
            rw [hgl, if_neg (fun e' => hb (by rw [e']; exact hbe))] at this
            exact this
      · intro b q hq hA hB
        by_cases hb : 2 * b ∈ t.T i
        · rw [hnew b hb]
          have hW := hTW i hi _ hb
          have up : ∀ e, e < ops.length → 2 * b + 1 ∈ t.T e → 2 * b ∈ t.T e := fun e he => (step_shp (ht e _ (List.getElem?_eq_getElem he))).2 b
          rcases Nat.lt_or_ge i q with hiq | hiq
          · have := same_shp ht (b := b) (q - (i + 1)) (i + 1) (by omega) (fun e h1 h2 hbe => by
              have h3 := hA e (by omega) hbe
              rw [hgl, if_neg (by omega)] at h3
              rcases hlog i e hi (by omega) (by omega) hW (hTW e (by omega) _ hbe) _ (up e (by omega) hbe) (.inr hb) with h | h
              · omega
              · rw [behind e h] at h3; cases h3)
            rw [show i + 1 + (q - (i + 1)) = q by omega] at this
            exact this.symm
          · have := same_shp ht (b := b) (i + 1 - q) q (by omega) (fun e h1 h2 hbe => by
              have h3 := hB e h1 (by omega) hbe
              rw [hgl] at h3
              by_cases ee : i = e
              · rw [if_pos ee] at h3; cases h3
              · rw [if_neg ee] at h3
                rcases hlog i e hi (by omega) (by omega) hW (hTW e (by omega) _ hbe) _ (up e (by omega) hbe) (.inr hb) with h | h
                · rw [ahead e h] at h3; cases h3
                · omega)
            rw [show q + (i + 1 - q) = i + 1 by omega] at this
            exact this
        · rw [hsame b hb]
          have hb' : ¬ 2 * b + 1 ∈ t.T i := fun h => hb ((step_shp (ht i o ho)).2 b h)
          refine I.shp b q hq (fun e he hbe => ?_) (fun e h1 h2 hbe => ?_)
          · have := hA e he hbe
            rw [hgl, if_neg (fun e' => hb' (by rw [e']; exact hbe))] at this
            exact this
          · have := hB e h1 h2 hbe
            rw [hgl, if_neg (fun e' => hb' (by rw [e']; exact hbe))] at this
            exact this
      · intro e he hle' b h1 h2
        rw [hgl] at hle'
        have hne : e ≠ i := by rintro rfl; rw [if_pos rfl] at hle'; cases hle'
        rw [if_neg (fun h => hne h.symm)] at hle'
        rw [hres1 e he hne hle' b h1 h2]
        exact I.res e he hle' b h1 h2
    cases hW : t.W i with
    | false =>
      rw [hW] at hw
      rw [if_neg (by rw [hw]; simp)]
      obtain ⟨e1, _, e2, e3⟩ := a3 hW
      refine next σ' Hc undef w I.hr (.refl _) (by rw [e1]; rfl) rfl (fun _ _ => rfl) (fun b hb => (by rw [e2] at hb; cases hb)) (fun _ _ _ _ _ _ _ => rfl)
    | true =>
      rw [hW] at hw
      rw [if_pos hw]
      obtain ⟨bs, ns, e1, e2, e3, hwp⟩ := (a2 hW).exec hC (Hc := Hc) (fun x hx => ev_keep _ hx) (fun b hb => now b (.inl hb) hW) (fun b hb => nowS b hb hW) hrep I.hr (Q := Q)
      have hm1 : (t.H (i + 1)).length = (t.H i).length + ns.length := by rw [e1, List.length_append, appl_len]
      have hm2 : (t.H (i + 1)).length ≤ Hc.length := by
        have := len_mono ht (ops.length - (i + 1)) (i + 1) (by omega)
        rw [show i + 1 + (ops.length - (i + 1)) = ops.length by omega] at this
        rw [I.hlen]; exact this
      have hTi : ∀ b, 2 * b ∈ t.T i ↔ b ∈ fsts bs ∨ ((t.H i).length ≤ b ∧ b < (t.H i).length + ns.length) := fun b => by rw [e2, List.mem_append, mem_range]
      have hdead : ∀ j, j < ns.length → hget Hc ((t.H i).length + j) = .dead := by
        intro j hj
        rw [now _ (.inr ((hTi _).2 (.inr (by omega)))) hW]
        exact hget_ge (by omega)
      refine Oper.wp_mono ?_ (hwp ⟨by omega, fun j hj => ⟨hdead j hj, I.res i hi hl _ (by omega) (by omega)⟩⟩)
      rintro a'' w'' ⟨c, σ1, rfl, q1, q3, q4⟩
      have hhg : ∀ b, hget (hsets (appl Hc bs) (t.H i).length ns) b = if (t.H i).length ≤ b ∧ b < (t.H i).length + ns.length then hget ns (b - (t.H i).length) else hget (appl Hc bs) b := fun b => hsets_get _ _ _ _ (by rw [appl_len]; omega)
      refine next σ1 (hsets (appl Hc bs) (t.H i).length ns) c w'' q3 q1.1 q4 (by rw [hsets_len, appl_len]) (fun b hb => ?_) (fun b hb => ?_) (fun e he hne hle b h1 h2 => ?_)
      · rw [hTi] at hb
        rw [hhg, if_neg (fun h => hb (.inr h)), appl_other bs (fun h => hb (.inl h))]
      · rw [hhg, e1, hget_app, appl_len]
        by_cases hr : (t.H i).length ≤ b ∧ b < (t.H i).length + ns.length
        · rw [if_pos hr, if_neg (by omega)]
        · rw [if_neg hr]
          have hf := ((hTi b).1 hb).resolve_right hr
          obtain ⟨x, hx, hxb⟩ := mem_fsts.1 hf
          rw [if_pos (by have := (e3 x hx).1; omega)]
          exact appl_agree bs e3 (.inr hf)
      · -- other new blocks
        have hout : ¬ ((t.H i).length ≤ b ∧ b < (t.H i).length + ns.length) := by
          rcases Nat.lt_or_gt_of_ne hne with h | h
          · have := len_mono ht (i - (e + 1)) (e + 1) (by omega)
            rw [show e + 1 + (i - (e + 1)) = i by omega] at this
            omega
          · have := len_mono ht (e - (i + 1)) (i + 1) (by omega)
            rw [show i + 1 + (e - (i + 1)) = e by omega] at this
            omega
        refine q1.2.2 b ?_ hout
        have hbe : 2 * b ∈ t.T e := (step_mem (ht e _ (List.getElem?_eq_getElem he))).2.2.2 b h1 h2
        have hWe := hTW e he _ hbe
        rw [I.blk b e (by omega) (fun e' he' hb' => absurd (touch_lt ht he' (by omega) hb') (by omega)) (fun e' h1' h2' hb' => by
          by_cases ee : e' = e
          · subst ee; exact hle
          · rcases hlog e e' he h2' (by omega) hWe (hTW e' h2' _ hb') _ hb' (.inr hbe) with h | h
            · omega
            · cases hq : l.getD e' false with
              | false => rfl
              | true => rw [bef_listed hs.back I.closed e' e h.2 hq] at hle; cases hle)]
        exact hget_ge h1
  · -- the end
    rintro l a w ⟨σ', Hc, I⟩ hall
    have hlt : ∀ (j : Nat) (o : Oper), ops[j]? = some o → l.getD j false = true := fun j o ho => hall j (List.getElem?_eq_some_iff.1 ho).1
    have hHc : Hc = t.H ops.length := heap_ext I.hlen (fun b => I.blk b ops.length (Nat.le_refl _) (fun e he _ => hall e he) (fun e h1 h2 => by omega))
    refine hend σ' a w I.le ⟨I.size, fun s v hv => ?_, I.dfs⟩ (by rw [← hHc]; exact I.hr)
    rcases slot_from ht h0 ops.length (Nat.le_refl _) s v hv with ⟨j, oj, h1, h2, h3, h4⟩ | ⟨h1, h2⟩
    · obtain ⟨c, k1, k2⟩ := I.done j oj s (hall j h1) h2 h3
      exact ⟨c, k1, h4 ▸ k2⟩
    · exact I.base s v h2 (fun j oj _ hoj => h1 j oj (List.getElem?_eq_some_iff.1 hoj).1 hoj)
  · -- the beginning
    have hno : ∀ j, (Array.replicate ops.length false).getD j false = false := fun j => by simp [Array.getD]
    refine ⟨hres, Le.push _ _, hr.size, hr.dfs, fun j o d hj => (by rw [hno] at hj; cases hj), fun s v hv _ => ?_, fun j o hj => (by rw [hno] at hj; cases hj), by simp, by simp; omega, fun b i hi hA hB => ?_, fun b i hi hA hB => ?_, fun e he _ b h1 h2 => ?_⟩
    · obtain ⟨c, k1, k2⟩ := hr.vals s v hv
      exact ⟨c, k1, RL.mono (Le.push _ _) k2⟩
    · have := same_mem ht (b := b) i 0 (by omega) (fun e h1 h2 hb => by
        have := hA e (by omega) hb
        rw [hno] at this; cases this)
      rw [Nat.zero_add] at this
      rw [this, hget_app]
      split
      · rfl
      · rw [hget_rep, hget_ge (by omega)]
    · have := same_shp ht (b := b) i 0 (by omega) (fun e h1 h2 hb => by
        have := hA e (by omega) hb
        rw [hno] at this; cases this)
      rw [Nat.zero_add] at this
      rw [this, hget_app]
      split
      · rfl
      · rw [hget_rep, hget_ge (by omega)]
    · have h3 := len_mono ht e 0 (by omega)
      have h4 := len_mono ht (ops.length - (e + 1)) (e + 1) (by omega)
      rw [Nat.zero_add] at h3
      rw [show e + 1 + (ops.length - (e + 1)) = ops.length by omega] at h4
      refine ⟨dum, ?_, rfl⟩
      rw [List.getElem?_append_right (by omega), List.getElem?_replicate, if_pos (by omega)]
  · have : ∀ i ∈ List.range ops.length, (!(Array.replicate ops.length false).getD i false) = true := by
      intro i hi
      simp [Array.getD]
    rw [List.filter_eq_self.2 this]
    simp

theorem okLog_spec {L : Log} (h : okLog (mgo ops []) L = true) {i j : Nat} {D T D' T' : List Nat} (hi : (i, D, T) ∈ L) (hj : (j, D', T') ∈ L) (hne : i ≠ j) {b : Nat} (hb : b ∈ T') (hb' : b ∈ D ∨ b ∈ T) : (j < i ∧ Bef ops i j) ∨ (i < j ∧ Bef ops j i) := by
  unfold okLog at h
  rw [List.all_eq_true] at h
  have h1 := h _ hi
  rw [List.all_eq_true] at h1
  have h2 := h1 _ hj
  simp only [Bool.or_eq_true] at h2
  rcases h2 with h2 | h2
  · exact (apartL_spec h2 hb (List.mem_append.2 hb')).elim
  · exact ordB_spec h2 hne

/-- Regions. -/
theorem reg_ok {R : Type} {r : R} {K : Fr → Heap → Option R} (hC : CfgOk P E.C) (hm : P.follows .mixedOrders = true) (hX : ∀ ct ∈ E.X, Snd P E.C E.k ct) {id : Nat} {draw : Bool} {σ : List Pl} (h : exReg E n ops draw K fr H = some r) (hr : RepA E.C σ n ds fr a) (hh : HR E.C F G w0 σ H w)
    (hend : ∀ σ' fr' H' a' w', Le σ σ' → K fr' H' = some r → RepA E.C σ' n ds fr' a' → HR E.C F G w0 σ' H' w' → Q .normal a' w') : (Code.region id ops.toArray draw).wp P Q a w := by
  cases draw with
  | false =>
    unfold exReg at h
    obtain ⟨t, L', k1, k2, k3, k4, k5, k6⟩ := exOps_trc hX ops 0 [] fr H rfl h
    rw [Nat.zero_add] at k6
    exact reg_plain hC (fun j o hj => k3 j o (Nat.zero_le _) hj) (hr.sub k1) (by rw [k2]; exact hh) (fun σ' a' w' hl hr' hh' => hend σ' _ _ a' w' hl k6 hr' hh')
  | true =>
    unfold exReg at h
    simp only at h
    split at h
    · rename_i hst
      obtain ⟨t, L', k1, k2, k3, k4, k5, k6⟩ := exOps_trc hX ops 0 [] fr H rfl h
      rw [Nat.zero_add] at k5 k6
      split at k6
      · rename_i hlog
        exact reg_draw hC hm (stat_of hst) (fun j o hj => k3 j o (Nat.zero_le _) hj) k1 (fun i j hi hj hne hWi hWj b hb hb' => okLog_spec hlog (k5 i (Nat.zero_le _) hi hWi) (k5 j (Nat.zero_le _) hj hWj) hne hb hb') hr (by rw [k2]; exact hh) (fun σ' a' w' hl hr' hh' => hend σ' _ _ a' w' hl k6 hr' hh')
      · cases k6
    · cases h
end
end Go.Proofs.YtaakccdfgejgpaaGreatDoor.Abs
