/-
  The small calculus, seventh part: a region whose operations come in any order that its edges allow.
-/
import Derived.Test.YtcdcihmlmcnbjaaEngF
namespace Go.Proofs.Ytcdcihmlmcnbjaa.Eng
open Go Go.RowKit
set_option linter.unusedVariables false

/-- The operations that must stand ahead. -/
def dpre (o : Oper) : List Nat := (o.after.toList.filter (fun e => Region.binds .any e)).map (·.on)

def reach (ops : List Oper) : Nat → Nat → Nat → Bool
  | 0, _, _ => false
  | k + 1, x, i => match ops[x]? with
    | none => false
    | some o => (dpre o).any fun e => Nat.beq e i || reach ops k e i

def natIn (x : Nat) (l : List Nat) : Bool := l.any (Nat.beq x)
theorem natIn_spec {x : Nat} {l : List Nat} : natIn x l = true ↔ x ∈ l := by
  unfold natIn
  rw [List.any_eq_true]
  constructor
  · rintro ⟨y, hy, h⟩; rw [Nat.eq_of_beq_eq_true h]; exact hy
  · intro h; exact ⟨x, h, Nat.beq_refl x⟩

/-- Slots that others write, unless the writer waits for i. -/
def shut (ops : List Oper) (i : Nat) : List Nat :=
  (List.range ops.length).filterMap fun x => match ops[x]? with
    | none => none
    | some o => if reach ops ops.length x i then none else o.dst

def frI (ops : List Oper) (vs : List Value) (fr : Fr) (i : Nat) : Fr :=
  (match ops[i]? with
    | none => []
    | some o => (dpre o).filterMap fun j => match ops[j]? with
      | none => none
      | some oj => match oj.dst with
        | none => none
        | some d => some (d, vs.getD j undef)) ++ fr.filter (fun p => !natIn p.1 (shut ops i))

def frAll (ops : List Oper) (vs : List Value) (fr : Fr) : Fr :=
  ((List.range ops.length).filterMap fun j => match ops[j]? with
    | none => none
    | some oj => match oj.dst with
      | none => none
      | some d => some (d, vs.getD j undef)) ++ fr

def nodupB : List Nat → Bool
  | [] => true
  | x :: r => !natIn x r && nodupB r

/-- Edges go back; no slot is written twice, and each that is written lies within the frame. -/
def okD (n : Nat) (ops : List Oper) : Bool :=
  ((List.range ops.length).all fun i => match ops[i]? with
    | none => true
    | some o => (dpre o).all (fun e => Nat.blt e i) && (match o.dst with | none => true | some d => Nat.blt d n)) && nodupB (ops.filterMap (·.dst))

theorem nodupB_spec : ∀ {l : List Nat}, nodupB l = true → l.Nodup
  | [], _ => .nil
  | x :: r, h => by
    simp only [nodupB, Bool.and_eq_true, Bool.not_eq_true'] at h
    refine List.nodup_cons.2 ⟨fun hx => ?_, nodupB_spec h.2⟩
    rw [natIn_spec.2 hx] at h
    cases h.1

theorem dst_unique {ops : List Oper} (h : (ops.filterMap (·.dst)).Nodup) : ∀ {i j : Nat} {oi oj : Oper} {d : Nat}, ops[i]? = some oi → ops[j]? = some oj → oi.dst = some d → oj.dst = some d → i = j := by
  induction ops with
  | nil => intro i j oi oj d hi; cases hi
  | cons o r ih =>
    intro i j oi oj d hi hj di dj
    have hr : (r.filterMap (·.dst)).Nodup := by
      cases ho : o.dst with
      | none => simpa [List.filterMap_cons, ho] using h
      | some x => rw [List.filterMap_cons_some ho] at h; exact (List.nodup_cons.1 h).2
    have hno : ∀ {k : Nat} {ok : Oper}, r[k]? = some ok → o.dst = some d → ok.dst = some d → False := by
      intro k ok hk h1 h2
      rw [List.filterMap_cons_some h1] at h
      exact (List.nodup_cons.1 h).1 (List.mem_filterMap.2 ⟨ok, List.mem_of_getElem? hk, h2⟩)
    cases i with
    | zero => cases j with
      | zero => rfl
      | succ j => simp at hi hj; subst hi; exact (hno hj di dj).elim
    | succ i => cases j with
      | zero => simp at hi hj; subst hj; exact (hno hi dj di).elim
      | succ j => simp at hi hj; rw [ih hr hi hj di dj]

section
variable {P : Program} {Q : Exit → Act → World → Prop} {n : Nat} {ds : List Deferred} {fr : Fr} {w : World} {ops : List Oper} {vs : List Value}

structure Dinv (n : Nat) (ds : List Deferred) (fr : Fr) (ops : List Oper) (vs : List Value) (WR : World → Prop) (listed : Array Bool) (a : Act) (w : World) : Prop where
  size : a.tmps.size = n
  dfs : a.defers = ds
  done : ∀ j oj d, listed.getD j false = true → ops[j]? = some oj → oj.dst = some d → a.tmps[d]? = some (vs.getD j undef)
  base : ∀ s v, look fr s = some v → (∀ j oj, listed.getD j false = true → ops[j]? = some oj → oj.dst ≠ some s) → a.tmps[s]? = some v
  closed : ∀ i oi, listed.getD i false = true → ops[i]? = some oi → ∀ e ∈ dpre oi, listed.getD e false = true
  wr : WR w
  len : listed.size = ops.length

theorem look_append (f g : Fr) (s : Nat) : look (f ++ g) s = match look f s with | some v => some v | none => look g s := by
  induction f with
  | nil => rfl
  | cons p r ih =>
    obtain ⟨j, v⟩ := p
    simp only [List.cons_append, look_cons]
    split
    · rfl
    · exact ih

theorem look_mem {f : Fr} {s : Nat} {v : Value} (h : look f s = some v) : (s, v) ∈ f := by
  induction f with
  | nil => cases h
  | cons p r ih =>
    obtain ⟨j, u⟩ := p
    rw [look_cons] at h
    split at h
    · rename_i e; subst e; cases h; simp
    · exact List.mem_cons_of_mem _ (ih h)

theorem look_filter {f : Fr} {p : Nat → Bool} {s : Nat} {v : Value} (h : look (f.filter (fun x => p x.1)) s = some v) : look f s = some v ∧ p s = true := by
  induction f with
  | nil => cases h
  | cons q r ih =>
    obtain ⟨j, u⟩ := q
    by_cases hp : p j = true
    · rw [List.filter_cons_of_pos (by simpa using hp), look_cons] at h
      rw [look_cons]
      split at h
      · rename_i e; subst e; rw [if_pos rfl]; exact ⟨h, hp⟩
      · rename_i e; rw [if_neg e]; exact ih h
    · rw [List.filter_cons_of_neg (by simpa using hp)] at h
      have := ih h
      rw [look_cons]
      by_cases e : j = s
      · subst e; rw [this.2] at hp; exact absurd rfl hp
      · rw [if_neg e]; exact this

theorem reach_listed {listed : Array Bool} (hc : ∀ i oi, listed.getD i false = true → ops[i]? = some oi → ∀ e ∈ dpre oi, listed.getD e false = true) : ∀ (k x i : Nat), reach ops k x i = true → listed.getD x false = true → listed.getD i false = true
  | 0, _, _, h, _ => by cases h
  | k + 1, x, i, h, hx => by
    unfold reach at h
    split at h
    · cases h
    · rename_i o ho
      rw [List.any_eq_true] at h
      obtain ⟨e, he, h⟩ := h
      have hle := hc x o hx ho e he
      simp only [Bool.or_eq_true] at h
      rcases h with h | h
      · rw [← Nat.eq_of_beq_eq_true h]; exact hle
      · exact reach_listed hc k e i h hle

theorem mem_dpre {o : Oper} {e : Nat} : e ∈ dpre o ↔ ∃ x ∈ o.after, Region.binds .any x = true ∧ x.on = e := by
  unfold dpre
  simp [List.mem_map, List.mem_filter, and_assoc]

theorem Dinv.rep {WR : World → Prop} {listed : Array Bool} {a : Act} (h : Dinv n ds fr ops vs WR listed a w) {i : Nat} {o : Oper} (ho : ops[i]? = some o) (hi : listed.getD i false = false) (hp : ∀ e ∈ dpre o, listed.getD e false = true) : Rep n ds (frI ops vs fr i) a := by
  refine ⟨h.size, ?_, h.dfs⟩
  intro s v hs
  unfold frI at hs
  rw [look_append, ho] at hs
  simp only at hs
  split at hs
  · rename_i u hu
    cases hs
    have hm := look_mem hu
    rw [List.mem_filterMap] at hm
    obtain ⟨j, hj, hm⟩ := hm
    split at hm
    · cases hm
    · rename_i oj hoj
      split at hm
      · cases hm
      · rename_i d hd
        cases hm
        exact h.done j oj _ (hp j hj) hoj hd
  · obtain ⟨h1, h2⟩ := look_filter (p := fun x => !natIn x (shut ops i)) hs
    refine h.base s v h1 (fun j oj hj hoj hd => ?_)
    have hr : reach ops ops.length j i = true := by
      cases hq : reach ops ops.length j i with
      | true => rfl
      | false =>
        have : s ∈ shut ops i := by
          unfold shut
          rw [List.mem_filterMap]
          refine ⟨j, List.mem_range.2 (List.getElem?_eq_some_iff.1 hoj).1, ?_⟩
          simp only [hoj, hq]
          simpa using hd
        rw [natIn_spec.2 this] at h2
        cases h2
    have := reach_listed h.closed _ j i hr hj
    rw [hi] at this
    cases this

theorem wpAny_vals {WR : World → Prop} (hok : okD n ops = true)
    (hstep : ∀ i o, ops[i]? = some o → ∀ w', WR w' → ∀ a, Rep n ds (frI ops vs fr i) a →
      if Region.wanted o (yielded ops.toArray a.tmps) then o.wp P a w' (fun a' w'' => a' = a.put o.dst (vs.getD i undef) ∧ WR w'') Q else vs.getD i undef = undef)
    (hend : ∀ w', WR w' → QF Q n ds .normal (frAll ops vs fr) w') :
    ∀ (fuel : Nat) (listed : Array Bool) (a : Act) (w : World), Dinv n ds fr ops vs WR listed a w → ((List.range ops.length).filter (fun i => !listed.getD i false)).length = fuel → wpAny P .any ops.toArray Q fuel listed a w := by
  have hok' := hok
  unfold okD at hok'
  rw [Bool.and_eq_true, List.all_eq_true] at hok'
  have hback : ∀ i o, ops[i]? = some o → (∀ e ∈ dpre o, e < i) ∧ (∀ d, o.dst = some d → d < n) := by
    intro i o ho
    have := hok'.1 i (List.mem_range.2 (List.getElem?_eq_some_iff.1 ho).1)
    simp only [ho, Bool.and_eq_true, List.all_eq_true, Nat.blt_eq] at this
    refine ⟨this.1, fun d hd => ?_⟩
    have h2 := this.2
    rw [hd] at h2
    simpa [Nat.blt_eq] using h2
  have huniq := fun {i j oi oj d} => @dst_unique ops (nodupB_spec hok'.2) i j oi oj d
  have hfin : ∀ (listed : Array Bool) (a : Act) (w : World), Dinv n ds fr ops vs WR listed a w → (∀ i, i < ops.length → listed.getD i false = true) → Q .normal a w := by
    intro listed a w hI hall
    refine hend w hI.wr a ⟨hI.size, ?_, hI.dfs⟩
    intro s v hs
    unfold frAll at hs
    rw [look_append] at hs
    split at hs
    · rename_i u hu
      cases hs
      have hm := look_mem hu
      rw [List.mem_filterMap] at hm
      obtain ⟨j, hj, hm⟩ := hm
      split at hm
      · cases hm
      · rename_i oj hoj
        split at hm
        · cases hm
        · rename_i d hd
          cases hm
          exact hI.done j oj _ (hall j (List.mem_range.1 hj)) hoj hd
    · rename_i hnone
      refine hI.base s v hs (fun j oj hj hoj hd => ?_)
      have : ∀ (L : List Nat), j ∈ L → look (L.filterMap fun j => match ops[j]? with
        | none => none
        | some oj => match oj.dst with
          | none => none
          | some d => some (d, vs.getD j undef)) s ≠ none := by
        intro L hL
        induction L with
        | nil => cases hL
        | cons x r ih =>
          rcases List.mem_cons.1 hL with rfl | hL
          · simp only [List.filterMap_cons, hoj, hd, look_cons, if_true]
            simp
          · rw [List.filterMap_cons]
            split
            · exact ih hL
            · rename_i p hp
              obtain ⟨q, u⟩ := p
              rw [look_cons]
              split
              · simp
              · exact ih hL
      exact this _ (List.mem_range.2 (List.getElem?_eq_some_iff.1 hoj).1) hnone
  have hready : ∀ (listed : Array Bool) (a : Act) (w : World), Dinv n ds fr ops vs WR listed a w → Region.ready .any ops.toArray listed = [] → ∀ i, i < ops.length → listed.getD i false = true := by
    intro listed a w hI hr i
    induction i using Nat.strongRecOn with
    | _ i ih =>
      intro hi
      cases hl : listed.getD i false with
      | true => rfl
      | false =>
        exfalso
        have ho : ops[i]? = some ops[i] := List.getElem?_eq_getElem hi
        have hlt : i < listed.size := by rw [hI.len]; exact hi
        have hmem : i ∈ Region.ready .any ops.toArray listed := by
          rw [mem_ready]
          refine ⟨?_, ops[i], by simp, fun e he hb => ?_⟩
          · have : listed.getD i true = listed.getD i false := by
              simp [Array.getD, hlt]
            rw [this]; exact hl
          · have hd : e.on ∈ dpre ops[i] := mem_dpre.2 ⟨e, he, hb, rfl⟩
            have := (hback i _ ho).1 _ hd
            exact ih e.on this (by omega)
        rw [hr] at hmem
        cases hmem
  intro fuel
  induction fuel with
  | zero =>
    intro listed a w hI hcnt
    have hall : ∀ i, i < ops.length → listed.getD i false = true := by
      intro i hi
      cases hl : listed.getD i false with
      | true => rfl
      | false =>
        have : i ∈ (List.range ops.length).filter (fun i => !listed.getD i false) := List.mem_filter.2 ⟨List.mem_range.2 hi, by rw [hl]; rfl⟩
        rw [List.length_eq_zero_iff.1 hcnt] at this
        cases this
    refine ⟨?_, hfin listed a w hI hall⟩
    cases hr : Region.ready .any ops.toArray listed with
    | nil => rfl
    | cons x r =>
      have hx : x ∈ Region.ready .any ops.toArray listed := by rw [hr]; simp
      rw [mem_ready] at hx
      obtain ⟨h1, o, ho, _⟩ := hx
      have hlt : x < ops.length := by
        have := (Array.getElem?_eq_some_iff.1 ho).1
        simpa using this
      have := hall x hlt
      have hls : x < listed.size := by rw [hI.len]; exact hlt
      simp [Array.getD, hls] at h1 this
      rw [this] at h1
      cases h1
  | succ fuel ih =>
    intro listed a w hI hcnt
    refine ⟨fun hr => hfin listed a w hI (hready listed a w hI hr), ?_⟩
    intro i hi
    have hi' := hi
    rw [mem_ready] at hi'
    obtain ⟨h1, o, ho, hp⟩ := hi'
    have ho' : ops[i]? = some o := by simpa using ho
    have hlt : i < ops.length := (List.getElem?_eq_some_iff.1 ho').1
    have hls : i < listed.size := by rw [hI.len]; exact hlt
    have hl : listed.getD i false = false := by
      simp [Array.getD, hls] at h1 ⊢; exact h1
    have hpre : ∀ e ∈ dpre o, listed.getD e false = true := by
      intro e he
      obtain ⟨x, hx, hb, rfl⟩ := mem_dpre.1 he
      exact hp x hx hb
    have hrep := hI.rep ho' hl hpre
    have hs := hstep i o ho' w hI.wr a hrep
    have hnext : ∀ w'', WR w'' → wpAny P .any ops.toArray Q fuel (listed.setIfInBounds i true) (a.put o.dst (vs.getD i undef)) w'' := by
      intro w'' hw''
      have hget : ∀ j, (listed.setIfInBounds i true).getD j false = if i = j then true else listed.getD j false := by
        intro j
        by_cases e : i = j
        · subst e; rw [if_pos rfl]; simp [Array.getD, hls]
        · rw [if_neg e]; exact getD_set_ne false e
      refine ih _ _ _ ⟨?_, ?_, ?_, ?_, ?_, hw'', by simp [hI.len]⟩ ?_
      · rw [← hI.size]; cases o.dst <;> simp [Act.put]
      · rw [← hI.dfs]; cases o.dst <;> rfl
      · intro j oj d hj hoj hd
        rw [hget] at hj
        by_cases e : i = j
        · subst e
          rw [ho'] at hoj; cases hoj
          rw [hd]
          have := (hback i o ho').2 d hd
          simp [Act.put, hI.size, this]
        · rw [if_neg e] at hj
          have := hI.done j oj d hj hoj hd
          cases ho2 : o.dst with
          | none => simpa [Act.put, ho2] using this
          | some d' =>
            have hne : d' ≠ d := fun h => e (huniq ho' hoj (by rw [ho2, h]) hd)
            simp only [Act.put]
            rw [Array.getElem?_setIfInBounds_ne hne]
            exact this
      · intro s v hs' hnd
        have hb := hI.base s v hs' (fun j oj hj hoj => hnd j oj (by rw [hget]; split <;> simp_all) hoj)
        cases ho2 : o.dst with
        | none => simpa [Act.put, ho2] using hb
        | some d' =>
          have hne : d' ≠ s := fun h => hnd i o (by rw [hget, if_pos rfl]) ho' (by rw [ho2, h])
          simp only [Act.put]
          rw [Array.getElem?_setIfInBounds_ne hne]
          exact hb
      · intro j oj hj hoj e he
        rw [hget]
        split
        · rfl
        · rw [hget] at hj
          by_cases e' : i = j
          · subst e'; rw [ho'] at hoj; cases hoj; exact hpre e he
          · rw [if_neg e'] at hj; exact hI.closed j oj hj hoj e he
      · have key : ∀ (L : List Nat), L.Nodup → i ∈ L → (L.filter (fun j => !(listed.setIfInBounds i true).getD j false)).length + 1 = (L.filter (fun j => !listed.getD j false)).length := by
          intro L hnd hL
          induction L with
          | nil => cases hL
          | cons x r ihL =>
            obtain ⟨hx, hr⟩ := List.nodup_cons.1 hnd
            by_cases e : i = x
            · subst e
              have h1 : (!(listed.setIfInBounds i true).getD i false) = false := by rw [hget, if_pos rfl]; rfl
              have h2 : (!listed.getD i false) = true := by rw [hl]; rfl
              have h3 : (i :: r).filter (fun j => !(listed.setIfInBounds i true).getD j false) = r.filter (fun j => !(listed.setIfInBounds i true).getD j false) := by
                rw [List.filter_cons, h1]; rfl
              have h4 : (i :: r).filter (fun j => !listed.getD j false) = i :: r.filter (fun j => !listed.getD j false) := by
                rw [List.filter_cons, h2]; rfl
              rw [h3, h4, List.length_cons]
              congr 1
              congr 1
              refine List.filter_congr (fun y hy => ?_)
              rw [hget, if_neg (fun h => hx (by rw [h]; exact hy))]
            · have hLr : i ∈ r := by
                rcases List.mem_cons.1 hL with h | h
                · exact absurd h e
                · exact h
              have hxe : (listed.setIfInBounds i true).getD x false = listed.getD x false := by rw [hget, if_neg e]
              by_cases hq : (!listed.getD x false) = true
              · rw [List.filter_cons, List.filter_cons, hxe, if_pos hq, if_pos hq, List.length_cons, List.length_cons, ihL hr hLr]
              · rw [List.filter_cons, List.filter_cons, hxe, if_neg hq, if_neg hq, ihL hr hLr]
        have := key (List.range ops.length) List.nodup_range (List.mem_range.2 hlt)
        omega
    unfold wpOp
    rw [ho]
    simp only
    split
    · rename_i hw
      rw [if_pos hw] at hs
      refine .inl (Oper.wp_mono ?_ hs)
      rintro a' w'' ⟨rfl, hw''⟩
      exact hnext w'' hw''
    · rename_i hw
      rw [if_neg hw] at hs
      have := hnext w hI.wr
      rw [hs] at this
      exact this

theorem WC.draw {id : Nat} (hm : P.follows .mixedOrders = true) (hok : okD n ops = true) (vs : List Value) (WR : World → Prop) (h0 : WR { w with drawn := w.drawn + 1 })
    (hstep : ∀ i o, ops[i]? = some o → ∀ w', WR w' → ∀ a, Rep n ds (frI ops vs fr i) a →
      if Region.wanted o (yielded ops.toArray a.tmps) then o.wp P a w' (fun a' w'' => a' = a.put o.dst (vs.getD i undef) ∧ WR w'') Q else vs.getD i undef = undef)
    (hend : ∀ w', WR w' → QF Q n ds .normal (frAll ops vs fr) w') : WC P Q n ds (.region id ops.toArray true) fr w := by
  intro a hr
  refine wp_region_any hm ?_
  have hsz : ops.toArray.size = ops.length := by simp
  rw [hsz]
  refine wpAny_vals hok hstep hend ops.length _ a _ ⟨hr.size, hr.dfs, ?_, fun s v hs _ => hr.vals s v hs, ?_, h0, by simp⟩ ?_
  · intro j oj d hj
    exfalso
    simp [Array.getD] at hj
  · intro i oi hi
    exfalso
    simp [Array.getD] at hi
  · have : ∀ i ∈ List.range ops.length, (!(Array.replicate ops.length false).getD i false) = true := by
      intro i hi
      simp [Array.getD]
    rw [List.filter_eq_self.2 this]
    simp

theorem St.sub {o : Oper} {R : Value → World → Prop} (fr' : Fr) (hs : picks fr fr' = vals fr') (h : St P Q n ds fr' w o R) : St P Q n ds fr w o R := fun a hr => h a (hr.sub (subF_spec hs))
theorem St.mono {o : Oper} {R R' : Value → World → Prop} (h : St P Q n ds fr w o R) (hi : ∀ u w', R u w' → R' u w') : St P Q n ds fr w o R' := fun a hr => Oper.wp_mono (fun _ _ ⟨v, h1, h2⟩ => ⟨v, h1, hi _ _ h2⟩) (h a hr)
theorem QF.sub {e : Exit} (fr' : Fr) (hs : picks fr fr' = vals fr') (h : QF Q n ds e fr' w) : QF Q n ds e fr w := fun a hr => h a (hr.sub (subF_spec hs))
theorem bool_split {G : Prop} (b : Bool) (h1 : b = true → G) (h2 : b = false → G) : G := by cases b with
  | true => exact h1 rfl
  | false => exact h2 rfl

/-- What only computes, where the test behind it has been decided. -/
theorem St.test {tt : List (Nat × TK)} (ht : Tok P tt) {o : Oper} {b : Bool} (c : Bool) (hv : pv tt fr o.op = some (.bool b)) (hb : b = c) : St P Q n ds fr w o (fun u w' => u = .bool c ∧ w = w') := by
  subst hb
  exact St.val fun a hr => pv_ok ht hr hv w

theorem St.callB {f : Nat} {as : List Operand} {ts : Array Nat} {ty : Nat} {pos : String} {after : Array Edge} {gdv : Option (Nat × Bool)} {d : Option Nat} {args : List Value} {v : Value}
    (hc : Calls P f args.toArray w fun e w' => e = .returned v ∧ Bl w w') (hen : entersB P f = true) (hargs : as.map (ev fr) = args.map some) :
    St P Q n ds fr w ⟨d, .call { callee := .value (.func f), args := as.toArray, argTypes := ts }, ty, pos, after, gdv⟩ (fun u w' => u = v ∧ Bl w w') :=
  St.call (x := .func f) (first := []) (cap := []) rfl rfl hen args hargs (by
    have : ([] ++ args ++ [] : List Value) = args := by simp
    rw [this]
    exact hc.mono fun _ _ ⟨he, hb⟩ => ⟨v, he, rfl, hb⟩)

theorem Mem.drew {w0 w : World} {m : List Blk} (h : Mem w0 w m) : Mem w0 { w with drawn := w.drawn + 1 } m := ⟨⟨h.bl.os, h.bl.tape, h.bl.output, h.bl.size, h.bl.block⟩, h.own, h.nd⟩

def dval (tt : List (Nat × TK)) (ops : List Oper) (vs : List Value) (fr : Fr) (i : Nat) : Option Value := match ops[i]? with
  | none => none
  | some o => match gd ops (frI ops vs fr i) o with
    | some true => pv tt (frI ops vs fr i) o.op
    | some false => some undef
    | none => none

def restD (ops : List Oper) (imp : List Nat) : List Nat := (List.range ops.length).filter fun i => !natIn i imp

def AllD (F : Nat → Prop) : List Nat → Prop
  | [] => True
  | i :: r => F i ∧ AllD F r
theorem AllD.mem {F : Nat → Prop} : ∀ {l : List Nat}, AllD F l → ∀ {i : Nat}, i ∈ l → F i
  | _ :: _, ⟨h, _⟩, _, .head _ => h
  | _ :: _, ⟨_, h⟩, _, .tail _ hi => h.mem hi

theorem map_eq_mem {α β : Type} {f g : α → β} : ∀ {l : List α}, l.map f = l.map g → ∀ {x : α}, x ∈ l → f x = g x
  | _ :: _, h, _, .head _ => by simp only [List.map_cons, List.cons.injEq] at h; exact h.1
  | _ :: _, h, _, .tail _ hx => by simp only [List.map_cons, List.cons.injEq] at h; exact map_eq_mem h.2 hx

theorem WC.drawM {id : Nat} {tt : List (Nat × TK)} {w0 : World} {m : List Blk} (hfm : P.follows .mixedOrders = true) (ht : Tok P tt) (hmem : Mem w0 w m) (hok : okD n ops = true) (vs : List Value) (imp : List Nat)
    (hpure : (restD ops imp).map (dval tt ops vs fr) = (restD ops imp).map (fun i => some (vs.getD i undef)))
    (himp : AllD (fun i => ∀ w', Mem w0 w' m → ∃ o, ops[i]? = some o ∧ gd ops (frI ops vs fr i) o = some true ∧ St P Q n ds (frI ops vs fr i) w' o (fun u w'' => u = vs.getD i undef ∧ Mem w0 w'' m)) imp)
    (hend : ∀ w', Mem w0 w' m → QF Q n ds .normal (frAll ops vs fr) w') : WC P Q n ds (.region id ops.toArray true) fr w := by
  refine WC.draw hfm hok vs (fun w' => Mem w0 w' m) hmem.drew (fun i o ho w' hw' a hr => ?_) hend
  by_cases hi : i ∈ imp
  · obtain ⟨o', ho', hg, hs⟩ := himp.mem hi w' hw'
    rw [ho] at ho'; cases ho'
    rw [if_pos (gd_spec hr hg)]
    refine Oper.wp_mono ?_ (hs a hr)
    rintro a' w'' ⟨v, h1, h2, h3⟩
    exact ⟨by rw [h1, h2], h3⟩
  · have hm : i ∈ restD ops imp := by
      unfold restD
      rw [List.mem_filter]
      refine ⟨List.mem_range.2 (List.getElem?_eq_some_iff.1 ho).1, ?_⟩
      cases hq : natIn i imp with
      | false => rfl
      | true => exact absurd (natIn_spec.1 hq) hi
    have hv := map_eq_mem hpure hm
    unfold dval at hv
    rw [ho] at hv
    simp only at hv
    split at hv
    · rename_i hg
      rw [if_pos (gd_spec hr hg)]
      unfold Oper.wp
      rw [pv_ok ht hr hv w', Oper.upon_value]
      exact ⟨rfl, hw'⟩
    · rename_i hg
      rw [if_neg (by rw [gd_spec hr hg]; simp)]
      exact (Option.some.inj hv).symm
    · cases hv
end
end Go.Proofs.Ytcdcihmlmcnbjaa.Eng
