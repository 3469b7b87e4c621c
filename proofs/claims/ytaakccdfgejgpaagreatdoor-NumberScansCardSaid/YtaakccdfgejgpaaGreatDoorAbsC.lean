/-
  The operations that only compute are as the model has them.
-/
import Derived.Test.YtaakccdfgejgpaaGreatDoorAbsB
import Derived.Laws.Entries
import Derived.Laws.IdiomStrings
namespace Go.Proofs.YtaakccdfgejgpaaGreatDoor.Abs
open Go
set_option linter.unusedVariables false

theorem look_cons (j i : Nat) (v : AVal) (r : Fr) : look ((j, v) :: r) i = if j = i then some v else look r i := by
  show (match Nat.beq j i with | true => some v | false => look r i) = _
  by_cases h : j = i
  · subst h; rw [if_pos rfl, Nat.beq_refl]
  · rw [if_neg h]
    have : Nat.beq j i = false := by
      cases hb : Nat.beq j i
      · rfl
      · exact absurd (Nat.eq_of_beq_eq_true hb) h
    rw [this]

/-! ### Ranges -/
theorem rng_wrap (k : IntKind) (x : Int) : Rng k (k.wrap x) := by
  cases k <;> simp only [Rng, loK, hiK, IntKind.wrap, IntKind.bits, IntKind.signed] <;> simp <;> (try split) <;> omega
theorem rng_bits (op : BinOp) (k : IntKind) (x y : Int) : Rng k (Go.bits op k x y) := rng_wrap k _
theorem rngB_spec {k : IntKind} {n : Int} (h : rngB k n = true) : Rng k n := by
  simpa [rngB, Rng] using h
theorem rng_rem {k : IntKind} {x y : Int} (hx : Rng k x) : Rng k (x.tmod y) := by
  have h1 : (x.tmod y).natAbs ≤ x.natAbs := by
    rw [Int.natAbs_tmod]
    exact Nat.mod_le _ _
  have h2 : 0 ≤ x → 0 ≤ x.tmod y := fun h => Int.tmod_nonneg y h
  have h3 : x < 0 → x.tmod y ≤ 0 := by
    intro h
    have e : x.tmod y = -((-x).tmod y) := by rw [Int.neg_tmod]; simp
    have a2 := Int.tmod_nonneg (a := -x) y (by omega)
    omega
  unfold Rng at *
  have hl : loK k ≤ 0 := by cases k <;> simp [loK]
  have hh : 0 ≤ hiK k := by cases k <;> simp [hiK]
  by_cases h : 0 ≤ x
  · have := h2 h; omega
  · have := h3 (by omega); omega
theorem rng_shr {k : IntKind} {x : Int} (n : Nat) (hx : Rng k x) : Rng k (x.fdiv (2 ^ n)) := by
  have hp : (0 : Int) < 2 ^ n := Int.pow_pos (by decide)
  have hl : loK k ≤ 0 := by cases k <;> simp [loK]
  have hh : 0 ≤ hiK k := by cases k <;> simp [hiK]
  rw [Int.fdiv_eq_ediv_of_nonneg _ (Int.le_of_lt hp)]
  unfold Rng at *
  by_cases h : 0 ≤ x
  · have a1 := Int.ediv_nonneg h (Int.le_of_lt hp)
    have a2 := Int.ediv_le_self (2 ^ n) h
    omega
  · have a1 : x ≤ x / 2 ^ n := by
      refine Int.le_ediv_of_mul_le hp ?_
      have := Int.mul_le_mul_of_nonpos_left (a := x) (b := 2 ^ n) (c := 1) (by omega) (by omega)
      omega
    have a2 : x / 2 ^ n < 0 := Int.ediv_neg_of_neg_of_pos (by omega) hp
    omega
theorem rng_byte (b : UInt8) : Rng .u8 (b.toNat : Int) := by
  have := b.toNat_lt
  simp only [Rng, loK, hiK]
  omega
theorem u8_back {x : Int} (h : Rng .u8 x) : (((toU8 x).toNat : Nat) : Int) = x := by
  simp only [Rng, loK, hiK] at h
  have : (toU8 x).toNat = x.toNat := by
    simp only [toU8, Nat.toUInt8, UInt8.toNat_ofNat']
    omega
  rw [this]; omega

section
variable {P : Program} {C : Cfg} {σ σ' : List Pl} {n : Nat} {ds : List Deferred} {fr fr' : Fr} {a : Act} {w : World}

structure RepA (C : Cfg) (σ : List Pl) (n : Nat) (ds : List Deferred) (fr : Fr) (a : Act) : Prop where
  size : a.tmps.size = n
  vals : ∀ i v, look fr i = some v → ∃ c, a.tmps[i]? = some c ∧ VR C σ v c
  dfs : a.defers = ds

theorem RepA.put (h : RepA C σ n ds fr a) {d : Nat} {v : AVal} {c : Value} (hd : Nat.blt d n = true) (hv : VR C σ v c) : RepA C σ n ds ((d, v) :: fr) (a.put (some d) c) := by
  have hd' : d < n := by simpa [Nat.blt_eq] using hd
  refine ⟨by simp [Act.put, h.size], ?_, by simp [Act.put, h.dfs]⟩
  intro i u hi
  rw [look_cons] at hi
  by_cases e : d = i
  · subst e
    rw [if_pos rfl] at hi
    cases hi
    exact ⟨c, by simp [Act.put, h.size, hd'], hv⟩
  · rw [if_neg e] at hi
    simp only [Act.put]
    rw [Array.getElem?_setIfInBounds_ne e]
    exact h.vals i u hi
theorem RepA.mono (h : RepA C σ n ds fr a) (hl : Le σ σ') : RepA C σ' n ds fr a :=
  ⟨h.size, fun i v hi => let ⟨c, h1, h2⟩ := h.vals i v hi; ⟨c, h1, RL.mono hl h2⟩, h.dfs⟩
theorem RepA.sub (h : RepA C σ n ds fr a) (hs : ∀ i v, look fr' i = some v → look fr i = some v) : RepA C σ n ds fr' a :=
  ⟨h.size, fun i v hi => h.vals i v (hs i v hi), h.dfs⟩

theorem constA_ok {v : Value} {u : AVal} (h : constA v = some u) : VR C σ u v := by
  unfold constA at h
  split at h
  · split at h
    · rename_i hr; cases h; exact ⟨rngB_spec hr, rfl⟩
    · cases h
  · cases h; rfl
  · split at h
    · rename_i hr; cases h; exact ⟨by rw [Nat.blt_eq] at hr; exact hr, rfl⟩
    · cases h
  · cases h; exact ⟨trivial, rfl⟩
  · cases h; rfl
  · cases h; rfl
  · cases h; rfl
  · cases h

theorem RepA.ev (h : RepA C σ n ds fr a) {x : Operand} {u : AVal} (hx : Abs.ev fr x = some u) : VR C σ u (a.eval x) := by
  cases x with
  | tmp t =>
    obtain ⟨c, h1, h2⟩ := h.vals t u hx
    simpa [Act.eval, h1] using h2
  | const v => exact constA_ok hx
  | global g => cases hx
  | func f => cases hx; exact ⟨[], [], rfl, rfl, rfl⟩

def VLs (C : Cfg) (σ : List Pl) : List AVal → List Value → Prop
  | [], [] => True
  | v :: r, c :: s => VR C σ v c ∧ VLs C σ r s
  | _, _ => False
theorem VLs.mono (hl : Le σ σ') : ∀ {vs : List AVal} {cs : List Value}, VLs C σ vs cs → VLs C σ' vs cs
  | [], [], _ => trivial
  | _ :: _, _ :: _, ⟨h, k⟩ => ⟨RL.mono hl h, VLs.mono hl k⟩
  | [], _ :: _, h => h.elim
  | _ :: _, [], h => h.elim
theorem RepA.evL (h : RepA C σ n ds fr a) : ∀ {xs : List Operand} {us : List AVal}, Abs.evL fr xs = some us → VLs C σ us (xs.map a.eval)
  | [], us, hx => by cases hx; trivial
  | x :: r, us, hx => by
    unfold Abs.evL at hx
    split at hx
    · rename_i v l h1 h2
      cases hx
      exact ⟨h.ev h1, h.evL h2⟩
    · cases hx
theorem VLs.ofList : ∀ {vs : List AVal} {cs : List Value}, VLs C σ vs cs → RL C σ (.ofList vs) true cs
  | [], [], _ => rfl
  | _ :: _, _ :: _, ⟨h, k⟩ => ⟨_, _, h, VLs.ofList k, rfl⟩
  | [], _ :: _, h => h.elim
  | _ :: _, [], h => h.elim
theorem VLs.toList : ∀ {v : AVal} {cs : List Value}, RL C σ v true cs → ∀ (hp : v.isList = true), VLs C σ v.toList cs := by
  intro v
  induction v with
  | nil => intro cs h _; simp only [RL] at h; subst h; trivial
  | pair a r _ ih =>
    intro cs h hp
    simp only [RL] at h
    obtain ⟨c, y, h1, h2, rfl⟩ := h
    exact ⟨h1, ih h2 hp⟩
  | _ => intro cs h hp; cases hp
theorem VLs.append : ∀ {vs us : List AVal} {cs ds : List Value}, VLs C σ vs cs → VLs C σ us ds → VLs C σ (vs ++ us) (cs ++ ds)
  | [], _, [], _, _, k => k
  | _ :: _, _, _ :: _, _, ⟨h, k⟩, k' => ⟨h, VLs.append k k'⟩
  | [], _, _ :: _, _, h, _ => h.elim
  | _ :: _, _, [], _, h, _ => h.elim

/-! ### What a value's kind is -/
theorem VR.int {k : IntKind} {m : Int} {c : Value} (h : VR C σ (.int k m) c) : c = .int k m ∧ Rng k m := by
  simp only [RL] at h; exact ⟨by simpa using h.2, h.1⟩
theorem VR.bool {b : Bool} {c : Value} (h : VR C σ (.bool b) c) : c = .bool b := by simpa [RL] using h
theorem VR.str {l : List UInt8} {c : Value} (h : VR C σ (.str l) c) : c = .string (mk l) := by simp only [RL] at h; simpa using h.2
theorem VR.sb {l : List UInt8} {c : Value} (h : VR C σ (.str l) c) : SB l := by simp only [RL] at h; exact h.1
theorem VR.err {e : Er} {c : Value} (h : VR C σ (.err e) c) : c = encE C e ∧ e.rng := by simp only [RL] at h; exact ⟨by simpa using h.2, h.1⟩
theorem VR.agg {p : AVal} {c : Value} (h : VR C σ (.agg p) c) : ∃ x, RL C σ p false x ∧ c = .agg x.toArray := by
  simp only [RL] at h; obtain ⟨x, h1, h2⟩ := h; exact ⟨x, h1, by simpa using h2⟩
theorem VR.arr {m : Nat} {s : Sq} {c : Value} (h : VR C σ (.arr m s) c) : c = .agg s.cells.toArray ∧ s.len = m ∧ s.rng := by
  simp only [RL] at h; exact ⟨by simpa using h.2.2, h.1, h.2.1⟩
theorem VR.tup {p : AVal} {c : Value} (h : VR C σ (.tup p) c) : ∃ x, RL C σ p true x ∧ c = .tuple x.toArray := by
  simp only [RL] at h; obtain ⟨x, h1, h2⟩ := h; exact ⟨x, h1, by simpa using h2⟩
theorem VR.nilp {c : Value} (h : VR C σ .nilp c) : c = .pointer none := by simpa [RL] using h
theorem VR.nils {c : Value} (h : VR C σ .nils c) : c = .slice none 0 0 := by simpa [RL] using h
theorem VR.ptr {b g : Nat} {p : List Stp} {c : Value} (h : VR C σ (.ptr b g p) c) : ∃ pl a, σ[b]? = some pl ∧ g ≤ pl.gen ∧ (g = pl.gen → pokB C.tt pl p ∧ ∃ c o, pl.at_ = some (c, o) ∧ a = ⟨c, o + offB C.tt pl p, none⟩) ∧ c = .pointer (some a) := by
  simp only [RL] at h
  obtain ⟨pl, a, h1, h2, h3, h4⟩ := h
  exact ⟨pl, a, h1, h2, h3, by simpa using h4⟩
theorem VR.slice {b g : Nat} {v : Vw} {c : Value} (h : VR C σ (.slice b g v) c) : ∃ pl A len cap, σ[b]? = some pl ∧ g ≤ pl.gen ∧ (g = pl.gen → SlOk pl v A len cap) ∧ c = .slice A len cap := by
  simp only [RL] at h
  obtain ⟨pl, A, len, cap, h1, h2, h3, h4⟩ := h
  exact ⟨pl, A, len, cap, h1, h2, h3, by simpa using h4⟩

theorem nthT : ∀ {p : AVal} {i : Nat} {v : AVal} {x : List Value}, p.nth i = some v → RL C σ p true x → ∃ c, x[i]? = some c ∧ VR C σ v c := by
  intro p
  induction p with
  | pair a r _ ih =>
    intro i v x h hr
    simp only [RL] at hr
    obtain ⟨c, y, h1, h2, rfl⟩ := hr
    cases i with
    | zero => simp only [AVal.nth, Option.some.injEq] at h; subst h; exact ⟨c, rfl, h1⟩
    | succ i => simp only [AVal.nth] at h; obtain ⟨c', k1, k2⟩ := ih h h2; exact ⟨c', by simpa using k1, k2⟩
  | _ => intro i v x h _; simp [AVal.nth] at h

/-! ### Flat cells -/
theorem tlk_sz {tt : Tab} {t : Nat} {te : TE} (h : tlk tt t = some te) : szT tt t = te.sz := by simp [szT, h]

theorem sqOk_sz (ht : TabOk P C.tt) {e : Nat} {s : Sq} (h : sqOk C.tt e s = true) : szT C.tt e = s.esz := by
  unfold sqOk at h
  split at h
  · rename_i z hz
    unfold zq at hz
    split at hz
    all_goals try cases hz
    · rename_i he; have := (ht _ _ he).2; rw [tlk_sz he]; cases s <;> simp [Sq.like] at h; simpa [Sq.esz] using this.2
    · rename_i he; have := (ht _ _ he).2; rw [tlk_sz he]; cases s <;> simp [Sq.like] at h; simpa [Sq.esz] using this.2
    · rename_i he; have := (ht _ _ he).2; rw [tlk_sz he]; cases s <;> simp [Sq.like] at h; simpa [Sq.esz] using this.2
    · rename_i he; have := (ht _ _ he).2; rw [tlk_sz he]; cases s <;> simp [Sq.like] at h; simpa [Sq.esz] using this.2
    · rename_i he
      have hk := (ht _ _ he).2
      split at hz
      · rename_i h1 h2 h3 h4 h5
        cases hz
        have k1 := (ht _ _ h1).2
        have k2 := (ht _ _ h2).2
        have k3 := (ht _ _ h3).2
        have k4 := (ht _ _ h4).2
        have k5 := (ht _ _ h5).2
        simp only [KOk] at hk k1 k2 k3 k4 k5
        rw [tlk_sz he, hk.2.2.1]
        cases s <;> simp [Sq.like] at h
        simp [sumSz, tlk_sz h1, tlk_sz h2, tlk_sz h3, tlk_sz h4, tlk_sz h5, k1.2, k2.2, k3.2, k4.2, k5.2, Sq.esz]
      · cases hz
  · cases h

theorem RL.len (ht : TabOk P C.tt) : ∀ {v : AVal} {ts : List Nat} {cs : List Value}, fits C.tt v ts = true → RL C σ v false cs → cs.length = sumSz C.tt ts := by
  intro v
  have one : ∀ {t : Nat} {te : TE} {cs : List Value}, tlk C.tt t = some te → te.sz = 1 → cs.length = 1 → cs.length = sumSz C.tt [t] := by
    intro t te cs h1 h2 h3
    simp [sumSz, tlk_sz h1, h2, h3]
  induction v with
  | nil => intro ts cs h hr; simp only [RL] at hr; subst hr; cases ts <;> simp [fits] at h; rfl
  | pair a r iha ihr =>
    intro ts cs h hr
    simp only [RL] at hr
    obtain ⟨x, y, h1, h2, rfl⟩ := hr
    cases ts with
    | nil => simp [fits] at h
    | cons t ts =>
      simp only [fits, Bool.and_eq_true] at h
      rw [List.length_append, iha h.2.1 h1, ihr h.2.2 h2]
      simp [sumSz]
  | agg p ih =>
    intro ts cs h hr
    simp only [RL] at hr
    match ts, h with
    | [t], h =>
      simp only [fits] at h
      split at h
      · rename_i fs _ _ _ he
        rw [Bool.and_eq_true] at h
        rw [ih h.2 hr]
        have hk := (ht _ _ he).2
        simp only [KOk] at hk
        simp [sumSz, tlk_sz he, hk.2.2.1]
      · cases h
    | [], h => simp [fits] at h
    | _ :: _ :: _, h => simp [fits] at h
  | arr m s =>
    intro ts cs h hr
    simp only [RL] at hr
    obtain ⟨h1, _, rfl⟩ := hr
    match ts, h with
    | [t], h =>
      simp only [fits] at h
      split at h
      · rename_i n' e _ _ _ he
        simp only [Bool.and_eq_true] at h
        have hk := (ht _ _ he).2
        simp only [KOk] at hk
        have := Nat.eq_of_beq_eq_true h.1
        rw [Sq.cells_len, h1, ← sqOk_sz ht h.2, this]
        simp [sumSz, tlk_sz he, hk.2.1]
      · cases h
    | [], h => simp [fits] at h
    | _ :: _ :: _, h => simp [fits] at h
  | undef => intro ts cs h hr; simp [RL] at hr
  | tup p _ => intro ts cs h hr; simp [RL] at hr
  | bool b =>
    intro ts cs h hr
    match ts, h with
    | [t], h =>
      simp only [fits] at h; split at h
      · rename_i he; exact one he (ht _ _ he).2.2 (by simp [RL] at hr; simp [hr])
      · cases h
    | [], h => simp [fits] at h
    | _ :: _ :: _, h => simp [fits] at h
  | int k m =>
    intro ts cs h hr
    match ts, h with
    | [t], h =>
      simp only [fits] at h; split at h
      · rename_i he; exact one he (ht _ _ he).2.2 (by simp [RL] at hr; simp [hr])
      · cases h
    | [], h => simp [fits] at h
    | _ :: _ :: _, h => simp [fits] at h
  | str l =>
    intro ts cs h hr
    match ts, h with
    | [t], h =>
      simp only [fits] at h; split at h
      · rename_i he; exact one he (ht _ _ he).2.2 (by simp only [RL] at hr; simp [hr.2])
      · cases h
    | [], h => simp [fits] at h
    | _ :: _ :: _, h => simp [fits] at h
  | err e =>
    intro ts cs h hr
    match ts, h with
    | [t], h =>
      simp only [fits] at h; split at h
      · rename_i he; exact one he (ht _ _ he).2.2 (by simp [RL] at hr; simp [hr])
      · cases h
    | [], h => simp [fits] at h
    | _ :: _ :: _, h => simp [fits] at h
  | nilp =>
    intro ts cs h hr
    match ts, h with
    | [t], h =>
      simp only [fits] at h; split at h
      · rename_i he; exact one he (ht _ _ he).2.2 (by simp [RL] at hr; simp [hr])
      · cases h
    | [], h => simp [fits] at h
    | _ :: _ :: _, h => simp [fits] at h
  | ptr b g p =>
    intro ts cs h hr
    match ts, h with
    | [t], h =>
      simp only [fits] at h; split at h
      · rename_i he; exact one he (ht _ _ he).2.2 (by simp only [RL] at hr; obtain ⟨_, _, _, _, _, hr⟩ := hr; simp [hr])
      · cases h
    | [], h => simp [fits] at h
    | _ :: _ :: _, h => simp [fits] at h
  | nils =>
    intro ts cs h hr
    match ts, h with
    | [t], h =>
      simp only [fits] at h; split at h
      · rename_i he; exact one he (ht _ _ he).2.2 (by simp [RL] at hr; simp [hr])
      · cases h
    | [], h => simp [fits] at h
    | _ :: _ :: _, h => simp [fits] at h
  | slice b g v =>
    intro ts cs h hr
    match ts, h with
    | [t], h =>
      simp only [fits] at h; split at h
      · rename_i he; exact one he (ht _ _ he).2.2 (by simp only [RL] at hr; obtain ⟨_, _, _, _, _, _, _, hr⟩ := hr; simp [hr])
      · cases h
    | [], h => simp [fits] at h
    | _ :: _ :: _, h => simp [fits] at h
  | nilfn =>
    intro ts cs h hr
    match ts, h with
    | [t], h =>
      simp only [fits] at h; split at h
      · rename_i he; exact one he (ht _ _ he).2.2 (by simp [RL] at hr; simp [hr])
      · cases h
    | [], h => simp [fits] at h
    | _ :: _ :: _, h => simp [fits] at h
  | fn f x y _ _ =>
    intro ts cs h hr
    match ts, h with
    | [t], h =>
      simp only [fits] at h; split at h
      · rename_i he; exact one he (ht _ _ he).2.2 (by simp only [RL] at hr; obtain ⟨_, _, _, _, hr⟩ := hr; simp [hr])
      · cases h
    | [], h => simp [fits] at h
    | _ :: _ :: _, h => simp [fits] at h
end
end Go.Proofs.YtaakccdfgejgpaaGreatDoor.Abs
