/-
  Parts of values and their cells.
-/
import Derived.Test.YtaakccdfgejgpaaGreatDoorAbsC
namespace Go.Proofs.YtaakccdfgejgpaaGreatDoor.Abs
open Go
set_option linter.unusedVariables false

/-! ### Lists -/
theorem take_sub {α : Type} {l us : List α} {a b c d : Nat} (h : (((l.drop a).take b).drop c).take d = us) (hd : us.length = d) : (l.drop (a + c)).take d = us := by
  rw [List.drop_take, List.drop_drop, List.take_take] at h
  have hl := congrArg List.length h
  rw [List.length_take, hd] at hl
  have : min d (b - c) = d := by omega
  rw [this] at h
  exact h
theorem take_app {α : Type} {x y : List α} {n : Nat} (h : x.length = n) : (x ++ y).take n = x := by subst h; exact List.take_left
theorem drop_app {α : Type} {x y : List α} {n : Nat} (h : x.length = n) : (x ++ y).drop n = y := by subst h; exact List.drop_left

/-- So many cells put in, from a place on. -/
def putAt (cs : List Value) (off : Nat) (vs : List Value) : List Value := cs.take off ++ vs ++ cs.drop (off + vs.length)
theorem putAt_len {cs vs : List Value} {off : Nat} (h : off + vs.length ≤ cs.length) : (putAt cs off vs).length = cs.length := by
  simp only [putAt, List.length_append, List.length_take, List.length_drop]
  omega
theorem putAt_app1 {x y vs : List Value} {off : Nat} (h : off + vs.length ≤ x.length) : putAt (x ++ y) off vs = putAt x off vs ++ y := by
  simp only [putAt]
  rw [List.take_append_of_le_length (by omega), List.drop_append_of_le_length (by omega)]
  simp
theorem putAt_app2 {x y vs : List Value} {off n : Nat} (h : x.length = n) : putAt (x ++ y) (n + off) vs = x ++ putAt y off vs := by
  subst h
  simp only [putAt]
  rw [List.take_length_add_append, Nat.add_assoc, List.drop_length_add_append]
  simp
theorem putAt_all {x vs : List Value} (h : vs.length = x.length) : putAt x 0 vs = vs := by
  simp [putAt, h]
/-- Into a piece, and the piece back. -/
theorem putAt_in {cs vs : List Value} {a b off : Nat} (h : off + vs.length ≤ ((cs.drop a).take b).length) :
    putAt cs a (putAt ((cs.drop a).take b) off vs) = putAt cs (a + off) vs := by
  have hl : ((cs.drop a).take b).length ≤ cs.length - a := by simp; omega
  have hx : cs = cs.take a ++ ((cs.drop a).take b ++ (cs.drop a).drop b) := by rw [List.take_append_drop, List.take_append_drop]
  have ha : (cs.take a).length = a ∨ (vs.length = 0 ∧ off = 0) := by
    by_cases e : a ≤ cs.length
    · left; simp; omega
    · right; simp only [List.length_take, List.length_drop] at h; omega
  rcases ha with ha | ⟨h1, h2⟩
  · have hp := putAt_len h
    generalize hM : (cs.drop a).take b = M at *
    generalize hR : (cs.drop a).drop b = R at *
    generalize hA : cs.take a = A at *
    rw [hx]
    have e1 : putAt (A ++ (M ++ R)) (a + off) vs = A ++ (putAt M off vs ++ R) := by rw [putAt_app2 ha, putAt_app1 h]
    have e2 : putAt (A ++ (M ++ R)) a (putAt M off vs) = A ++ (putAt M off vs ++ R) := by
      have := putAt_app2 (y := M ++ R) (vs := putAt M off vs) (off := 0) ha
      rw [Nat.add_zero] at this
      rw [this, putAt_app1 (by rw [hp]; omega), putAt_all hp]
    rw [e1, e2]
  · have : vs = [] := List.eq_nil_of_length_eq_zero h1
    subst this
    subst h2
    have e0 : putAt ((cs.drop a).take b) 0 [] = (cs.drop a).take b := by simp [putAt]
    have e1 : putAt cs (a + 0) [] = cs := by simp [putAt]
    rw [e0, e1]
    simp only [putAt]
    conv => rhs; rw [hx]
    rw [List.append_assoc]
    congr 2
    rw [List.drop_drop]
    simp only [List.length_take, List.length_drop]
    by_cases hb : b ≤ cs.length - a
    · rw [Nat.min_eq_left hb]
    · rw [Nat.min_eq_right (by omega), List.drop_eq_nil_of_le (by omega), List.drop_eq_nil_of_le (by omega)]

section
variable {P : Program} {C : Cfg} {σ σ' : List Pl} {n : Nat} {w : World}

theorem RL.one : ∀ {v : AVal} {cs : List Value}, RL C σ v false cs → ∀ c ∈ cs, c.oneCell' = true := by
  intro v
  induction v with
  | pair a r iha ihr =>
    intro cs h c hc
    simp only [RL] at h
    obtain ⟨x, y, h1, h2, rfl⟩ := h
    rcases List.mem_append.1 hc with hc | hc
    · exact iha h1 c hc
    · exact ihr h2 c hc
  | agg p ih => intro cs h c hc; simp only [RL] at h; exact ih h c hc
  | arr m s =>
    intro cs h c hc
    simp only [RL] at h
    obtain ⟨_, _, rfl⟩ := h
    cases s <;> simp only [Sq.cells] at hc
    case tok l =>
      obtain ⟨t, _, ht⟩ := List.mem_flatMap.1 hc
      simp only [encTk, List.mem_cons, List.mem_nil_iff, or_false] at ht
      rcases ht with rfl | rfl | rfl | rfl | rfl <;> rfl
    all_goals (obtain ⟨_, _, rfl⟩ := List.mem_map.1 hc; rfl)
  | undef => intro cs h; simp [RL] at h
  | tup p _ => intro cs h; simp [RL] at h
  | nil => intro cs h c hc; simp only [RL] at h; subst h; cases hc
  | int k m => intro cs h c hc; simp only [RL] at h; obtain ⟨_, rfl⟩ := h; rw [List.mem_singleton.1 hc]; rfl
  | str l => intro cs h c hc; simp only [RL] at h; obtain ⟨_, rfl⟩ := h; rw [List.mem_singleton.1 hc]; rfl
  | err e => intro cs h c hc; simp only [RL] at h; obtain ⟨_, rfl⟩ := h; rw [List.mem_singleton.1 hc]; cases e <;> rfl
  | ptr b g p => intro cs h c hc; simp only [RL] at h; obtain ⟨_, _, _, _, _, rfl⟩ := h; rw [List.mem_singleton.1 hc]; rfl
  | slice b g v => intro cs h c hc; simp only [RL] at h; obtain ⟨_, _, _, _, _, _, _, _, rfl⟩ := h; rw [List.mem_singleton.1 hc]; rfl
  | fn f x y _ _ => intro cs h c hc; simp only [RL] at h; obtain ⟨_, _, _, _, rfl⟩ := h; rw [List.mem_singleton.1 hc]; rfl
  | _ => intro cs h c hc; simp only [RL] at h; subst h; rw [List.mem_singleton.1 hc]; rfl

/-- A value's own cells. -/
theorem VR.cells {v : AVal} {c : Value} {ts : List Nat} (hf : fits C.tt v ts = true) (hp : v.isList = false) (h : VR C σ v c) : ∃ cs, RL C σ v false cs ∧ c.cells = cs.toArray := by
  cases v with
  | undef => simp [fits] at hf
  | nil => simp [AVal.isList] at hp
  | tup p => simp [fits] at hf
  | pair a r =>
    simp only [RL] at h
    obtain ⟨d, y, h1, h2, h3⟩ := h
    cases r <;> first | (simp only [RL] at h2; subst h2; simp [AVal.isList] at hp; done) | skip
    all_goals (simp only [List.cons.injEq] at h3; obtain ⟨rfl, rfl⟩ := h3; simp [RL] at h2)
  | agg p => obtain ⟨x, h1, rfl⟩ := VR.agg h; exact ⟨x, h1, rfl⟩
  | arr m s => obtain ⟨rfl, h1, h2⟩ := VR.arr h; exact ⟨_, ⟨h1, h2, rfl⟩, rfl⟩
  | bool b => cases VR.bool h; exact ⟨_, rfl, rfl⟩
  | int k m => obtain ⟨rfl, hr⟩ := VR.int h; exact ⟨_, ⟨hr, rfl⟩, rfl⟩
  | str l => cases VR.str h; exact ⟨_, ⟨VR.sb h, rfl⟩, rfl⟩
  | err e => obtain ⟨rfl, hr⟩ := VR.err h; exact ⟨_, ⟨hr, rfl⟩, by cases e <;> rfl⟩
  | nilp => cases VR.nilp h; exact ⟨_, rfl, rfl⟩
  | nils => cases VR.nils h; exact ⟨_, rfl, rfl⟩
  | ptr b g p => obtain ⟨pl, a, h1, h2, h3, rfl⟩ := VR.ptr h; exact ⟨_, ⟨pl, a, h1, h2, h3, rfl⟩, rfl⟩
  | slice b g v => obtain ⟨pl, A, len, cap, h1, h2, h3, rfl⟩ := VR.slice h; exact ⟨_, ⟨pl, A, len, cap, h1, h2, h3, rfl⟩, rfl⟩
  | nilfn => simp only [RL] at h; cases h; exact ⟨_, rfl, rfl⟩
  | fn f x y =>
    simp only [RL] at h
    obtain ⟨p, q, h1, h2, h3⟩ := h
    simp only [List.cons.injEq, and_true] at h3
    subst h3
    exact ⟨_, ⟨p, q, h1, h2, rfl⟩, rfl⟩

theorem fits_one {tt : Tab} {v : AVal} {t : Nat} (h : fits tt v [t] = true) : v.isList = false ∨ ∃ a, v = .pair a .nil := by
  cases v with
  | pair a r => cases r <;> first | exact .inr ⟨a, rfl⟩ | (simp [fits] at h; done) | (exact .inl rfl)
  | nil => simp [fits] at h
  | _ => exact .inl rfl

/-- Does a type's value lie in one cell? -/
theorem agg_run (ht : TabOk P C.tt) {t : Nat} {te : TE} (h : tlk C.tt t = some te) (w : World) : (isAgg t).run P w = .ok (!plainK te.k) w := by
  have := (ht t te h).2
  obtain ⟨k, sz, bt, eq⟩ := te
  cases k <;> simp only [KOk] at this <;> simp only [plainK]
  case err => obtain ⟨⟨ms, hu⟩, _⟩ := this; simp [isAgg, run_underlying hu]
  case struct => obtain ⟨⟨fs, hu, _⟩, _⟩ := this; simp [isAgg, run_underlying hu]
  case fn => obtain ⟨⟨_, _, _, hu⟩, _⟩ := this; simp [isAgg, run_underlying hu]
  all_goals simp [isAgg, run_underlying this.1]
theorem info_run (ht : TabOk P C.tt) {t : Nat} {te : TE} (h : tlk C.tt t = some te) : ∃ i z, P.info? t = some i ∧ i.size = te.sz ∧ i.bytes = te.bt ∧ i.zero = some (packV z) ∧ zeroA C.tt depth t = some z := by
  have := (ht t te h).1.1
  split at this
  · rename_i v hv
    obtain ⟨i, h1, h2, h3, h4⟩ := this.get
    exact ⟨i, v, h1, h3, h4, h2, hv⟩
  · exact this.elim
theorem size_run (ht : TabOk P C.tt) {t : Nat} {te : TE} (h : tlk C.tt t = some te) (w : World) : (sizeOf t).run P w = .ok te.sz w := by
  obtain ⟨i, _, h1, h2, _⟩ := info_run ht h
  simp [sizeOf, typeInfo, h1, h2]
theorem zero_run (ht : TabOk P C.tt) {t : Nat} {te : TE} (h : tlk C.tt t = some te) (w : World) : ∃ z, zeroA C.tt depth t = some z ∧ (zeroValue t).run P w = .ok (packV z) w := by
  obtain ⟨i, z, h1, _, _, h4, h5⟩ := info_run ht h
  exact ⟨z, h5, by simp [zeroValue, typeInfo, h1, h4]⟩

theorem fits_tlk {tt : Tab} {v : AVal} {t : Nat} (h : fits tt v [t] = true) (hp : v.isList = false) : ∃ te, tlk tt t = some te ∧ (plainK te.k = true ↔ (∀ p, v ≠ .agg p) ∧ (∀ m s, v ≠ .arr m s)) := by
  cases v <;> first | (simp [AVal.isList] at hp; done) | (simp only [fits] at h)
  case pair a r => cases r <;> simp [fits, AVal.isList] at h hp
  all_goals (first | (cases h; done) | skip)
  all_goals (split at h <;> first | (cases h; done) | (rename_i he; exact ⟨_, he, by simp [plainK]⟩))

/-- Cells put together as one value of a type. -/
theorem pack_ok (ht : TabOk P C.tt) {v : AVal} {t : Nat} {te : TE} {vs : List Value} (hf : fits C.tt v [t] = true) (hp : v.isList = false) (hte : tlk C.tt t = some te) (h : RL C σ v false vs) :
    (plainK te.k = false ∧ VR C σ v (.agg vs.toArray)) ∨ (plainK te.k = true ∧ ∃ c, vs = [c] ∧ VR C σ v c) := by
  obtain ⟨te', h1, h2⟩ := fits_tlk hf hp
  rw [hte] at h1; cases h1
  cases v with
  | agg p => left; exact ⟨by cases hq : plainK te.k; rfl; exact absurd rfl ((h2.1 hq).1 p), vs, h, rfl⟩
  | arr m s =>
    left
    refine ⟨by cases hq : plainK te.k; rfl; exact absurd rfl ((h2.1 hq).2 m s), ?_⟩
    simp only [RL] at h
    obtain ⟨k1, k2, rfl⟩ := h
    exact ⟨k1, k2, rfl⟩
  | nil => simp [AVal.isList] at hp
  | pair a r => cases r <;> simp [fits, AVal.isList] at hf hp
  | undef => simp [RL] at h
  | tup p => simp [RL] at h
  | int k m => right; exact ⟨h2.2 ⟨by simp, by simp⟩, _, h.2, ⟨h.1, rfl⟩⟩
  | err e => right; exact ⟨h2.2 ⟨by simp, by simp⟩, _, h.2, ⟨h.1, rfl⟩⟩
  | ptr b g p => right; obtain ⟨pl, a, k1, k2, k3, rfl⟩ := h; exact ⟨h2.2 ⟨by simp, by simp⟩, _, rfl, pl, a, k1, k2, k3, rfl⟩
  | slice b g q => right; obtain ⟨pl, A, len, cap, k1, k2, k3, rfl⟩ := h; exact ⟨h2.2 ⟨by simp, by simp⟩, _, rfl, pl, A, len, cap, k1, k2, k3, rfl⟩
  | fn f x y => right; obtain ⟨p, q, k1, k2, rfl⟩ := h; exact ⟨h2.2 ⟨by simp, by simp⟩, _, rfl, p, q, k1, k2, rfl⟩
  | bool b => right; exact ⟨h2.2 ⟨by simp, by simp⟩, _, h, rfl⟩
  | str l => right; exact ⟨h2.2 ⟨by simp, by simp⟩, _, h.2, ⟨h.1, rfl⟩⟩
  | nilp => right; exact ⟨h2.2 ⟨by simp, by simp⟩, _, h, rfl⟩
  | nils => right; exact ⟨h2.2 ⟨by simp, by simp⟩, _, h, rfl⟩
  | nilfn => right; exact ⟨h2.2 ⟨by simp, by simp⟩, _, h, rfl⟩

/-! ### Elements of rows -/
theorem Sq.get_ok {s : Sq} (hr : s.rng) {i : Nat} (hi : i < s.len) : ∃ us, RL C σ (s.get i) false us ∧ (s.cells.drop (i * s.esz)).take s.esz = us ∧ us.length = s.esz := by
  cases s with
  | u8 l =>
    simp only [Sq.len] at hi
    refine ⟨[.int .u8 ((l.getD i 0).toNat : Int)], ⟨rng_byte _, rfl⟩, ?_, rfl⟩
    simp only [Sq.cells, Sq.esz, Nat.mul_one]
    rw [List.drop_eq_getElem_cons (by simpa using hi)]
    simp [List.getD_eq_getElem?_getD, hi]
  | int k l =>
    simp only [Sq.len] at hi
    refine ⟨[.int k (l.getD i 0)], ⟨hr _ (by simp [List.getD_eq_getElem?_getD, hi]), rfl⟩, ?_, rfl⟩
    simp only [Sq.cells, Sq.esz, Nat.mul_one]
    rw [List.drop_eq_getElem_cons (by simpa using hi)]
    simp [List.getD_eq_getElem?_getD, hi]
  | str l =>
    simp only [Sq.len] at hi
    refine ⟨[.string (mk (l.getD i []))], ⟨hr _ (by simp [List.getD_eq_getElem?_getD, hi]), rfl⟩, ?_, rfl⟩
    simp only [Sq.cells, Sq.esz, Nat.mul_one]
    rw [List.drop_eq_getElem_cons (by simpa using hi)]
    simp [List.getD_eq_getElem?_getD, hi]
  | bool l =>
    simp only [Sq.len] at hi
    refine ⟨[.bool (l.getD i false)], rfl, ?_, rfl⟩
    simp only [Sq.cells, Sq.esz, Nat.mul_one]
    rw [List.drop_eq_getElem_cons (by simpa using hi)]
    simp [List.getD_eq_getElem?_getD, hi]
  | tok l =>
    simp only [Sq.len] at hi
    have hg : l.getD i tk0 = l[i] := by simp [List.getD_eq_getElem?_getD, hi]
    have hm := hr _ (List.getElem_mem hi)
    refine ⟨encTk (l.getD i tk0), ?_, ?_, rfl⟩
    · obtain ⟨h1, h2, h3, h4⟩ := hm
      show RL C σ (tkA (l.getD i tk0)) false _
      rw [hg]
      exact ⟨_, _, ⟨h1, rfl⟩, ⟨_, _, ⟨h2, rfl⟩, ⟨_, _, ⟨h3, rfl⟩, ⟨_, _, rfl, ⟨_, _, ⟨h4, rfl⟩, rfl, rfl⟩, rfl⟩, rfl⟩, rfl⟩, rfl⟩
    · rw [hg]
      simp only [Sq.cells, Sq.esz]
      clear hr hm hg
      induction l generalizing i with
      | nil => simp at hi
      | cons t r ih =>
        cases i with
        | zero => rfl
        | succ i =>
          rw [List.flatMap_cons, show (i + 1) * 5 = (encTk t).length + i * 5 by simp [encTk]; omega, List.drop_length_add_append]
          exact ih (by simpa using hi)

theorem like_fits {tt : Tab} {e i : Nat} {s : Sq} (h : sqOk tt e s = true) : fits tt (s.get i) [e] = true := by
  unfold sqOk at h
  split at h
  · rename_i z hz
    unfold zq at hz
    split at hz
    · rename_i he; cases hz; cases s <;> simp [Sq.like] at h; simp [Sq.get, fits, he, kindEq]
    · rename_i he; cases hz; cases s <;> simp [Sq.like] at h; rw [kindEq_spec h] at he; simp [Sq.get, fits, he, kindEq_refl]
    · rename_i he; cases hz; cases s <;> simp [Sq.like] at h; simp [Sq.get, fits, he]
    · rename_i he; cases hz; cases s <;> simp [Sq.like] at h; simp [Sq.get, fits, he]
    · rename_i he
      split at hz
      · rename_i h1 h2 h3 h4 h5
        cases hz
        cases s <;> simp [Sq.like] at h
        simp [Sq.get, tkA, fits, he, h1, h2, h3, h4, h5, kindEq, AVal.isList]
      · cases hz
    · cases hz
  · cases h
end
end Go.Proofs.YtaakccdfgejgpaaGreatDoor.Abs
