/-
  Values put together, new rows, rows that grow.
-/
import Derived.Test.YtaakccdfgejgpaaGreatDoorAbsJ
namespace Go.Proofs.YtaakccdfgejgpaaGreatDoor.Abs
open Go
set_option linter.unusedVariables false

section
variable {P : Program} {C : Cfg} {σ σ' : List Pl} {n : Nat} {w w' w0 : World} {F G : Nat → Prop} {H : Heap}

/-- Parts: so many places, and a value each. -/
def VPs (C : Cfg) (σ : List Pl) : List (Nat × AVal) → List (Nat × Value) → Prop
  | [], [] => True
  | (i, v) :: r, (j, c) :: s => i = j ∧ VR C σ v c ∧ VPs C σ r s
  | _, _ => False

theorem sum_take {tt : Tab} : ∀ {ts : List Nat} {i t : Nat}, ts[i]? = some t → sumSz tt (ts.take i) + szT tt t ≤ sumSz tt ts
  | [], i, t, h => by cases h
  | u :: r, 0, t, h => by simp at h; subst h; simp [sumSz]
  | u :: r, i + 1, t, h => by
    have := sum_take (tt := tt) (ts := r) (i := i) (t := t) (by simpa using h)
    simp only [List.take_succ_cons, sumSz]
    omega

theorem fill_struct (ht : TabOk P C.tt) {fs : List (Nat × Nat)} {place : Nat → Option (Nat × Nat)} (hoff : offsOk C.tt 0 fs = true) (hpl : ∀ i t o, fs[i]? = some (t, o) → place i = some (o, szT C.tt t)) :
    ∀ (l : List (Nat × AVal)) (lv : List (Nat × Value)) {z p : AVal} {cs : List Value}, VPs C σ l lv → fitsAt C.tt fs l = true → fits C.tt z (fs.map (·.1)) = true → RL C σ z false cs → build1 z l = some p →
      ∃ cs', Instr.fill place cs.toArray lv = some cs'.toArray ∧ RL C σ p false cs' ∧ fits C.tt p (fs.map (·.1)) = true
  | [], [], z, p, cs, _, _, hf, hr, hb => by
    simp only [build1, Option.some.injEq] at hb
    subst hb
    exact ⟨cs, rfl, hr, hf⟩
  | [], _ :: _, _, _, _, h, _, _, _, _ => h.elim
  | _ :: _, [], _, _, _, h, _, _, _, _ => h.elim
  | (i, v) :: r, (j, c) :: s, z, p, cs, ⟨hij, hv, hvs⟩, hfa, hf, hr, hb => by
    subst hij
    simp only [build1] at hb
    split at hb
    · rename_i z' hz'
      simp only [fitsAt] at hfa
      split at hfa
      · rename_i t o hfi
        simp only [Bool.and_eq_true] at hfa
        have hf1 := hfa.1
        have hf1' := hf1
        simp only [fit1, Bool.and_eq_true, Bool.not_eq_true'] at hf1'
        obtain ⟨vs, q1, q2⟩ := VR.cells hf1'.2 hf1'.1 hv
        have hti : (fs.map (·.1))[i]? = some t := by simp [hfi]
        obtain ⟨k1, k2⟩ := setNth_ok ht hf hr hz' hti hf1 q1
        have ho := offs_ok hoff hfi
        rw [Nat.zero_add] at ho
        rw [← ho] at k2
        have hvl : vs.length = szT C.tt t := by rw [RL.len ht hf1'.2 q1]; simp [sumSz]
        have hle : o + vs.length ≤ cs.length := by
          rw [ho, hvl, RL.len ht hf hr]
          exact sum_take hti
        obtain ⟨cs', m1, m2, m3⟩ := fill_struct ht hoff hpl r s hvs hfa.2 k1 k2 hb
        exact ⟨cs', by rw [fill_cons (hpl i t o hfi) q2 hvl hle]; exact m1, m2, m3⟩
      · cases hfa
    · cases hb

theorem fill_sq (ht : TabOk P C.tt) {e sz : Nat} : ∀ (l : List (Nat × AVal)) (lv : List (Nat × Value)) {z s : Sq}, VPs C σ l lv → sqOk C.tt e z = true → z.rng → z.esz = sz → build2 z l = some s →
      Instr.fill (fun i => some (i * sz, sz)) z.cells.toArray lv = some s.cells.toArray ∧ s.rng ∧ s.len = z.len ∧ s.esz = z.esz ∧ sqOk C.tt e s = true
  | [], [], z, s, _, hq, hr, hsz, hb => by
    simp only [build2, Option.some.injEq] at hb
    subst hb
    exact ⟨rfl, hr, rfl, rfl, hq⟩
  | [], _ :: _, _, _, h, _, _, _, _ => h.elim
  | _ :: _, [], _, _, h, _, _, _, _ => h.elim
  | (i, v) :: r, (j, c) :: s', z, s, ⟨hij, hv, hvs⟩, hq, hr, hsz, hb => by
    subst hij
    simp only [build2] at hb
    split at hb
    · rename_i z' hlt hz'
      have hi : i < z.len := by rwa [Nat.blt_eq] at hlt
      have hvv : ∃ vs, RL C σ v false vs ∧ c.cells = vs.toArray := by
        cases z with
        | u8 l => cases v <;> simp [Sq.set] at hz'; obtain ⟨rfl, hr⟩ := VR.int hv; exact ⟨_, ⟨hr, rfl⟩, rfl⟩
        | int k l => cases v <;> simp [Sq.set] at hz'; obtain ⟨rfl, hr⟩ := VR.int hv; exact ⟨_, ⟨hr, rfl⟩, rfl⟩
        | str l => cases v <;> simp [Sq.set] at hz'; have := VR.sb hv; cases VR.str hv; exact ⟨_, ⟨this, rfl⟩, rfl⟩
        | bool l => cases v <;> simp [Sq.set] at hz'; cases VR.bool hv; exact ⟨_, rfl, rfl⟩
        | tok l =>
          simp only [Sq.set] at hz'
          split at hz'
          · rename_i t htk
            have := tkOf_spec htk
            subst this
            obtain ⟨x, h1, rfl⟩ := VR.agg hv
            exact ⟨x, h1, rfl⟩
          · cases hz'
      obtain ⟨vs, q1, q2⟩ := hvv
      obtain ⟨k1, k2, k3, k4, k5⟩ := Sq.set_ok hr hi hz' q1
      have hvl : vs.length = sz := by
        obtain ⟨us, g1, g2, g3⟩ := Sq.get_ok (C := C) (σ := σ) hr hi
        have h1 := congrArg List.length k5
        rw [Sq.cells_len, k2, k3] at h1
        cases z with
        | tok l =>
          simp only [Sq.set] at hz'
          split at hz'
          · rename_i t htk
            have := tkOf_spec htk
            subst this
            simp only [tkA, RL] at q1
            obtain ⟨x1, y1, ⟨_, rfl⟩, ⟨x2, y2, ⟨_, rfl⟩, ⟨x3, y3, ⟨_, rfl⟩, ⟨x4, y4, rfl, ⟨x5, y5, ⟨_, rfl⟩, rfl, rfl⟩, rfl⟩, rfl⟩, rfl⟩, rfl⟩ := q1
            rw [← hsz]; rfl
          · cases hz'
        | u8 l => cases v <;> simp [Sq.set] at hz'; simp only [RL] at q1; rw [q1.2, ← hsz]; rfl
        | int k l => cases v <;> simp [Sq.set] at hz'; simp only [RL] at q1; rw [q1.2, ← hsz]; rfl
        | str l => cases v <;> simp [Sq.set] at hz'; simp only [RL] at q1; rw [q1.2, ← hsz]; rfl
        | bool l => cases v <;> simp [Sq.set] at hz'; simp only [RL] at q1; rw [q1, ← hsz]; rfl
      have hle : i * sz + vs.length ≤ z.cells.length := by
        rw [Sq.cells_len, hvl, hsz, ← Nat.succ_mul]
        exact Nat.mul_le_mul_right _ hi
      obtain ⟨m1, m2, m3, m4, m5⟩ := fill_sq ht r s' hvs (sqOk_like hq k4) k1 (by rw [k3, hsz]) hb
      rw [fill_cons rfl q2 hvl hle]
      rw [k5, hsz] at m1
      exact ⟨m1, m2, by rw [m3, k2], by rw [m4, k3], m5⟩
    · cases hb

theorem zero_value (ht : TabOk P C.tt) {t : Nat} {z : AVal} (h : zeroA C.tt depth t = some z) (w : World) : (zeroValue t).run P w = .ok (packV z) w := by
  cases hq : tlk C.tt t with
  | none => simp [zeroA, depth, hq] at h
  | some te =>
    obtain ⟨z', h1, h2⟩ := zero_run (P := P) ht hq w
    rw [h] at h1; cases h1
    exact h2

theorem zeros_tlk {tt : Tab} {d : Nat} : ∀ {fs : List (Nat × Nat)} {p : AVal}, zeros (zeroA tt d) fs = some p → ∀ f ∈ fs, ∃ te, tlk tt f.1 = some te
  | [], p, _, f, hf => by cases hf
  | (t, o) :: r, p, h, f, hf => by
    simp only [zeros] at h
    split at h
    · rename_i v q h1 h2
      rcases List.mem_cons.1 hf with rfl | hf
      · cases d with
        | zero => cases h1
        | succ d =>
          cases hq : tlk tt t with
          | some te => exact ⟨te, rfl⟩
          | none => simp [zeroA, hq] at h1
      · exact zeros_tlk h2 f hf
    · cases h

theorem zero_fits {tt : Tab} : ∀ (d t : Nat) {v : AVal}, zeroA tt d t = some v → fit1 tt v t = true := by
  intro d
  induction d with
  | zero => intro t v h; cases h
  | succ d ih =>
    intro t v h
    unfold zeroA at h
    split at h
    · cases h
    · rename_i te hte
      obtain ⟨k, sz, bt, eq⟩ := te
      simp only at h
      split at h
      · rename_i k; cases h; simp [fit1, AVal.isList, fits, hte, kindEq_refl]
      · cases h; simp [fit1, AVal.isList, fits, hte]
      · cases h; simp [fit1, AVal.isList, fits, hte]
      · cases h; simp [fit1, AVal.isList, fits, hte]
      · cases h; simp [fit1, AVal.isList, fits, hte]
      · cases h; simp [fit1, AVal.isList, fits, hte]
      · cases h; simp [fit1, AVal.isList, fits, hte]
      · split at h
        · rename_i s hs
          cases h
          simp [fit1, AVal.isList, fits, hte, Nat.beq_refl, (Sq.zero_flat hs).2.2]
        · cases h
      · rename_i fs
        split at h
        · rename_i p hp
          cases h
          have key : ∀ (fs : List (Nat × Nat)) (p : AVal), zeros (zeroA tt d) fs = some p → p.isList = true ∧ fits tt p (fs.map (·.1)) = true := by
            intro fs
            induction fs with
            | nil => intro p hp; simp only [zeros, Option.some.injEq] at hp; subst hp; exact ⟨rfl, rfl⟩
            | cons f r ihf =>
              obtain ⟨t, o⟩ := f
              intro p hp
              simp only [zeros] at hp
              split at hp
              · rename_i v q h1 h2
                cases hp
                obtain ⟨k1, k2⟩ := ihf q h2
                have := ih t h1
                simp only [fit1, Bool.and_eq_true, Bool.not_eq_true'] at this
                exact ⟨k1, by simp [fits, this.1, this.2, k2]⟩
              · cases hp
          obtain ⟨k1, k2⟩ := key fs p hp
          simp only [fit1, AVal.isList, fits, hte, k1, k2]
          rfl
        · cases h

theorem build_ok (ht : TabOk P C.tt) {t : Nat} {l : List (Nat × AVal)} {lv : List (Nat × Value)} {r : AVal} {g : Bool} (ho : buildA C.tt t l = .val g r) (hv : VPs C σ l lv) : g = true ∧ Gv P C σ w (Instr.build t lv.toArray) r := by
  unfold buildA at ho
  split at ho
  · rename_i fs sz bt eq z he hz
    split at ho
    · rename_i p hfa hb
      cases ho
      have hk := (ht _ _ he).2
      simp only [KOk] at hk
      obtain ⟨⟨fields, hu, hfl⟩, hoff, _⟩ := hk
      obtain ⟨z1, z2, _⟩ := zero_flat C σ depth t hz
      simp only [RL, flat0] at z1
      have hzf := zero_fits depth t hz
      simp only [fit1, AVal.isList, fits, he, Bool.and_eq_true] at hzf
      obtain ⟨inf, z0, i1, i2, i3, i4, i5⟩ := info_run ht he
      rw [hz] at i5; cases i5
      have hzs : ∃ d q, zeros (zeroA C.tt d) fs = some q := by
        unfold depth zeroA at hz
        rw [he] at hz
        simp only at hz
        split at hz
        · rename_i q hq; exact ⟨_, q, hq⟩
        · cases hz
      obtain ⟨d, q, hzs⟩ := hzs
      have htl := zeros_tlk hzs
      have hpl : fields.toList.mapM (fun f => (P.info? f.type).map fun i => (f.offset, i.size)) = some (fs.map fun f => (f.2, szT C.tt f.1)) := by
        rw [← hfl] at htl ⊢
        clear hfl hzs hoff hfa hb hu hzf he hz i1 i4
        generalize fields.toList = fl at htl ⊢
        induction fl with
        | nil => rfl
        | cons f r ih =>
          obtain ⟨te, hte⟩ := htl (f.type, f.offset) (by simp)
          simp only at hte
          obtain ⟨i, _, h1, h2, _⟩ := info_run ht hte
          have := ih (fun g hg => htl g (by simp at hg ⊢; right; exact hg))
          simp only [List.mapM_cons, Option.bind_eq_bind, Option.pure_def, h1, Option.map_some, Option.bind_some, this, List.map_cons, h2, tlk_sz hte]
      obtain ⟨cs', m1, m2, m3⟩ := fill_struct (place := fun i => ((fs.map fun f => (f.2, szT C.tt f.1)).toArray)[i]?) ht hoff (fun i t o hfi => by simp [hfi]) l lv hv hfa hzf.2.2 z1 hb
      refine ⟨rfl, .agg cs'.toArray, ?_, cs', m2, rfl⟩
      refine run_build w t lv.toArray cs'.toArray ?_
      unfold Program.built
      rw [i1, hu]
      simp only [i4, hpl]
      exact m1
    · cases ho
  · rename_i n e sz bt eq m z he hz
    split at ho
    · rename_i s hb
      cases ho
      have hk := (ht _ _ he).2
      simp only [KOk] at hk
      obtain ⟨inf, z0, i1, i2, i3, i4, i5⟩ := info_run ht he
      rw [hz] at i5; cases i5
      have hz' := hz
      unfold depth zeroA at hz'
      rw [he] at hz'
      simp only at hz'
      split at hz'
      · rename_i s0 hs0
        cases hz'
        obtain ⟨z1, z2, z3⟩ := Sq.zero_flat hs0
        have hesz := sqOk_sz ht z3
        have hte : ∃ te, tlk C.tt e = some te := by
          cases hq : tlk C.tt e with
          | some te => exact ⟨te, rfl⟩
          | none => simp [zeroSq, zq, hq] at hs0
        obtain ⟨te, hte⟩ := hte
        obtain ⟨ie, _, j1, j2, _⟩ := info_run ht hte
        obtain ⟨m1, m2, m3, m4, m5⟩ := fill_sq (sz := te.sz) ht l lv hv z3 z2 (by rw [← hesz, tlk_sz hte]) hb
        refine ⟨rfl, .agg s.cells.toArray, ?_, by rw [m3, z1], m2, rfl⟩
        refine run_build w t lv.toArray s.cells.toArray ?_
        unfold Program.built
        rw [i1, hk.1]
        simp only [i4, j1, j2]
        exact m1
      · cases hz'
    · cases ho
  · cases ho

theorem bslice_ok (ht : TabOk P C.tt) (h : HR C F G w0 σ H w) {t n : Nat} {l : List (Nat × AVal)} {lv : List (Nat × Value)} {g p : Bool} {blk : Blk} (ho : bsliceA C.tt t n l = .new g p blk) (hg : g = true) (hv : VPs C σ l lv) : Gn P C F G w0 σ H w (Instr.buildSlice t n lv.toArray) p blk := by
  unfold bsliceA at ho
  split at ho
  · rename_i e he
    have hu := elemOf_spec ht he
    split at ho
    · rename_i z hz
      split at ho
      · rename_i s hb
        simp only [AOut.new.injEq] at ho
        obtain ⟨h1, rfl, rfl⟩ := ho
        subst hg
        have hn : n < 65536 := by rwa [Nat.blt_eq] at h1
        obtain ⟨z1, z2, z3⟩ := Sq.zero_flat hz
        have hesz := sqOk_sz ht z3
        unfold zeroSq at hz
        split at hz
        · rename_i q hq
          cases hz
          obtain ⟨te, u, y1, y2, y3, y4, y5⟩ := zq_zero ht hq
          have hqe : (q.rep n).esz = q.esz := by cases q <;> rfl
          have hql : 0 < q.esz ∧ q.esz ≤ 5 := by cases q <;> simp [Sq.esz]
          obtain ⟨m1, m2, m3, m4, m5⟩ := fill_sq (sz := te.sz) ht l lv hv z3 z2 (by rw [y3, hqe]) hb
          have hle : ¬ n * te.sz > 2 ^ 24 := by
            rw [y3]
            have := Nat.mul_le_mul (Nat.le_of_lt hn) hql.2
            omega
          have hcz : ((Array.range (n * te.sz)).map ((packV u).cells[· % (packV u).cells.size]!)) = (q.rep n).cells.toArray := by
            apply Array.ext'
            rw [y5 n]
            have := zeros_cells (packV u).cells.toList (by rw [y4]; exact hql.1) n
            rw [y4] at this
            simp only [Array.toList_map, Array.toList_range, y3]
            simpa using this
          have hz0 : n * te.sz = 0 → n = 0 := by
            intro h0
            rcases Nat.mul_eq_zero.1 h0 with h0 | h0
            · exact h0
            · rw [y3] at h0; omega
          have hrun : (Instr.buildSlice t n lv.toArray).run P w = .ok (.slice (some ⟨w.heap.size, 0, none⟩) n n) (w.alloc (.cells s.cells.toArray e)) := by
            unfold Instr.buildSlice
            by_cases h0 : n * te.sz = 0
            · have hn0 := hz0 h0
              subst hn0
              have he : (q.rep 0).cells = [] := by
                apply List.eq_nil_of_length_eq_zero
                rw [Sq.cells_len, z1]; simp
              rw [he] at m1
              have e0 : ∀ z : Array Value, (Array.range 0).map (fun x => z[x % z.size]!) = ([] : List Value).toArray := by intro z; simp
              simp only [Sem.run_bind, run_underlying hu, Result.andThen_ok, size_run ht y1, h0, if_true, e0, m1]
              rfl
            · simp only [Sem.run_bind, run_underlying hu, Result.andThen_ok, size_run ht y1, if_neg hle, if_neg h0, zero_value ht y2, Sem.run_pure, hcz, m1]
              rfl
          have hslen : s.len = n := by rw [m3, z1]
          have ha := heap_alloc w (.cells s.cells.toArray e)
          have hnr := new_row (C := C) (e := e) (s := s) (tl := []) (room := n) (T := e) (fz := (0, 0)) h (But.alloc w (.cells s.cells.toArray e)) (by simpa using ha.2.1) (.inl rfl) (by rw [List.append_nil, Sq.cells_len, hslen]) (by omega) m5 m2 (by rw [hslen]; unfold maxL; omega)
          rw [hslen] at hnr
          exact ⟨_, _, _, hrun, rfl, hnr.2.2, hnr.1⟩
        · cases hz
      · cases ho
    · cases ho
  · cases ho

theorem mkslice_ok (ht : TabOk P C.tt) (h : HR C F G w0 σ H w) {t : Nat} {u v : AVal} {g p : Bool} {blk : Blk} {x y : Value} (ho : mksliceA C.tt t u v = .new g p blk) (hg : g = true) (hx : VR C σ u x) (hy : VR C σ v y) : Gn P C F G w0 σ H w (Instr.makeSlice t x y) p blk := by
  cases u <;> cases v <;> simp only [mksliceA, reduceCtorEq] at ho
  rename_i k a k' c
  split at ho
  · rename_i e he
    have hu := elemOf_spec ht he
    split at ho
    · rename_i s hz
      simp only [AOut.new.injEq] at ho
      obtain ⟨h1, rfl, rfl⟩ := ho
      subst hg
      simp only [Bool.and_eq_true, nn, decide_eq_true_eq, beq_iff_eq] at h1
      obtain ⟨g1, rfl, g2⟩ := h1
      have hn : a.toNat < 2147483648 := by rwa [room, Nat.blt_eq] at g2
      obtain ⟨rfl, _⟩ := VR.int hx
      obtain ⟨rfl, _⟩ := VR.int hy
      obtain ⟨z1, z2, z3⟩ := Sq.zero_flat hz
      unfold zeroSq at hz
      split at hz
      · rename_i q hq
        cases hz
        obtain ⟨te, u, y1, y2, y3, y4, y5⟩ := zq_zero ht hq
        have hqe : (q.rep a.toNat).esz = q.esz := by cases q <;> rfl
        have hql : 0 < q.esz ∧ q.esz ≤ 5 := by cases q <;> simp [Sq.esz]
        obtain ⟨inf, _, i1, i2, i3, _⟩ := info_run ht y1
        have hb := (ht _ _ y1).1.2
        have hwr : IntKind.i64.wrap a = a := by
          simp only [IntKind.wrap, IntKind.bits, IntKind.signed]
          simp
          omega
        have hmul : te.bt * a ≤ 281474976710656 := by
          have h1 : (te.bt : Int) * a ≤ 65536 * a := Int.mul_le_mul_of_nonneg_right (by omega) g1
          have h2 : 65536 * a ≤ 65536 * 2147483648 := by omega
          omega
        have hcz : ((Array.range (a.toNat * te.sz)).map ((packV u).cells[· % (packV u).cells.size]!)) = (q.rep a.toNat).cells.toArray := by
          apply Array.ext'
          rw [y5 a.toNat]
          have := zeros_cells (packV u).cells.toList (by rw [y4]; exact hql.1) a.toNat
          rw [y4] at this
          simp only [Array.toList_map, Array.toList_range, y3]
          simpa using this
        have hrun : (Instr.makeSlice t (.int k a) (.int k' a)).run P w = .ok (.slice (some ⟨w.heap.size, 0, none⟩) a.toNat a.toNat) (w.alloc (.cells (q.rep a.toNat).cells.toArray e)) := by
          unfold Instr.makeSlice
          simp only [asInt, asIntOf, typeInfo, i1, Sem.run_bind, run_underlying hu, Result.andThen_ok, Sem.run_pure, run_program, hwr, i3]
          have c1 : ¬ a < 0 := by omega
          have c2 : ¬ (te.bt : Int) * a > 2 ^ 48 := by omega
          have c3 : ¬ a > a := by omega
          simp only [c1, c2, decide_false, Bool.or_false, Bool.false_eq_true, if_false, c3]
          simp only [Sem.run_bind, run_askRoom, Result.andThen_ok, size_run ht y1]
          by_cases h0 : a.toNat * te.sz = 0
          · have he : (q.rep a.toNat).cells = [] := by
              apply List.eq_nil_of_length_eq_zero
              rw [Sq.cells_len, z1, hqe, ← y3]; exact h0
            have e0 : ∀ z : Array Value, (Array.range 0).map (fun x => z[x % z.size]!) = ([] : List Value).toArray := by intro z; simp
            simp only [h0, if_true, Sem.run_bind, Sem.run_pure, Result.andThen_ok, he, e0]
            rfl
          · simp only [if_neg h0, Sem.run_bind, zero_value ht y2, Result.andThen_ok, Sem.run_pure, hcz]
            rfl
        have ha := heap_alloc w (.cells (q.rep a.toNat).cells.toArray e)
        have hnr := new_row (C := C) (e := e) (s := q.rep a.toNat) (tl := []) (room := a.toNat) (T := e) (fz := (0, 0)) h (But.alloc w (.cells (q.rep a.toNat).cells.toArray e)) (by simpa using ha.2.1) (.inl rfl) (by rw [List.append_nil, Sq.cells_len, z1]) (by omega) z3 z2 (by rw [z1]; unfold maxL; omega)
        rw [z1] at hnr
        exact ⟨_, _, _, hrun, rfl, hnr.2.2, hnr.1⟩
      · cases hz
    · cases ho
  · cases ho
end
end Go.Proofs.YtaakccdfgejgpaaGreatDoor.Abs
