/-
  The operations that compute or read are as the model has them.
-/
import Derived.Test.YtaakccdfgejgpaaGreatDoorAbsE
import Derived.ChangeKeysEq
import Derived.Laws.BytesArg
import Derived.Laws.Tables
import Derived.Laws.Pointers
namespace Go.Proofs.YtaakccdfgejgpaaGreatDoor.Abs
open Go
set_option linter.unusedVariables false

section
variable {P : Program} {C : Cfg} {σ σ' : List Pl} {n : Nat} {w w0 : World} {F G : Nat → Prop} {H : Heap}

/-! ### Equality -/
theorem part_run (ht : TabOk P C.tt) {v : AVal} {t o : Nat} {cs : List Value} (hf : fit1 C.tt v t = true) (hr : RL C σ v false ((cs.drop o).take (szT C.tt t))) (ho : o + szT C.tt t ≤ cs.length) :
    ∃ c, (part t cs.toArray o).run P w = .ok c w ∧ VR C σ v c := by
  simp only [fit1, Bool.and_eq_true, Bool.not_eq_true'] at hf
  obtain ⟨te, hte, _⟩ := fits_tlk hf.2 hf.1
  rw [tlk_sz hte] at hr ho
  rcases pack_ok ht hf.2 hf.1 hte hr with ⟨hp, hv⟩ | ⟨hp, c, hc, hv⟩
  · refine ⟨_, ?_, hv⟩
    simp only [part, Sem.run_bind, agg_run ht hte, hp, Result.andThen_ok, Bool.not_false, if_true, size_run ht hte, Sem.run_pure]
    congr 2
    apply Array.ext'
    simp [List.extract_eq_take_drop]
  · refine ⟨c, ?_, hv⟩
    have hg : cs[o]? = some c := by
      have h0 := congrArg (·[0]?) hc
      simp only [List.getElem?_cons_zero, List.getElem?_take, List.getElem?_drop, Nat.add_zero] at h0
      split at h0
      · exact h0
      · cases h0
    simp [part, agg_run ht hte, hp, hg]

theorem items_ok {α : Type} [BEq α] (ht : TabOk P C.tt) {e d : Nat} {te : TE} (he : tlk C.tt e = some te) (hp : plainK te.k = true) (enc : α → Value) (hq : ∀ x y, (Op.equalIn d e (enc x) (enc y)).run P w = .ok (x == y) w) :
    ∀ (l m q q' : List α), l.length = m.length → q.length = q'.length → (Op.eqItems d e 1 ((q ++ l).map enc).toArray ((q' ++ m).map enc).toArray (List.range' q.length l.length)).run P w = .ok (l == m) w
  | [], [], q, q', _, _ => by simp [Op.eqItems]
  | [], _ :: _, _, _, h, _ => by cases h
  | _ :: _, [], _, _, h, _ => by cases h
  | x :: l, y :: m, q, q', h, hq' => by
    have p1 : (part e ((q ++ x :: l).map enc).toArray (q.length * 1)).run P w = .ok (enc x) w := by
      simp [part, agg_run ht he, hp]
    have p2 : (part e ((q' ++ y :: m).map enc).toArray (q.length * 1)).run P w = .ok (enc y) w := by
      simp [part, agg_run ht he, hp, hq']
    have ih := items_ok ht he hp enc hq l m (q ++ [x]) (q' ++ [y]) (by simpa using h) (by simp [hq'])
    simp only [List.append_assoc, List.singleton_append, List.length_append, List.length_singleton] at ih
    simp only [List.length_cons, List.range'_succ, Op.eqItems, Sem.run_bind, p1, p2, Result.andThen_ok, hq x y]
    cases hb : x == y with
    | false => simp [List.cons_beq_cons, hb]
    | true =>
      simp only [Bool.not_true, Bool.false_eq_true, if_false]
      rw [ih]
      simp [List.cons_beq_cons, hb]

theorem mk_beq (a b : List UInt8) : ((mk a).toList == (mk b).toList) = (a == b) := by
  rw [ByteArray.toList_eq, ByteArray.toList_eq]

theorem Sq.eq_items (ht : TabOk P C.tt) {e d : Nat} {s s' : Sq} {b : Bool} (hb : s.eqB s' = some b) (h1 : sqOk C.tt e s = true) (hl : s.len = s'.len) :
    (Op.eqItems (d + 1) e (P.cellsOf e) s.cells.toArray s'.cells.toArray (List.range s.len)).run P w = .ok b w := by
  have hz : ∃ te, tlk C.tt e = some te := by
    unfold sqOk zq at h1
    cases hq : tlk C.tt e with
    | some te => exact ⟨te, rfl⟩
    | none => simp [hq] at h1
  obtain ⟨te, hte⟩ := hz
  obtain ⟨i, _, hi, hsz, _⟩ := info_run ht hte
  have hc : P.cellsOf e = te.sz := by simp [Program.cellsOf, hi, hsz]
  have hsz1 := sqOk_sz ht h1
  rw [tlk_sz hte] at hsz1
  rw [hc, hsz1, List.range_eq_range']
  have hf := like_fits (i := 0) h1
  have hk := (ht e te hte).2
  cases s with
  | u8 l =>
    cases s' <;> simp only [Sq.eqB, Option.some.injEq, reduceCtorEq] at hb
    rename_i m
    subst hb
    simp only [Sq.get, fits] at hf
    split at hf
    · rename_i he
      rw [hte] at he; cases he
      simp only [KOk, ← kindEq_spec hf] at hk
      exact items_ok ht hte rfl (fun b : UInt8 => .int .u8 (b.toNat : Int)) (fun x y => by
        rw [run_equalIn_int w d e _ _ _ _ hk.1]
        congr 1
        rw [Bool.eq_iff_iff]
        simp only [beq_iff_eq]
        constructor
        · intro h; exact UInt8.toNat_inj.1 (by omega)
        · rintro rfl; rfl) l m [] [] hl rfl
    · cases hf
  | int kk l =>
    cases s' <;> simp only [Sq.eqB, reduceCtorEq] at hb
    rename_i k' m
    split at hb
    · rename_i hkk
      have := kindEq_spec hkk
      subst this
      cases hb
      simp only [Sq.get, fits] at hf
      split at hf
      · rename_i he
        rw [hte] at he; cases he
        simp only [KOk, ← kindEq_spec hf] at hk
        exact items_ok ht hte rfl (fun x => .int kk x) (fun x y => run_equalIn_int w d e _ _ _ _ hk.1) l m [] [] hl rfl
      · cases hf
    · cases hb
  | str l =>
    cases s' <;> simp only [Sq.eqB, Option.some.injEq, reduceCtorEq] at hb
    rename_i m
    subst hb
    simp only [Sq.get, fits] at hf
    split at hf
    · rename_i he
      rw [hte] at he; cases he
      simp only [KOk] at hk
      exact items_ok ht hte rfl (fun x => .string (mk x)) (fun x y => by rw [run_equalIn_string w d e _ _ hk.1, mk_beq]) l m [] [] hl rfl
    · cases hf
  | bool l =>
    cases s' <;> simp only [Sq.eqB, Option.some.injEq, reduceCtorEq] at hb
    rename_i m
    subst hb
    simp only [Sq.get, fits] at hf
    split at hf
    · rename_i he
      rw [hte] at he; cases he
      simp only [KOk] at hk
      exact items_ok ht hte rfl (fun x => .bool x) (fun x y => run_equalIn_bool' w d e _ _ hk.1) l m [] [] hl rfl
    · cases hf
  | tok l => cases s' <;> simp [Sq.eqB] at hb

theorem eqTy_tlk {tt : Tab} {d t : Nat} (h : eqTy tt d t = true) : ∃ te, tlk tt t = some te := by
  cases d with
  | zero => cases h
  | succ d =>
    unfold eqTy at h
    cases hq : tlk tt t with
    | some te => exact ⟨te, rfl⟩
    | none => simp [hq] at h

/-- == on values of a type. -/
theorem eqA_ok (ht : TabOk P C.tt) : ∀ (d : Nat) {u v : AVal} {t : Nat} {b : Bool} {x y : Value} (D : Nat), d ≤ D → eqTy C.tt d t = true → eqA u v = some b → fit1 C.tt u t = true → fit1 C.tt v t = true → VR C σ u x → VR C σ v y → (Op.equalIn D t x y).run P w = .ok b w := by
  intro d
  induction d with
  | zero => intro u v t b x y D _ h; cases h
  | succ d ih =>
    intro u v t b x y D hD hty heq hu hv hx hy
    obtain ⟨D', rfl⟩ : ∃ D', D = D' + 1 := ⟨D - 1, by omega⟩
    simp only [fit1, Bool.and_eq_true, Bool.not_eq_true'] at hu hv
    obtain ⟨te, hte⟩ := eqTy_tlk hty
    have hk := (ht t te hte).2
    unfold eqTy at hty
    rw [hte] at hty
    cases u with
    | bool a =>
      cases v <;> simp only [eqA, Option.some.injEq, reduceCtorEq] at heq
      subst heq
      simp only [fits, hte] at hu
      obtain ⟨k, sz, bt, eq⟩ := te
      cases k <;> simp at hu
      simp only [KOk] at hk
      rw [VR.bool hx, VR.bool hy]
      exact run_equalIn_bool' w D' t _ _ hk.1
    | int k a =>
      cases v <;> simp only [eqA, reduceCtorEq] at heq
      split at heq
      · rename_i hkk
        have := kindEq_spec hkk
        subst this
        cases heq
        simp only [fits, hte] at hu
        obtain ⟨k', sz, bt, eq⟩ := te
        cases k' <;> simp at hu
        simp only [KOk] at hk
        rw [(VR.int hx).1, (VR.int hy).1]
        exact run_equalIn_int w D' t _ _ _ _ hk.1
      · cases heq
    | str a =>
      cases v <;> simp only [eqA, Option.some.injEq, reduceCtorEq] at heq
      subst heq
      simp only [fits, hte] at hu
      obtain ⟨k, sz, bt, eq⟩ := te
      cases k <;> simp at hu
      simp only [KOk] at hk
      rw [VR.str hx, VR.str hy, run_equalIn_string w D' t _ _ hk.1, mk_beq]
    | arr m s =>
      cases v <;> simp only [eqA, reduceCtorEq] at heq
      rename_i m' s'
      simp only [fits, hte] at hu hv
      obtain ⟨k, sz, bt, eq⟩ := te
      cases k <;> simp at hu
      rename_i n' e
      simp only [Bool.and_eq_true] at hty hv
      simp only [KOk] at hk
      obtain ⟨rfl, l1, r1⟩ := VR.arr hx
      obtain ⟨rfl, l2, r2⟩ := VR.arr hy
      have e1 := Nat.eq_of_beq_eq_true hv.2.1
      have hze : ∃ te', tlk C.tt e = some te' := eqTy_tlk hty.2
      obtain ⟨te', hte'⟩ := hze
      obtain ⟨i, _, hi, _⟩ := info_run ht hte'
      obtain ⟨D'', rfl⟩ : ∃ q, D' = q + 1 := by
        cases d with
        | zero => exact absurd hty.2 (by simp [eqTy])
        | succ d => exact ⟨D' - 1, by omega⟩
      rw [run_equalIn_array w (D'' + 1) s.cells.toArray s'.cells.toArray hk.1 hi]
      have hn : n' = s.len := by omega
      rw [hn]
      exact Sq.eq_items ht heq hu.2.2 (by omega)
    | agg p =>
      cases v <;> simp only [eqA, reduceCtorEq] at heq
      rename_i q
      simp only [fits, hte] at hu hv
      obtain ⟨k, sz, bt, eq⟩ := te
      cases k <;> simp at hu
      rename_i fs
      simp only [Bool.and_eq_true, List.all_eq_true] at hty hv
      simp only [KOk] at hk
      obtain ⟨⟨fields, hfu, hfl⟩, hoff, _, heqk⟩ := hk
      obtain ⟨_, hst, hnm⟩ := heqk hty.1
      obtain ⟨xs, hxs, rfl⟩ := VR.agg hx
      obtain ⟨ys, hys, rfl⟩ := VR.agg hy
      have hfo : P.fieldsOf t = fields := by simp [Program.fieldsOf, hfu]
      rw [run_equalIn_struct w D' t xs.toArray ys.toArray (by rw [hfo]; exact hfu) hst]
      rw [hfo] at hnm ⊢
      generalize fields.toList = fl at hfl hnm
      clear hx hy hfu hfo hte hst heqk
      have key : ∀ (fl : List Field) (fs : List (Nat × Nat)) (p q : AVal) (b : Bool) (pre pre' xs ys : List Value), fl.map (fun f => (f.type, f.offset)) = fs → fl.all (fun f => f.name != "_") = true → (∀ f ∈ fs, eqTy C.tt d f.1 = true) → offsOk C.tt pre.length fs = true → pre.length = pre'.length →
          p.isList = true → q.isList = true → eqA p q = some b → fits C.tt p (fs.map (·.1)) = true → fits C.tt q (fs.map (·.1)) = true → RL C σ p false xs → RL C σ q false ys →
          (Op.eqFields D' (pre ++ xs).toArray (pre' ++ ys).toArray fl).run P w = .ok b w := by
        intro fl
        induction fl with
        | nil =>
          intro fs p q b pre pre' xs ys h1 _ _ _ _ hlp hlq h3 h4 h5 _ _
          subst h1
          cases p <;> simp [fits, AVal.isList] at h4 hlp
          cases q <;> simp [fits, AVal.isList] at h5 hlq
          simp only [eqA, Option.some.injEq] at h3
          subst h3
          simp [Op.eqFields]
        | cons f fl ihf =>
          intro fs p q b pre pre' xs ys h1 h2 hty' h3 hpl hlp hlq h4 h5 h6 h7 h8
          subst h1
          simp only [List.map_cons, offsOk, Bool.and_eq_true] at h3
          simp only [List.all_cons, Bool.and_eq_true, bne_iff_ne, ne_eq] at h2
          cases p <;> simp [fits, AVal.isList] at h5 hlp
          rename_i a r
          cases q <;> simp [fits, AVal.isList] at h6 hlq
          rename_i a' r'
          rw [← List.map_map] at h5 h6
          simp only [RL] at h7 h8
          obtain ⟨x1, x2, g1, g2, rfl⟩ := h7
          obtain ⟨y1, y2, g3, g4, rfl⟩ := h8
          have lx : x1.length = szT C.tt f.type := by rw [RL.len ht h5.2.1 g1]; simp [sumSz]
          have ly : y1.length = szT C.tt f.type := by rw [RL.len ht h6.2.1 g3]; simp [sumSz]
          have ho := Nat.eq_of_beq_eq_true h3.1
          have hp1 : ∃ c, (part f.type (pre ++ (x1 ++ x2)).toArray f.offset).run P w = .ok c w ∧ VR C σ a c := by
            refine part_run ht (by simp [fit1, h5.1, h5.2.1]) ?_ (by simp; omega)
            rw [ho, drop_app rfl, take_app lx]
            exact g1
          have hp2 : ∃ c, (part f.type (pre' ++ (y1 ++ y2)).toArray f.offset).run P w = .ok c w ∧ VR C σ a' c := by
            refine part_run ht (by simp [fit1, h6.1, h6.2.1]) ?_ (by simp; omega)
            rw [ho, hpl, drop_app rfl, take_app ly]
            exact g3
          obtain ⟨c1, q1, v1⟩ := hp1
          obtain ⟨c2, q2, v2⟩ := hp2
          have hn : f.name ≠ "_" := h2.1
          -- the first part, and the rest
          have hsplit : ∃ b1 b2, eqA a a' = some b1 ∧ b = (b1 && b2) ∧ (Op.eqFields D' (pre ++ (x1 ++ x2)).toArray (pre' ++ (y1 ++ y2)).toArray fl).run P w = .ok b2 w := by
            by_cases hr : r = .nil ∧ r' = .nil
            · obtain ⟨rfl, rfl⟩ := hr
              simp only [eqA] at h4
              refine ⟨b, true, h4, by simp, ?_⟩
              have hfl : fl = [] := by
                have := h5.2.2
                cases fl with
                | nil => rfl
                | cons _ _ => simp [fits] at this
              subst hfl
              simp [Op.eqFields]
            · have h4' : ∃ z1 z2, eqA a a' = some z1 ∧ eqA r r' = some z2 ∧ b = (z1 && z2) := by
                unfold eqA at h4
                split at h4
                all_goals try (cases h4; done)
                all_goals first
                  | (rename_i he1 he2; simp at he1 he2; done)
                  | skip
                · rename_i he1 he2
                  simp only [AVal.pair.injEq] at he1 he2
                  exact absurd ⟨he1.2, he2.2⟩ hr
                · rename_i he1 he2
                  simp only [AVal.pair.injEq] at he1 he2
                  obtain ⟨rfl, rfl⟩ := he1
                  obtain ⟨rfl, rfl⟩ := he2
                  split at h4
                  · rename_i z1 z2 k1 k2
                    cases h4
                    exact ⟨z1, z2, k1, k2, rfl⟩
                  · cases h4
              obtain ⟨z1, z2, k1, k2, k3⟩ := h4'
              refine ⟨z1, z2, k1, k3, ?_⟩
              have := ihf _ r r' z2 (pre ++ x1) (pre' ++ y1) x2 y2 rfl (by simpa using h2.2) (fun f hf => hty' f (by simp [hf])) (by rw [List.length_append, lx]; exact h3.2) (by simp [hpl, lx, ly]) hlp hlq k2 h5.2.2 h6.2.2 g2 g4
              simpa using this
          obtain ⟨b1, b2, k1, rfl, k3⟩ := hsplit
          have he := ih (D := D') (by omega) (hty' (f.type, f.offset) (by simp)) k1 (by simp [fit1, h5.1, h5.2.1]) (by simp [fit1, h6.1, h6.2.1]) v1 v2
          simp only [Op.eqFields, hn, ne_eq, not_false_eq_true, if_true, Sem.run_bind, q1, q2, Result.andThen_ok, he]
          cases b1
          · simp
          · simpa using k3
      have := key fl fs p q b [] [] xs ys hfl hnm (fun f hf => hty.2 f hf) hoff rfl hu.2.1 hv.2.1 heq hu.2.2 hv.2.2 hxs hys
      simpa using this
    | nil => simp [AVal.isList] at hu
    | pair a r => simp only [fits] at hu; cases r <;> simp [fits, AVal.isList] at hu
    | _ => cases v <;> simp [eqA] at heq
end
end Go.Proofs.YtaakccdfgejgpaaGreatDoor.Abs
