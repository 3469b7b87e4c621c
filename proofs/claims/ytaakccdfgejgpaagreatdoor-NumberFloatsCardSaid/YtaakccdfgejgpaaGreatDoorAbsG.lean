/-
  Each operation that computes or reads, as the model has it.
-/
import Derived.Test.YtaakccdfgejgpaaGreatDoorAbsF
namespace Go.Proofs.YtaakccdfgejgpaaGreatDoor.Abs
open Go
set_option linter.unusedVariables false

section
variable {P : Program} {C : Cfg} {σ σ' : List Pl} {n : Nat} {w w0 : World} {F G : Nat → Prop} {H : Heap}

/-- It gives a value, the world as it was. -/
def Gv (P : Program) (C : Cfg) (σ : List Pl) (w : World) (s : Sem Value) (v : AVal) : Prop := ∃ c, s.run P w = .ok c w ∧ VR C σ v c

/-! ### Binary and unary operators -/
theorem eqGuard_plain (op : BinOp) (t : TypeId) (X Y : Operand) (u v : Value) (w : World) (hu : ∀ cs, u ≠ .agg cs) (hn : u ≠ .nilIface) : (eqGuard op t X Y u v).run P w = .ok () w := by
  cases u <;> first | exact absurd rfl hn | exact absurd rfl (hu _) | (cases op <;> rfl)
theorem eqGuard_nilC (op : BinOp) (t : TypeId) (X Y : Operand) (u v : Value) (w : World) (hu : ∀ cs, u ≠ .agg cs) (hY : isNilC Y = true) : (eqGuard op t X Y u v).run P w = .ok () w := by
  have : (Y matches .const _) = true := by
    cases Y <;> simp [isNilC] at hY
    rfl
  cases u <;> first | exact absurd rfl (hu _) | skip
  all_goals (cases v <;> first | (cases op <;> rfl) | skip)
  unfold eqGuard
  cases Y <;> simp [isNilC] at hY
  cases op <;> simp

theorem int_ok {op : BinOp} {k : IntKind} {x y : Int} {g : Bool} {r : AVal} (h : binInt op k x y = .val g r) (hg : g = true) (hx : Rng k x) : Gv P C σ w (binOp op 0 (.int k x) (.int k y)) r := by
  subst hg
  cases op <;> simp only [binInt, AOut.val.injEq, reduceCtorEq] at h
  all_goals (obtain ⟨h1, rfl⟩ := h)
  case add => exact ⟨_, by simp [binOp, Op.intArith], rng_wrap _ _, rfl⟩
  case sub => exact ⟨_, by simp [binOp, Op.intArith], rng_wrap _ _, rfl⟩
  case mul => exact ⟨_, by simp [binOp, Op.intArith], rng_wrap _ _, rfl⟩
  case quo =>
    have : ¬ y = 0 := by simpa [nz] using h1
    exact ⟨_, by simp [binOp, Op.intDiv, this]; rfl, rng_wrap _ _, rfl⟩
  case rem =>
    have : ¬ y = 0 := by simpa [nz] using h1
    exact ⟨_, by simp [binOp, Op.intDiv, this]; rfl, rng_rem hx, rfl⟩
  case and => exact ⟨_, by simp only [binOp, ne_eq, not_true, if_false]; rw [intBits_and]; rfl, rng_bits _ _ _ _, rfl⟩
  case or => exact ⟨_, by simp only [binOp, ne_eq, not_true, if_false]; rw [intBits_or]; rfl, rng_bits _ _ _ _, rfl⟩
  case xor => exact ⟨_, by simp only [binOp, ne_eq, not_true, if_false]; rw [intBits_xor]; rfl, rng_bits _ _ _ _, rfl⟩
  case andNot => exact ⟨_, by simp only [binOp, ne_eq, not_true, if_false]; rw [intBits_andNot]; rfl, rng_bits _ _ _ _, rfl⟩
  all_goals exact ⟨_, by simp [binOp, Op.intCmp], rfl⟩

theorem str_ok {op : BinOp} {x y : List UInt8} {g : Bool} {r : AVal} (h : binStr op x y = .val g r) (hg : g = true) : Gv P C σ w (binOp op 0 (.string (mk x)) (.string (mk y))) r := by
  subst hg
  cases op <;> simp only [binStr, AOut.val.injEq, reduceCtorEq] at h
  all_goals (obtain ⟨h1, rfl⟩ := h)
  case add =>
    have hr : x.length + y.length < 4611686018427387904 := by simpa [roomS, Nat.blt_eq] using h1
    refine ⟨.string (mk (x ++ y)), ?_, by simp [SB, maxL]; omega, rfl⟩
    have e1 : (mk x).size = x.length := rfl
    have e2 : (mk y).size = y.length := rfl
    have hle : ¬ (((mk x).size + (mk y).size : Nat) : Int) > IntKind.i64.max := by
      rw [e1, e2]; simp [IntKind.max, IntKind.bits, IntKind.signed]; omega
    have happ : mk x ++ mk y = mk (x ++ y) := by
      apply ByteArray.ext
      simp
    simp only [binOp, Op.stringOp]
    rw [if_neg hle, happ]
    rfl
  case eql => exact ⟨_, by simp only [binOp, Op.stringOp, mk_beq]; rfl, rfl⟩
  case neq => exact ⟨_, by simp only [binOp, Op.stringOp, mk_beq]; rfl, rfl⟩

theorem boolOp_ok {op : BinOp} {t : Nat} {g b q : Bool} {r : AVal} {x y : Value} (h : boolOp op g b = .val q r) (heq : g = true → (Op.equal t x y).run P w = .ok b w)
    (hb1 : ∀ k n k' m, ¬ (x = .int k n ∧ y = .int k' m)) (hb : ∀ o : BinOp, (o = .eql → binOp o t x y = do pure (.bool (← Op.equal t x y))) ∧ (o = .neq → binOp o t x y = do pure (.bool (!(← Op.equal t x y))))) :
    q = true ∧ Gv P C σ w (binOp op t x y) r := by
  cases op <;> cases g <;> simp only [boolOp, AOut.val.injEq, reduceCtorEq] at h
  · obtain ⟨rfl, rfl⟩ := h
    refine ⟨rfl, _, ?_, rfl⟩
    rw [(hb .eql).1 rfl]
    simp [heq rfl]
  · obtain ⟨rfl, rfl⟩ := h
    refine ⟨rfl, _, ?_, rfl⟩
    rw [(hb .neq).2 rfl]
    simp [heq rfl]

theorem equal_bool {t : Nat} (hb : P.underlying t = some .bool) (b c : Bool) : (Op.equal t (.bool b) (.bool c)).run P w = .ok (b == c) w := run_equal_bool w t b c hb

theorem equal_nil {t : Nat} {ms : Array (String × TypeId)} (hu : P.underlying t = some (.interface ms)) (C : Cfg) (e : Er) : (Op.equal t (encE C e) .nilIface).run P w = .ok e.isNil w := by
  have h : ∀ d : Nat, (Op.equalIn (d + 1) t (encE C e) .nilIface).run P w = .ok e.isNil w := fun d => by cases e <;> simp [Op.equalIn, encE, run_underlying hu, Er.isNil]
  exact h 9999
theorem equal_ptr {t e : Nat} (hu : P.underlying t = some (.pointer e)) (a : Option Addr) : (Op.equal t (.pointer a) (.pointer none)).run P w = .ok a.isNone w := by
  have h : ∀ d : Nat, (Op.equalIn (d + 1) t (.pointer a) (.pointer none)).run P w = .ok a.isNone w := fun d => by cases a <;> simp [Op.equalIn, run_underlying hu]
  exact h 9999

theorem bin_ok (ht : TabOk P C.tt) {op : BinOp} {t : Nat} {u v r : AVal} {nl g : Bool} {x y : Value} {X Y : Operand} (h : binV C.tt op t u v nl = .val g r) (hg : g = true) (hnl : nl = true → isNilC Y = true) (hx : VR C σ u x) (hy : VR C σ v y) :
    Gv P C σ w (do eqGuard op t X Y x y; binOp op t x y) r := by
  have seq : ∀ {s : Sem Value}, (eqGuard op t X Y x y).run P w = .ok () w → Gv P C σ w s r → Gv P C σ w (do eqGuard op t X Y x y; s) r := by
    rintro s h1 ⟨c, h2, h3⟩
    exact ⟨c, by simp [h1, h2], h3⟩
  cases u with
  | int k a =>
    cases v <;> simp only [binV, reduceCtorEq] at h
    rename_i k' b
    obtain ⟨rfl, ra⟩ := VR.int hx
    obtain ⟨rfl, rb⟩ := VR.int hy
    refine seq (eqGuard_plain _ _ _ _ _ _ _ (by simp) (by simp)) ?_
    by_cases hs : op = .shl ∨ op = .shr
    · rcases hs with rfl | rfl
      · simp only [AOut.val.injEq] at h
        obtain ⟨h1, rfl⟩ := h
        subst hg
        have : ¬ b < 0 := by simpa [nn] using h1
        exact ⟨_, by simp [binOp, Op.shift, this]; rfl, rng_wrap _ _, rfl⟩
      · simp only [AOut.val.injEq] at h
        obtain ⟨h1, rfl⟩ := h
        subst hg
        have : ¬ b < 0 := by simpa [nn] using h1
        exact ⟨_, by simp [binOp, Op.shift, this]; rfl, rng_shr _ ra, rfl⟩
    · have h' : (match kindEq k k' with | true => binInt op k a b | false => .bad) = AOut.val g r := by
        cases op <;> first | exact h | simp at hs
      split at h'
      · rename_i hk
        have := kindEq_spec hk
        subst this
        obtain ⟨c, h1, h2⟩ := int_ok (P := P) (C := C) (σ := σ) (w := w) h' hg ra
        exact ⟨c, by rw [← h1]; cases op <;> first | rfl | simp at hs, h2⟩
      · cases h'
  | str a =>
    cases v <;> simp only [binV, reduceCtorEq] at h
    cases VR.str hx
    cases VR.str hy
    refine seq (eqGuard_plain _ _ _ _ _ _ _ (by simp) (by simp)) ?_
    obtain ⟨c, h1, h2⟩ := str_ok (P := P) (C := C) (σ := σ) (w := w) h hg
    exact ⟨c, by rw [← h1]; cases op <;> rfl, h2⟩
  | bool a =>
    cases v <;> simp only [binV, reduceCtorEq] at h
    cases VR.bool hx
    cases VR.bool hy
    refine seq (eqGuard_plain _ _ _ _ _ _ _ (by simp) (by simp)) ?_
    refine (boolOp_ok h (fun hb => ?_) (by simp) (fun o => ⟨by rintro rfl; rfl, by rintro rfl; rfl⟩)).2
    unfold isBoolT at hb
    split at hb
    · rename_i he; exact equal_bool (ht _ _ he).2.1 _ _
    · cases hb
  | err e =>
    cases v <;> simp only [binV, reduceCtorEq] at h
    rename_i e'
    cases e' <;> simp only [reduceCtorEq] at h
    obtain ⟨rfl, re⟩ := VR.err hx
    obtain ⟨rfl, _⟩ := VR.err hy
    have hnl' : nl = true ∧ isErrT C.tt t = true := by
      cases hq : (nl && isErrT C.tt t) with
      | true => simpa using hq
      | false => rw [hq] at h; cases op <;> simp [boolOp] at h
    refine seq (eqGuard_nilC _ _ _ _ _ _ _ (by cases e <;> simp [encE]) (hnl hnl'.1)) ?_
    refine (boolOp_ok h (fun _ => ?_) (by cases e <;> simp [encE]) (fun o => ⟨by rintro rfl; cases e <;> rfl, by rintro rfl; cases e <;> rfl⟩)).2
    have ht2 := hnl'.2
    unfold isErrT at ht2
    split at ht2
    · rename_i he
      obtain ⟨⟨ms, hu⟩, _⟩ := (ht _ _ he).2
      exact equal_nil hu _ _
    · cases ht2
  | agg p =>
    cases v <;> simp only [binV, reduceCtorEq] at h
    rename_i q
    split at h
    · rename_i b hb
      have hty : eqTy C.tt depth t = true ∧ fits C.tt (.agg p) [t] = true ∧ fits C.tt (.agg q) [t] = true := by
        cases hq : (eqTy C.tt depth t && (fits C.tt (.agg p) [t] && fits C.tt (.agg q) [t])) with
        | true => simpa using hq
        | false => rw [hq] at h; cases op <;> simp [boolOp] at h
      obtain ⟨te, hte⟩ := eqTy_tlk hty.1
      have heqk : P.eqGuardType P.depth t = false := by
        have h1 := hty.1
        have h2 := hty.2.1
        unfold depth eqTy at h1
        rw [hte] at h1
        simp only [fits, hte] at h2
        obtain ⟨k, sz, bt, eq⟩ := te
        cases k <;> simp at h2
        simp only [Bool.and_eq_true] at h1
        have hk := (ht _ _ hte).2
        simp only [KOk] at hk
        exact (hk.2.2.2 h1.1).1
      obtain ⟨xs, _, rfl⟩ := VR.agg hx
      obtain ⟨ys, _, rfl⟩ := VR.agg hy
      refine seq (run_eqGuard_agg w op t X Y _ _ heqk) ?_
      refine (boolOp_ok h (fun _ => ?_) (by simp) (fun o => ⟨by rintro rfl; rfl, by rintro rfl; rfl⟩)).2
      have := eqA_ok (P := P) (w := w) ht depth (D := 10000) (by simp [depth]) hty.1 (u := .agg p) (v := .agg q) (by simpa [eqA] using hb) (by simp [fit1, AVal.isList, hty.2.1]) (by simp [fit1, AVal.isList, hty.2.2]) hx hy
      exact this
    · cases h
  | arr m s =>
    cases v <;> simp only [binV, reduceCtorEq] at h
    rename_i m' s'
    split at h
    · rename_i b hb
      have hty : eqTy C.tt depth t = true ∧ fits C.tt (.arr m s) [t] = true ∧ fits C.tt (.arr m' s') [t] = true := by
        cases hq : (eqTy C.tt depth t && (fits C.tt (.arr m s) [t] && fits C.tt (.arr m' s') [t])) with
        | true => simpa using hq
        | false => rw [hq] at h; cases op <;> simp [boolOp] at h
      obtain ⟨te, hte⟩ := eqTy_tlk hty.1
      have heqk : P.eqGuardType P.depth t = false := by
        have h1 := hty.1
        have h2 := hty.2.1
        unfold depth eqTy at h1
        rw [hte] at h1
        simp only [fits, hte] at h2
        obtain ⟨k, sz, bt, eq⟩ := te
        cases k <;> simp at h2
        simp only [Bool.and_eq_true] at h1
        have hk := (ht _ _ hte).2
        simp only [KOk] at hk
        exact (hk.2.2.1 h1.1).1
      have hx' := VR.arr hx
      have hy' := VR.arr hy
      refine seq (by rw [hx'.1, hy'.1]; exact run_eqGuard_agg w op t X Y _ _ heqk) ?_
      refine (boolOp_ok h (fun _ => ?_) (by rw [hx'.1]; simp) (fun o => ⟨by rw [hx'.1, hy'.1]; rintro rfl; rfl, by rw [hx'.1, hy'.1]; rintro rfl; rfl⟩)).2
      exact eqA_ok (P := P) (w := w) ht depth (D := 10000) (by simp [depth]) hty.1 (u := .arr m s) (v := .arr m' s') (by simpa [eqA] using hb) (by simp [fit1, AVal.isList, hty.2.1]) (by simp [fit1, AVal.isList, hty.2.2]) hx hy
    · cases h
  | ptr b g' p =>
    cases v <;> simp only [binV, reduceCtorEq] at h
    obtain ⟨pl, a, _, _, _, rfl⟩ := VR.ptr hx
    cases VR.nilp hy
    refine seq (eqGuard_plain _ _ _ _ _ _ _ (by simp) (by simp)) ?_
    refine (boolOp_ok h (fun hb => ?_) (by simp) (fun o => ⟨by rintro rfl; rfl, by rintro rfl; rfl⟩)).2
    unfold isPtrT at hb
    split at hb
    · rename_i he
      have hu := (ht _ _ he).2.1
      exact equal_ptr hu _
    · cases hb
  | nilp =>
    cases v <;> simp only [binV, reduceCtorEq] at h
    cases VR.nilp hx
    cases VR.nilp hy
    refine seq (eqGuard_plain _ _ _ _ _ _ _ (by simp) (by simp)) ?_
    refine (boolOp_ok h (fun hb => ?_) (by simp) (fun o => ⟨by rintro rfl; rfl, by rintro rfl; rfl⟩)).2
    unfold isPtrT at hb
    split at hb
    · rename_i he
      have hu := (ht _ _ he).2.1
      exact equal_ptr hu _
    · cases hb
  | _ => simp [binV] at h

theorem un_ok {op : UnOp} {u r : AVal} {g : Bool} {x : Value} (h : unA op u = .val g r) (hx : VR C σ u x) : g = true ∧ Gv P C σ w (Op.unary op x) r := by
  cases op <;> cases u <;> simp only [unA, AOut.val.injEq, reduceCtorEq] at h
  all_goals (obtain ⟨rfl, rfl⟩ := h; refine ⟨rfl, ?_⟩)
  · obtain ⟨rfl, _⟩ := VR.int hx
    exact ⟨_, by simp [Op.unary, Op.intArith], rng_wrap _ _, rfl⟩
  · obtain ⟨rfl, _⟩ := VR.int hx
    exact ⟨_, by simp only [Op.unary]; rw [intBits_xor]; rfl, rng_bits _ _ _ _, rfl⟩
  · cases VR.bool hx
    exact ⟨_, by simp [Op.unary], rfl⟩

theorem ext_ok {u r : AVal} {g : Bool} {x : Value} {ix : Nat} (h : extA ix u = .val g r) (hx : VR C σ u x) : g = true ∧ Gv P C σ w (Instr.extract x ix) r := by
  cases u <;> simp only [extA, reduceCtorEq] at h
  split at h
  · rename_i v hv
    cases h
    obtain ⟨xs, h1, rfl⟩ := VR.tup hx
    obtain ⟨c, h2, h3⟩ := nthT hv h1
    exact ⟨rfl, c, by simp [Instr.extract, h2], h3⟩
  · cases h

theorem iface_ok (hE : ∃ k, P.underlying C.tE = some (.int k)) (hA : ∃ fs, P.underlying C.tA = some (.struct fs)) {t : Nat} {u r : AVal} {g : Bool} {x : Value} (h : ifaceA C t u = .val g r) (hx : VR C σ u x) : g = true ∧ Gv P C σ w (Instr.makeInterface t x) r := by
  unfold ifaceA at h
  split at h
  · rename_i n
    split at h
    · rename_i hb
      cases h
      have := Nat.eq_of_beq_eq_true hb
      subst this
      obtain ⟨rfl, hr⟩ := VR.int hx
      obtain ⟨k, hu⟩ := hE
      exact ⟨rfl, _, by simp [Instr.makeInterface, run_underlying hu]; rfl, hr, rfl⟩
    · cases h
  · rename_i o n
    split at h
    · rename_i hb
      cases h
      have := Nat.eq_of_beq_eq_true hb
      subst this
      obtain ⟨xs, hr, rfl⟩ := VR.agg hx
      simp only [RL] at hr
      obtain ⟨x1, y1, ⟨r1, rfl⟩, ⟨x2, y2, ⟨r2, rfl⟩, rfl, rfl⟩, rfl⟩ := hr
      obtain ⟨fs, hu⟩ := hA
      exact ⟨rfl, _, by simp [Instr.makeInterface, run_underlying hu]; rfl, ⟨r1, r2⟩, rfl⟩
    · cases h
  · cases h

theorem field_ok (ht : TabOk P C.tt) {t i : Nat} {u r : AVal} {g : Bool} {x : Value} (h : fieldA C.tt t i u = .val g r) (hx : VR C σ u x) : g = true ∧ Gv P C σ w (Instr.field t x i) r := by
  cases u <;> simp only [fieldA, reduceCtorEq] at h
  rename_i p
  split at h
  · rename_i v hf hv
    cases h
    simp only [fits] at hf
    split at hf
    · rename_i fs sz bt eq he
      rw [Bool.and_eq_true] at hf
      obtain ⟨xs, hr, rfl⟩ := VR.agg hx
      obtain ⟨ti, k1, k2, k3, k4⟩ := nth_ok ht hf.2 hr hv
      rw [List.getElem?_map] at k1
      obtain ⟨⟨ti', o⟩, hfi, rfl⟩ := Option.map_eq_some_iff.1 k1
      have hk := (ht _ _ he).2
      simp only [KOk] at hk
      have ho := offs_ok hk.2.1 hfi
      rw [Nat.zero_add] at ho
      rw [← ho] at k3 k4
      obtain ⟨fields, hu, hfl⟩ := hk.1
      obtain ⟨c, p1, p2⟩ := part_run (P := P) (w := w) ht k2 k3 k4
      have hfi' : ∃ f, fields[i]? = some f ∧ f.type = ti' ∧ f.offset = o := by
        rw [← hfl, List.getElem?_map] at hfi
        obtain ⟨f, h1, h2⟩ := Option.map_eq_some_iff.1 hfi
        simp only [Prod.mk.injEq] at h2
        exact ⟨f, by simpa using h1, h2.1, h2.2⟩
      obtain ⟨f, e1, e2, e3⟩ := hfi'
      refine ⟨rfl, c, ?_, p2⟩
      simp only at p1
      simp [Instr.field, run_underlying hu, e1, asAgg, e2, e3, p1]
    · cases hf
  · cases h

theorem inB_spec {i : Int} {n : Nat} (h : inB i n = true) : 0 ≤ i ∧ i < (n : Int) := by simpa [inB] using h
theorem cutB_spec {lo hi : Int} {n : Nat} (h : cutB lo hi n = true) : 0 ≤ lo ∧ lo ≤ hi ∧ hi ≤ (n : Int) := by simpa [cutB] using h

theorem index_ok (ht : TabOk P C.tt) {t : Nat} {u v r : AVal} {g : Bool} {x y : Value} (h : indexA C.tt t u v = .val g r) (hg : g = true) (hx : VR C σ u x) (hy : VR C σ v y) : Gv P C σ w (Instr.index t x y) r := by
  cases u <;> cases v <;> simp only [indexA, reduceCtorEq] at h
  · rename_i l k j
    split at h
    · rename_i hs
      simp only [AOut.val.injEq] at h
      obtain ⟨h1, rfl⟩ := h
      subst hg
      obtain ⟨g1, g2⟩ := inB_spec h1
      unfold isStrT at hs
      split at hs
      · rename_i he
        have hu := (ht _ _ he).2.1
        cases VR.str hx
        obtain ⟨rfl, _⟩ := VR.int hy
        have hlt : j.toNat < l.length := by omega
        have hget : (mk l)[j.toNat]? = some (l.getD j.toNat 0) := by
          rw [getElem?_pos (mk l) j.toNat (by simpa [ByteArray.size] using hlt)]
          simp [List.getD_eq_getElem?_getD, hlt]
          rfl
        exact ⟨.int .u8 (byt l j), by simp [Instr.index, asIntOf, run_underlying hu, g1, hget, byt], rng_byte _, rfl⟩
      · cases hs
    · cases h
  · rename_i m s k j
    split at h
    · rename_i hf
      simp only [AOut.val.injEq] at h
      obtain ⟨h1, rfl⟩ := h
      subst hg
      obtain ⟨g1, g2⟩ := inB_spec h1
      simp only [fits] at hf
      split at hf
      · rename_i n' e sz bt eq he
        rw [Bool.and_eq_true] at hf
        have hn := Nat.eq_of_beq_eq_true hf.1
        have hk := (ht _ _ he).2
        simp only [KOk] at hk
        obtain ⟨rfl, l1, r1⟩ := VR.arr hx
        obtain ⟨rfl, _⟩ := VR.int hy
        have hi : j.toNat < s.len := by omega
        obtain ⟨us, a1, a2, a3⟩ := Sq.get_ok (C := C) (σ := σ) r1 hi
        have hfe := like_fits (i := j.toNat) hf.2
        have hil : (s.get j.toNat).isList = false := by cases s <;> rfl
        have hesz := sqOk_sz ht hf.2
        have hle : j.toNat * s.esz + s.esz ≤ s.cells.length := by
          rw [Sq.cells_len s, ← Nat.succ_mul]; exact Nat.mul_le_mul_right _ hi
        obtain ⟨c, p1, p2⟩ := part_run (P := P) (w := w) ht (v := s.get j.toNat) (t := e) (o := j.toNat * s.esz) (cs := s.cells) (by simp [fit1, hil, hfe]) (by rw [hesz, a2]; exact a1) (by rw [hesz]; exact hle)
        have hte : ∃ te, tlk C.tt e = some te ∧ te.sz = s.esz := by
          obtain ⟨te, h1, _⟩ := fits_tlk hfe hil
          exact ⟨te, h1, by rw [← tlk_sz h1, hesz]⟩
        obtain ⟨te, h1, h2⟩ := hte
        refine ⟨c, ?_, p2⟩
        have hj : j < (n' : Int) := by omega
        have hsz := size_run (P := P) ht h1 w
        rw [h2] at hsz
        simp only [Instr.index, asIntOf, Sem.run_bind, Sem.run_pure, Result.andThen_ok, run_underlying hk.1]
        rw [if_pos ⟨g1, hj⟩]
        simp only [Sem.run_bind, hsz, Result.andThen_ok, p1]
      · cases hf
    · cases h
end
end Go.Proofs.YtaakccdfgejgpaaGreatDoor.Abs
