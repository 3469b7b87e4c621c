/-
  The small calculus, second part: what only computes is run as the model runs it.
-/
import Derived.Test.YtcdcihmlmcnbjaaEng
import Derived.Laws.Entries
namespace Go.Proofs.Ytcdcihmlmcnbjaa.Eng
open Go

section
variable {P : Program} {n : Nat} {ds : List Deferred} {fr : Fr} {a : Act} {tt : List (Nat × TK)}

theorem run_pvInt {op : BinOp} {k : IntKind} {x y : Int} {v : Value} (h : pvInt op k x y = some v) (w : World) : (binOp op 0 (.int k x) (.int k y)).run P w = .ok v w := by
  cases op <;> first
    | (simp only [pvInt, Option.some.injEq] at h; subst h; simp [binOp, Op.intArith, Op.intBits, Op.intCmp]; done)
    | (simp only [pvInt, Option.some.injEq] at h; subst h; simp only [binOp, ne_eq, not_true, if_false]; (first | rw [intBits_and] | rw [intBits_or] | rw [intBits_xor] | rw [intBits_andNot]); rfl)
    | (simp [pvInt] at h; done)

theorem eqGuard_plain (op : BinOp) (t : TypeId) (x y : Operand) (u v : Value) (w : World) (hu : ∀ cs, u ≠ .agg cs) (hn : u ≠ .nilIface) : (eqGuard op t x y u v).run P w = .ok () w := by
  cases u <;> first | exact absurd rfl hn | exact absurd rfl (hu _) | (cases op <;> rfl)

theorem toList_loop (s : ByteArray) : ∀ (m i : Nat) (r : List UInt8), m = s.size - i → ByteArray.toList.loop s i r = r.reverse ++ s.data.toList.drop i
  | 0, i, r, h => by
    unfold ByteArray.toList.loop
    have hs : s.data.toList.length = s.size := rfl
    rw [if_neg (by omega), List.drop_eq_nil_of_le (by omega), List.append_nil]
  | m + 1, i, r, h => by
    unfold ByteArray.toList.loop
    have hlt : i < s.size := by omega
    have hs : s.data.toList.length = s.size := rfl
    rw [if_pos hlt, toList_loop s m (i + 1) _ (by omega), List.drop_eq_getElem_cons (by omega : i < s.data.toList.length)]
    have hg : s.get! i = s.data.toList[i]'(by omega) := by
      simp only [ByteArray.get!]
      rw [getElem!_pos s.data i hlt]
      rfl
    simp [hg]
theorem toList_data (s : ByteArray) : s.toList = s.data.toList := by
  have := toList_loop s (s.size - 0) 0 [] rfl
  simpa [ByteArray.toList] using this

theorem run_pvBin {op : BinOp} {t : TypeId} {u v r : Value} (h : pvBin op u v = some r) (w : World) : (binOp op t u v).run P w = .ok r w := by
  unfold pvBin at h
  split at h
  · split at h
    · rename_i hk
      cases kindEq_spec hk
      have := run_pvInt (P := P) h w
      rw [← this]
      cases op <;> rfl
    · cases h
  · rename_i a b
    cases op <;> first
      | (simp only [pvStr, Option.some.injEq] at h; subst h; simp [binOp, Op.stringOp, toList_data]; done)
      | (simp [pvStr] at h; done)
  · cases h

theorem pvBin_shape {op : BinOp} {u v r : Value} (h : pvBin op u v = some r) : (∀ cs, u ≠ .agg cs) ∧ u ≠ .nilIface := by
  unfold pvBin at h
  split at h
  · exact ⟨fun _ h => (by cases h), fun h => (by cases h)⟩
  · exact ⟨fun _ h => (by cases h), fun h => (by cases h)⟩
  · cases h

theorem run_equal_bool {t : Nat} (hb : P.underlying t = some .bool) (b c : Bool) (w : World) : (Op.equal t (.bool b) (.bool c)).run P w = .ok (b == c) w := by
  unfold Op.equal
  rw [show Op.maxDepth = 9999 + 1 from rfl, Op.equalIn.eq_2]
  simp only [Sem.run_bind, run_underlying hb, Result.andThen_ok, Sem.run_pure]
theorem run_eql_bool {t : Nat} (hb : P.underlying t = some .bool) (b c : Bool) (w : World) : (binOp .eql t (.bool b) (.bool c)).run P w = .ok (.bool (b == c)) w := by
  show (Sem.bind (Op.equal t (.bool b) (.bool c)) fun r => Sem.pure (Value.bool r)).run P w = _
  exact (Sem.run_bind' P (Op.equal t (.bool b) (.bool c)) (fun r => (Sem.pure (.bool r) : Sem Value)) w).trans (by rw [run_equal_bool hb]; rfl)
theorem run_neq_bool {t : Nat} (hb : P.underlying t = some .bool) (b c : Bool) (w : World) : (binOp .neq t (.bool b) (.bool c)).run P w = .ok (.bool (!(b == c))) w := by
  show (Sem.bind (Op.equal t (.bool b) (.bool c)) fun r => Sem.pure (Value.bool (!r))).run P w = _
  exact (Sem.run_bind' P (Op.equal t (.bool b) (.bool c)) (fun r => (Sem.pure (.bool (!r)) : Sem Value)) w).trans (by rw [run_equal_bool hb]; rfl)

theorem map_one {α β : Type} {f : α → β} {l : List α} {y : β} (h : l.map f = [y]) : ∃ x, l = [x] ∧ f x = y := by
  cases l with
  | nil => cases h
  | cons x r => cases r with
    | nil => simp at h; exact ⟨x, rfl, h⟩
    | cons _ _ => simp at h

theorem map_two {α β : Type} {f : α → β} {l : List α} {y z : β} (h : l.map f = [y, z]) : ∃ p q, l = [p, q] ∧ f p = y ∧ f q = z := by
  cases l with
  | nil => cases h
  | cons x r => cases r with
    | nil => simp at h
    | cons x' r => cases r with
      | nil => simp at h; exact ⟨x, x', rfl, h.1, h.2⟩
      | cons _ _ => simp at h

theorem pv_call_ok (ht : Tok P tt) {b : Builtin} {as : Array Operand} {ts : Array Nat} (hr : Rep n ds fr a) {v : Value} (h : pvCall tt b ts.toList (as.toList.map (ev fr)) = some v) (ty : Nat) (cs : Array Bool) (w : World) :
    (builtin b ts ty cs (as.map a.eval)).run P w = .ok (.value v) w := by
  obtain ⟨as⟩ := as
  obtain ⟨ts⟩ := ts
  simp only at h
  unfold pvCall at h
  split at h
  · rename_i t s hx
    obtain ⟨x, rfl, hy⟩ := map_one hx
    · split at h
      · rename_i hk
        cases h
        have hu : P.underlying t = some .string := ht _ _ hk
        simp [builtin, Builtin.len_, hr.eval hy, run_underlying hu, goInt]
      · cases h
  · rename_i t A m c hx
    obtain ⟨x, rfl, hy⟩ := map_one hx
    · split at h
      · rename_i e hk
        cases h
        have hu : P.underlying t = some (.slice e) := ht _ _ hk
        simp [builtin, Builtin.len_, hr.eval hy, run_underlying hu, goInt]
      · cases h
  · rename_i ts k x k' y hx
    obtain ⟨p, q, rfl, hy⟩ := map_two hx
    · cases h
      simp [builtin, Builtin.min_, hr.eval hy.1, hr.eval hy.2, Builtin.min2, List.foldlM]
  · rename_i ts k x k' y hx
    obtain ⟨p, q, rfl, hy⟩ := map_two hx
    · cases h
      simp [builtin, Builtin.max_, hr.eval hy.1, hr.eval hy.2, Builtin.max2, List.foldlM]
  · cases h

theorem pv_ok (ht : Tok P tt) (hr : Rep n ds fr a) {o : Oper} {v : Value} (h : pv tt fr o.op = some v) (w : World) : (execOp a.eval o).run P w = .ok (.value v) w := by
  unfold execOp
  generalize hop : o.op = op at h
  unfold pv at h
  split at h
  · simp [hr.eval h]
  · simp [hr.eval h]
  · rename_i c x y
    split at h
    · rename_i hc; simp [hr.eval hc, hr.eval h, asBool]
    · rename_i hc; simp [hr.eval hc, hr.eval h, asBool]
    · cases h
  · rename_i op t x y t'
    split at h
    · rename_i b c hu hv
      split at h
      · rename_i hk
        cases h
        have hb : P.underlying t = some .bool := ht _ _ hk
        simp [hr.eval hu, hr.eval hv, eqGuard_plain, run_eql_bool hb]
      · rename_i hk
        cases h
        have hb : P.underlying t = some .bool := ht _ _ hk
        simp [hr.eval hu, hr.eval hv, eqGuard_plain, run_neq_bool hb]
      · cases h
    · rename_i u v' _ hu hv
      obtain ⟨s1, s2⟩ := pvBin_shape h
      simp [hr.eval hu, hr.eval hv, eqGuard_plain _ _ _ _ _ _ _ s1 s2, run_pvBin h]
    · cases h
  · split at h
    · rename_i b hb; cases h; simp [hr.eval hb, Op.unary]
    · cases h
  · split at h
    · rename_i b m hb; cases h; simp [hr.eval hb, Op.unary, Op.intArith]
    · cases h
  · split at h
    · rename_i vs hv
      simp only [Array.getElem?_toList] at h
      simp [hr.eval hv, Instr.extract, h]
    · cases h
  · rename_i s d x
    split at h
    · rename_i ks k k' m h1 h2 h3
      cases h
      have hu2 := ht _ _ h2
      simp only [TK.ok] at hu2
      have : ∃ z, P.underlying s = some z := by
        have hu1 := ht _ _ h1
        cases ks
        case struct _ => exact ⟨_, hu1.choose_spec⟩
        case err => exact ⟨_, hu1.choose_spec⟩
        case fn => obtain ⟨_, _, _, q⟩ := hu1; exact ⟨_, q⟩
        all_goals exact ⟨_, hu1⟩
      obtain ⟨z, hz⟩ := this
      simp [hr.eval h3, convert, run_underlying hu2, run_underlying hz, Conv.intToInt]
    · rename_i b h1 h2 h3
      cases h
      have hu1 : P.underlying s = some .string := ht _ _ h1
      have hu2 : P.underlying d = some .string := ht _ _ h2
      simp [hr.eval h3, convert, run_underlying hu2, run_underlying hu1]
    · cases h
  · rename_i t x
    split at h
    · rename_i k u h1 h2
      cases h
      have hu : P.underlying t = some (.int k) := ht _ _ h1
      simp [hr.eval h2, Instr.makeInterface, run_underlying hu]
    · rename_i os u h1 h2
      cases h
      obtain ⟨fs, hu⟩ : ∃ fs, P.underlying t = some (.struct fs) := ht _ _ h1
      simp [hr.eval h2, Instr.makeInterface, run_underlying hu]
    · cases h
  · rename_i b as ts
    simp only [resolve, Sem.run_bind, Sem.run_pure, Result.andThen_ok, invoke]
    exact pv_call_ok ht hr h _ _ w
  · cases h
end
end Go.Proofs.Ytcdcihmlmcnbjaa.Eng
