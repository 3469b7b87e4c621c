/-
  The small calculus, third part: regions, calls, structured code, loops, functions.
-/
import Derived.Test.YtcdcihmlmcnbjaaEngB
namespace Go.Proofs.Ytcdcihmlmcnbjaa.Eng
open Go

def guardB (b want : Bool) : Bool := match b, want with
  | true, true => true
  | false, false => true
  | _, _ => false

def gd (ops : List Oper) (fr : Fr) (o : Oper) : Option Bool :=
  match o.guard with
  | none => some true
  | some (j, want) => match ops[j]? with
    | none => none
    | some oj => match oj.dst with
      | none => none
      | some d => match look fr d with
        | some (.bool b) => some (guardB b want)
        | some (.tuple _) => some false
        | _ => none

def putF (n : Nat) (fr : Fr) (dst : Option Tmp) (v : Value) : Option Fr :=
  match dst with
  | none => some fr
  | some d => match Nat.blt d n with
    | true => some ((d, v) :: fr)
    | false => none

section
variable {P : Program} {Q : Exit → Act → World → Prop} {n : Nat} {ds : List Deferred} {fr : Fr} {w : World} {tt : List (Nat × TK)} {ops : List Oper}

theorem gd_spec {a : Act} (hr : Rep n ds fr a) {o : Oper} {b : Bool} (h : gd ops fr o = some b) : Region.wanted o (yielded ops.toArray a.tmps) = b := by
  unfold gd at h
  unfold Region.wanted
  split at h
  · rename_i hg; cases h; rw [hg]
  · rename_i j want hg
    rw [hg]
    simp only
    split at h
    · cases h
    · rename_i oj hj
      split at h
      · cases h
      · rename_i d hd
        split at h
        · rename_i c hc
          cases h
          have := hr.vals d _ hc
          simp only [yielded, List.getElem?_toArray, hj, Option.bind_some, hd, this]
          cases c <;> cases want <;> rfl
        · rename_i vs hc
          cases h
          have := hr.vals d _ hc
          simp only [yielded, List.getElem?_toArray, hj, Option.bind_some, hd, this]
          cases want <;> rfl
        · cases h

theorem putF_spec {a : Act} (hr : Rep n ds fr a) {dst : Option Tmp} {v : Value} {fr' : Fr} (h : putF n fr dst v = some fr') : Rep n ds fr' (a.put dst v) := by
  unfold putF at h
  split at h
  · cases h; exact hr
  · split at h
    · rename_i hd; cases h; exact hr.put hd
    · cases h

/-- From operation i on. -/
def WI (P : Program) (ops : List Oper) (Q : Exit → Act → World → Prop) (n : Nat) (ds : List Deferred) (i : Nat) (fr : Fr) (w : World) : Prop :=
  ∀ a, Rep n ds fr a → wpList P ops.toArray Q (ops.drop i) a w

def WC (P : Program) (Q : Exit → Act → World → Prop) (n : Nat) (ds : List Deferred) (c : Code) (fr : Fr) (w : World) : Prop :=
  ∀ a, Rep n ds fr a → c.wp P Q a w

def QF (Q : Exit → Act → World → Prop) (n : Nat) (ds : List Deferred) (e : Exit) (fr : Fr) (w : World) : Prop :=
  ∀ a, Rep n ds fr a → Q e a w

/-- One operation, on its own. -/
def St (P : Program) (Q : Exit → Act → World → Prop) (n : Nat) (ds : List Deferred) (fr : Fr) (w : World) (o : Oper) (R : Value → World → Prop) : Prop :=
  ∀ a, Rep n ds fr a → o.wp P a w (fun a' w' => ∃ v, a' = a.put o.dst v ∧ R v w') Q

theorem drop_cons {i : Nat} {o : Oper} (ho : ops[i]? = some o) : ops.drop i = o :: ops.drop (i + 1) := by
  have hlt : i < ops.length := (List.getElem?_eq_some_iff.1 ho).1
  have he : ops[i] = o := (List.getElem?_eq_some_iff.1 ho).2
  rw [List.drop_eq_getElem_cons hlt, he]

theorem WI.step {i : Nat} {o : Oper} {d : Nat} {R : Value → World → Prop} (ho : ops[i]? = some o) (hg : gd ops fr o = some true) (hd : o.dst = some d) (hlt : Nat.blt d n = true)
    (hs : St P Q n ds fr w o R) (h : ∀ v w', R v w' → WI P ops Q n ds (i + 1) ((d, v) :: fr) w') : WI P ops Q n ds i fr w := by
  intro a hr
  rw [drop_cons ho]
  unfold wpList
  rw [if_pos (gd_spec hr hg)]
  refine .inl (Oper.wp_mono ?_ (hs a hr))
  rintro a' w' ⟨v, rfl, hv⟩
  rw [hd]
  exact h v w' hv _ (hr.put hlt)

theorem WI.step0 {i : Nat} {o : Oper} {R : Value → World → Prop} (ho : ops[i]? = some o) (hg : gd ops fr o = some true) (hd : o.dst = none)
    (hs : St P Q n ds fr w o R) (h : ∀ v w', R v w' → WI P ops Q n ds (i + 1) fr w') : WI P ops Q n ds i fr w := by
  intro a hr
  rw [drop_cons ho]
  unfold wpList
  rw [if_pos (gd_spec hr hg)]
  refine .inl (Oper.wp_mono ?_ (hs a hr))
  rintro a' w' ⟨v, rfl, hv⟩
  rw [hd]
  exact h v w' hv _ hr

theorem WI.done {i : Nat} (ho : ops[i]? = none) (h : QF Q n ds .normal fr w) : WI P ops Q n ds i fr w := by
  intro a hr
  rw [List.drop_eq_nil_of_le (by simpa using ho)]
  exact h a hr

theorem WI.sub {i : Nat} (fr' : Fr) (hs : subF fr fr') (h : WI P ops Q n ds i fr' w) : WI P ops Q n ds i fr w :=
  fun a hr => h a (hr.sub (subF_spec hs))

/-- So many operations that only compute. -/
def prun (tt : List (Nat × TK)) (n : Nat) (ops : List Oper) : Nat → Nat → Fr → Option Fr
  | 0, _, fr => some fr
  | k + 1, i, fr => match ops[i]? with
    | none => none
    | some o => match gd ops fr o with
      | none => none
      | some false => match putF n fr o.dst undef with
        | none => none
        | some f => prun tt n ops k (i + 1) f
      | some true => match pv tt fr o.op with
        | none => none
        | some v => match putF n fr o.dst v with
          | none => none
          | some f => prun tt n ops k (i + 1) f

theorem prun_ok (ht : Tok P tt) : ∀ (k i : Nat) (fr fr' : Fr), prun tt n ops k i fr = some fr' → WI P ops Q n ds (i + k) fr' w → WI P ops Q n ds i fr w
  | 0, i, fr, fr', h, hw => by cases h; exact hw
  | k + 1, i, fr, fr', h, hw => by
    unfold prun at h
    split at h
    · cases h
    · rename_i o ho
      split at h
      · cases h
      · rename_i hg
        split at h
        · cases h
        · rename_i f hf
          have ih := prun_ok ht k (i + 1) f fr' h (by rw [Nat.add_assoc, Nat.add_comm 1 k]; exact hw)
          intro a hr
          rw [drop_cons ho]
          unfold wpList
          rw [if_neg (by rw [gd_spec hr hg]; simp)]
          exact ih _ (putF_spec hr hf)
      · rename_i hg
        split at h
        · cases h
        · rename_i v hv
          split at h
          · cases h
          · rename_i f hf
            have ih := prun_ok ht k (i + 1) f fr' h (by rw [Nat.add_assoc, Nat.add_comm 1 k]; exact hw)
            intro a hr
            rw [drop_cons ho]
            unfold wpList
            rw [if_pos (gd_spec hr hg)]
            left
            unfold Oper.wp
            rw [pv_ok ht hr hv w, Oper.upon_value]
            exact ih _ (putF_spec hr hf)

def picks (f : Fr) (ks : Fr) : List (Option Value) := ks.map (fun p => look f p.1)
def vals (ks : Fr) : List (Option Value) := ks.map (fun p => some p.2)

theorem WI.run (ht : Tok P tt) {i : Nat} (k j : Nat) (fr' : Fr) (h : (prun tt n ops k i fr).map (fun f => picks f fr') = some (vals fr')) (hj : i + k = j) (hw : WI P ops Q n ds j fr' w) : WI P ops Q n ds i fr w := by
  cases hp : prun tt n ops k i fr with
  | none => rw [hp] at h; cases h
  | some f =>
    rw [hp] at h
    simp only [Option.map_some, Option.some.injEq] at h
    exact prun_ok ht k i fr f hp (by rw [hj]; exact WI.sub fr' h hw)

/-- Operations that run under a test that is still open, and the pick behind them: one value for both ways. -/
theorem WI.runIf (ht : Tok P tt) {i : Nat} (t : Nat) (b : Bool) (hb : look fr t = some (.bool b)) (k j d : Nat) (x1 x2 : Bool) (fr' : Fr)
    (h1 : (prun tt n ops k i ((t, .bool true) :: fr)).map (fun f => picks f ((d, .bool x1) :: fr')) = some (vals ((d, .bool x1) :: fr')))
    (h2 : (prun tt n ops k i ((t, .bool false) :: fr)).map (fun f => picks f ((d, .bool x2) :: fr')) = some (vals ((d, .bool x2) :: fr'))) (hj : i + k = j)
    (hw : WI P ops Q n ds j ((d, .bool (bif b then x1 else x2)) :: fr') w) : WI P ops Q n ds i fr w := by
  have key : ∀ a c, Rep n ds fr a → b = c → Rep n ds ((t, .bool c) :: fr) a := by
    intro a c hr e
    refine hr.sub ?_
    intro j u hu
    rw [look_cons] at hu
    by_cases hj : t = j
    · subst hj; rw [if_pos rfl] at hu; cases hu; rw [hb, e]
    · rw [if_neg hj] at hu; exact hu
  intro a hr
  cases hc : b with
  | true => rw [hc] at hw; exact WI.run ht k j _ h1 hj hw a (key a true hr hc)
  | false => rw [hc] at hw; exact WI.run ht k j _ h2 hj hw a (key a false hr hc)
theorem WI.runAnd (ht : Tok P tt) {i : Nat} (t : Nat) (b : Bool) (hb : look fr t = some (.bool b)) (k j d : Nat) (x : Bool) (fr' : Fr)
    (h1 : (prun tt n ops k i ((t, .bool true) :: fr)).map (fun f => picks f ((d, .bool x) :: fr')) = some (vals ((d, .bool x) :: fr')))
    (h2 : (prun tt n ops k i ((t, .bool false) :: fr)).map (fun f => picks f ((d, .bool false) :: fr')) = some (vals ((d, .bool false) :: fr'))) (hj : i + k = j)
    (hw : WI P ops Q n ds j ((d, .bool (b && x)) :: fr') w) : WI P ops Q n ds i fr w :=
  WI.runIf ht t b hb k j d x false fr' h1 h2 hj (by cases b <;> exact hw)
theorem WI.runOr (ht : Tok P tt) {i : Nat} (t : Nat) (b : Bool) (hb : look fr t = some (.bool b)) (k j d : Nat) (x : Bool) (fr' : Fr)
    (h1 : (prun tt n ops k i ((t, .bool true) :: fr)).map (fun f => picks f ((d, .bool true) :: fr')) = some (vals ((d, .bool true) :: fr')))
    (h2 : (prun tt n ops k i ((t, .bool false) :: fr)).map (fun f => picks f ((d, .bool x) :: fr')) = some (vals ((d, .bool x) :: fr'))) (hj : i + k = j)
    (hw : WI P ops Q n ds j ((d, .bool (b || x)) :: fr') w) : WI P ops Q n ds i fr w :=
  WI.runIf ht t b hb k j d true x fr' h1 h2 hj (by cases b <;> exact hw)

/-- A test that is still open: both ways. -/
theorem WI.split {i : Nat} (t : Nat) (b : Bool) (hb : look fr t = some (.bool b)) (h1 : b = true → WI P ops Q n ds i ((t, .bool true) :: fr) w) (h2 : b = false → WI P ops Q n ds i ((t, .bool false) :: fr) w) : WI P ops Q n ds i fr w := by
  have key : ∀ a c, Rep n ds fr a → b = c → Rep n ds ((t, .bool c) :: fr) a := by
    intro a c hr e
    refine hr.sub ?_
    intro j u hu
    rw [look_cons] at hu
    by_cases hj : t = j
    · subst hj; rw [if_pos rfl] at hu; cases hu; rw [hb, e]
    · rw [if_neg hj] at hu; exact hu
  intro a hr
  cases hc : b with
  | true => exact h1 hc a (key a true hr hc)
  | false => exact h2 hc a (key a false hr hc)

/-! ### Calls -/
def entersB (P : Program) (f : Nat) : Bool := match P.funcs[f]? with
  | some fn => fn.name != "runtime.NumGoroutine" && fn.body.isSome
  | none => false

theorem enters_run {f : Nat} (h : entersB P f = true) (args : Array Value) (w : World) : (callFunc f args).run P w = .ok (.enter f args) w := by
  unfold entersB at h
  split at h
  · rename_i fn hf
    simp only [Bool.and_eq_true, bne_iff_ne, ne_eq] at h
    obtain ⟨b, hb⟩ := Option.isSome_iff_exists.1 h.2
    simp [callFunc, program, Sem.run, hf, h.1, hb]
  · cases h

theorem map_eval {a : Act} (hr : Rep n ds fr a) : ∀ {as : List Operand} {args : List Value}, as.map (ev fr) = args.map some → as.map a.eval = args
  | [], [], _ => rfl
  | [], _ :: _, h => by cases h
  | _ :: _, [], h => by cases h
  | x :: r, v :: s, h => by
    simp only [List.map_cons, List.cons.injEq] at h ⊢
    exact ⟨hr.eval h.1, map_eval hr h.2⟩

theorem St.call {o : Oper} {x : Operand} {as : List Operand} {ts : Array Nat} (hop : o.op = .call { callee := .value x, args := as.toArray, argTypes := ts }) {f : Nat} {first cap : List Value}
    (hx : ev fr x = some (.func (.func f) first.toArray cap.toArray)) (hen : entersB P f = true) (args : List Value) (hargs : as.map (ev fr) = args.map some)
    {R : Value → World → Prop} (h : Calls P f (first ++ args ++ cap).toArray w fun e w' => ∃ v, e = .returned v ∧ R v w') : St P Q n ds fr w o R := by
  intro a hr
  have hrun : (execOp a.eval o).run P w = .ok (.enter f (first ++ args ++ cap).toArray) w := by
    unfold execOp
    have hm := map_eval hr hargs
    simp [hop, resolve, Deferred.ofValue, invoke, hr.eval hx, hm, enters_run hen]
  unfold Oper.wp
  rw [hrun, Oper.upon_enter]
  refine h.mono ?_
  rintro e w' ⟨v, rfl, hv⟩
  exact ⟨v, rfl, hv⟩

/-- The commonest call: of a function by name. -/
theorem WI.call {i : Nat} {f d : Nat} (as : List Operand) (ts : Array Nat) {ty : Nat} {pos : String} {after : Array Edge} {gdv : Option (Nat × Bool)}
    (ho : ops[i]? = some ⟨some d, .call { callee := .value (.func f), args := as.toArray, argTypes := ts }, ty, pos, after, gdv⟩) (hg : gd ops fr ⟨some d, .call { callee := .value (.func f), args := as.toArray, argTypes := ts }, ty, pos, after, gdv⟩ = some true)
    (hlt : Nat.blt d n = true) (hen : entersB P f = true) (args : List Value) (hargs : as.map (ev fr) = args.map some)
    {R : Value → World → Prop} (hc : Calls P f args.toArray w fun e w' => ∃ v, e = .returned v ∧ R v w') (h : ∀ v w', R v w' → WI P ops Q n ds (i + 1) ((d, v) :: fr) w') : WI P ops Q n ds i fr w :=
  WI.step ho hg rfl hlt (St.call (x := .func f) (first := []) (cap := []) rfl rfl hen args hargs (by simpa using hc)) h

/-! ### Structured code -/
theorem WC.region {id : Nat} (h : WI P ops Q n ds 0 fr w) : WC P Q n ds (.region id ops.toArray false) fr w :=
  fun a hr => wp_region_lit (by have := h a hr; simpa using this)
theorem WC.sub {c : Code} (fr' : Fr) (hs : picks fr fr' = vals fr') (h : WC P Q n ds c fr' w) : WC P Q n ds c fr w := fun a hr => h a (hr.sub (subF_spec hs))
theorem WC.seq {x y : Code} (h : WC P (Exit.then (y.wp P Q) Q) n ds x fr w) : WC P Q n ds (.seq x y) fr w := fun a hr => wp_seq (h a hr)
theorem WC.skip (h : QF Q n ds .normal fr w) : WC P Q n ds .skip fr w := fun a hr => wp_skip (h a hr)
theorem WC.exit {id : Nat} (h : QF Q n ds (.exit id) fr w) : WC P Q n ds (.exit id) fr w := fun a hr => wp_exit (h a hr)
theorem WC.ret (h : QF Q n ds .ret fr w) : WC P Q n ds .ret fr w := fun a hr => wp_ret (h a hr)
theorem WC.block {id : Nat} {c : Code} (h : WC P (Exit.inBlock id Q) n ds c fr w) : WC P Q n ds (.block id c) fr w := fun a hr => wp_block (h a hr)
theorem WC.cond {c : Operand} {x y : Code} {b : Bool} (hc : ev fr c = some (.bool b)) (h1 : b = true → WC P Q n ds x fr w) (h2 : b = false → WC P Q n ds y fr w) : WC P Q n ds (.cond c x y) fr w := by
  intro a hr
  cases hb : b with
  | true => exact wp_cond_true (by rw [hr.eval hc, hb]) (h1 hb a hr)
  | false => exact wp_cond_false (by rw [hr.eval hc, hb]) (h2 hb a hr)
theorem WC.condT {c : Operand} {x y : Code} (hc : ev fr c = some (.bool true)) (h : WC P Q n ds x fr w) : WC P Q n ds (.cond c x y) fr w := fun a hr => wp_cond_true (hr.eval hc) (h a hr)
theorem WC.condF {c : Operand} {x y : Code} (hc : ev fr c = some (.bool false)) (h : WC P Q n ds y fr w) : WC P Q n ds (.cond c x y) fr w := fun a hr => wp_cond_false (hr.eval hc) (h a hr)

/-- What follows, proved once for all ways that meet there. -/
theorem WC.cut {x y : Code} (I : Fr → World → Prop) (hx : WC P (Exit.then (fun a w => ∃ fr', Rep n ds fr' a ∧ I fr' w) Q) n ds x fr w) (hy : ∀ fr' w', I fr' w' → WC P Q n ds y fr' w') : WC P Q n ds (.seq x y) fr w := by
  intro a hr
  refine wp_seq (Code.wp_mono ?_ (hx a hr))
  intro e a' w' he
  cases e <;> first | exact he | skip
  obtain ⟨fr', h1, h2⟩ := he
  exact hy fr' w' h2 a' h1
theorem QF.meet {I : Fr → World → Prop} {Q' : Exit → Act → World → Prop} (fr' : Fr) (hs : picks fr fr' = vals fr') (h : I fr' w) : QF (Exit.then (fun a w => ∃ fr', Rep n ds fr' a ∧ I fr' w) Q') n ds .normal fr w := fun _ hr => ⟨fr', hr.sub (subF_spec hs), h⟩

theorem QF.next {y : Code} (h : WC P Q n ds y fr w) : QF (Exit.then (y.wp P Q) Q) n ds .normal fr w := h
theorem QF.then_exit {N : Act → World → Prop} {id : Nat} (h : QF Q n ds (.exit id) fr w) : QF (Exit.then N Q) n ds (.exit id) fr w := h
theorem QF.then_ret {N : Act → World → Prop} (h : QF Q n ds .ret fr w) : QF (Exit.then N Q) n ds .ret fr w := h
theorem QF.block_normal {id : Nat} (h : QF Q n ds .normal fr w) : QF (Exit.inBlock id Q) n ds .normal fr w := h
theorem QF.block_ret {id : Nat} (h : QF Q n ds .ret fr w) : QF (Exit.inBlock id Q) n ds .ret fr w := h
theorem QF.block_here {id : Nat} (h : QF Q n ds .normal fr w) : QF (Exit.inBlock id Q) n ds (.exit id) fr w := fun a hr => by
  show (if id = id then Q .normal a w else Q (.exit id) a w)
  rw [if_pos rfl]; exact h a hr
theorem QF.block_other {id id' : Nat} (hne : Nat.beq id' id = false) (h : QF Q n ds (.exit id') fr w) : QF (Exit.inBlock id Q) n ds (.exit id') fr w := fun a hr => by
  show (if id' = id then Q .normal a w else Q (.exit id') a w)
  have : ¬ id' = id := by intro e; subst e; rw [Nat.beq_refl] at hne; cases hne
  rw [if_neg this]; exact h a hr

/-! ### Loops, with a ghost that goes down -/
def Again (n : Nat) (ds : List Deferred) (I : Nat → Fr → World → Prop) (k : Nat) : Act → World → Prop := fun a w => ∃ k', k' < k ∧ ∃ fr', Rep n ds fr' a ∧ I k' fr' w
theorem WC.loop {c : Code} (I : Nat → Fr → World → Prop) (k0 : Nat) (h0 : I k0 fr w) (round : ∀ k fr w, I k fr w → WC P (Exit.then (Again n ds I k) Q) n ds c fr w) : WC P Q n ds (.loop c) fr w := by
  intro a hr
  refine wp_loop_ghost (fun k a w => ∃ fr, Rep n ds fr a ∧ I k fr w) k0 ⟨fr, hr, h0⟩ ?_
  rintro k a w ⟨fr, hr, hI⟩
  exact round k fr w hI a hr
theorem QF.again {I : Nat → Fr → World → Prop} {k : Nat} {Q' : Exit → Act → World → Prop} (k' : Nat) (hk : k' < k) (fr' : Fr) (hs : picks fr fr' = vals fr') (h : I k' fr' w) : QF (Exit.then (Again n ds I k) Q') n ds .normal fr w :=
  fun _ hr => ⟨k', hk, fr', hr.sub (subF_spec hs), h⟩

/-! ### Functions -/
def argFr : Nat → List Value → Fr
  | _, [] => []
  | i, v :: r => (i, v) :: argFr (i + 1) r

theorem look_argFr : ∀ (l : List Value) (i j : Nat) (v : Value), look (argFr i l) j = some v → i ≤ j ∧ l[j - i]? = some v
  | [], i, j, v, h => by cases h
  | u :: r, i, j, v, h => by
    unfold argFr at h
    rw [look_cons] at h
    by_cases e : i = j
    · subst e; rw [if_pos rfl] at h; cases h; simp
    · rw [if_neg e] at h
      obtain ⟨h1, h2⟩ := look_argFr r (i + 1) j v h
      refine ⟨by omega, ?_⟩
      rw [show j - i = (j - (i + 1)) + 1 by omega, List.getElem?_cons_succ]
      exact h2

theorem enter {f : Nat} {fn : Func} {c : Code} {R : Ending → World → Prop} (hf : P.funcs[f]? = some fn) (hb : fn.body = some c) (hn : fn.ntmps = n) {args : List Value} (hl : Nat.ble args.length n = true)
    (h : WC P (bodyPost P fn R) n [] c (argFr 0 args) w) : Calls P f args.toArray w R := by
  have hl' : args.length ≤ n := Nat.le_of_ble_eq_true hl
  refine calls_of_wp hf hb (h _ ⟨?_, ?_, rfl⟩)
  · simp [hn]; omega
  · intro i v hi
    obtain ⟨_, h2⟩ := look_argFr args 0 i v hi
    have hlt : i < args.length := (List.getElem?_eq_some_iff.1 (by simpa using h2)).1
    simp only [Nat.sub_zero] at h2
    rw [Array.getElem?_append_left (by simpa using hlt)]
    simpa using h2

def tupleOf : List Value → Value
  | [v] => v
  | l => .tuple l.toArray

theorem results_of {fn : Func} {a : Act} (hr : Rep n ds fr a) : ∀ (ts : List Nat) (vs : List Value), ts.length ≤ 4 → fn.results = (ts.map ResultVar.tmp).toArray → ts.map (look fr) = vs.map some → (results fn a.tmps).run P w = .ok (tupleOf vs) w := by
  intro ts vs hl hres hv
  have key : ∀ (ts : List Nat) (vs : List Value), ts.map (look fr) = vs.map some → ts.map (fun t => a.tmps.getD t undef) = vs := by
    intro ts
    induction ts with
    | nil => intro vs h; cases vs with
      | nil => rfl
      | cons _ _ => cases h
    | cons t r ih => intro vs h; cases vs with
      | nil => cases h
      | cons v s =>
        simp only [List.map_cons, List.cons.injEq] at h ⊢
        refine ⟨?_, ih s h.2⟩
        have := hr.vals t v h.1
        simp [this]
  have hk := key ts vs hv
  match ts, hl, hk with
  | [], _, hk => subst hk; simp [results, hres, tupleOf]
  | [t], _, hk => subst hk; simp [results, hres, tupleOf]
  | [t, u], _, hk => subst hk; simp [results, hres, tupleOf]
  | [t, u, s], _, hk => subst hk; simp [results, hres, tupleOf]
  | [t, u, s, q], _, hk => subst hk; simp [results, hres, tupleOf]
  | _ :: _ :: _ :: _ :: _ :: _, hl, _ => simp at hl

theorem QF.ret {fn : Func} {R : Ending → World → Prop} (ts : List Nat) (vs : List Value) (hl : Nat.ble ts.length 4 = true) (hres : fn.results = (ts.map ResultVar.tmp).toArray) (hv : ts.map (look fr) = vs.map some) (h : R (.returned (tupleOf vs)) w) : QF (bodyPost P fn R) n [] .ret fr w :=
  fun _ hr => ⟨hr.dfs, _, results_of hr ts vs (Nat.le_of_ble_eq_true hl) hres hv, h⟩
theorem QF.fall {fn : Func} {R : Ending → World → Prop} (ts : List Nat) (vs : List Value) (hl : Nat.ble ts.length 4 = true) (hres : fn.results = (ts.map ResultVar.tmp).toArray) (hv : ts.map (look fr) = vs.map some) (h : R (.returned (tupleOf vs)) w) : QF (bodyPost P fn R) n [] .normal fr w :=
  fun _ hr => ⟨hr.dfs, _, results_of hr ts vs (Nat.le_of_ble_eq_true hl) hres hv, h⟩
end
end Go.Proofs.Ytcdcihmlmcnbjaa.Eng
