/-
  Regions: the evaluator, and what it has shown when it is through: a trace.
-/
import Derived.Test.YtaakccdfgejgpaaGreatDoorAbsO
namespace Go.Proofs.YtaakccdfgejgpaaGreatDoor.Abs
open Go
set_option linter.unusedVariables false

/-! ### Contracts of functions -/
def appl : Heap → List (Nat × Blk) → Heap
  | H, [] => H
  | H, (b, x) :: r => appl (hset H b x) r
/-- A function's contract: by fuel, arguments, memory and the next number it goes on with what the call gives: a value, blocks that are other now, new blocks, and the blocks that were looked at. -/
structure Ct where
  f : Nat
  run : {R : Type} → Nat → List AVal → Heap → Nat → (AVal → List (Nat × Blk) → List Blk → List Nat → Option R) → Option R
def findC : List Ct → Nat → Option Ct
  | [], _ => none
  | c :: r, f => match Nat.beq c.f f with
    | true => some c
    | false => findC r f
structure Env where
  C : Cfg
  X : List Ct
  k : Nat

/-- Room is kept for so many blocks. -/
def Free (σ : List Pl) (H : Heap) (n k : Nat) : Prop := n + k ≤ H.length ∧ ∀ j, j < k → hget H (n + j) = .dead ∧ ∃ p, σ[n + j]? = some p ∧ p.gen = 0
/-- What is dead stays as it is, but where room was kept. -/
def LeF (H : Heap) (n k : Nat) (σ σ' : List Pl) : Prop := Le σ σ' ∧ σ'.length = σ.length ∧ ∀ b, hget H b = .dead → ¬ (n ≤ b ∧ b < n + k) → σ'[b]? = σ[b]?

def entersB (P : Program) (f : Nat) : Bool := match P.funcs[f]? with
  | some fn => fn.name != "runtime.NumGoroutine" && fn.body.isSome
  | none => false

/-- A call gives a value: it enters the function's code, or the model itself answers. -/
def Gives (P : Program) (f : Nat) (args : Array Value) (w : World) (R : Value → World → Prop) : Prop :=
  (entersB P f = true ∧ Calls P f args w fun e w' => ∃ c, e = .returned c ∧ R c w') ∨ (entersB P f = false ∧ ∃ c, (callFunc f args).run P w = .ok (.value c) w ∧ R c w)
/-- What a call does. -/
structure CallOk (P : Program) (C : Cfg) (f : Nat) (args : List AVal) (H : Heap) (n : Nat) (v : AVal) (bs : List (Nat × Blk)) (ns : List Blk) (D : List Nat) : Prop where
  live : ∀ b ∈ D, (hget H b).live = true
  upd : ∀ x ∈ bs, x.1 ∈ D
  calls : ∀ (F G : Nat → Prop) (w0 : World) (σ : List Pl) (Hc : Heap) (w : World) (cs : List Value), (∀ b ∈ D, hget Hc b = hget H b) → Free σ Hc n ns.length → HR C F G w0 σ Hc w → VLs C σ args cs →
    Gives P f cs.toArray w fun c w' => ∃ σ', LeF Hc n ns.length σ σ' ∧ HR C F G w0 σ' (hsets (appl Hc bs) n ns) w' ∧ VR C σ' v c
/-- A contract that holds. -/
def Snd (P : Program) (C : Cfg) (k : Nat) (ct : Ct) : Prop := ∀ (R : Type) (args : List AVal) (H : Heap) (n : Nat) (K : AVal → List (Nat × Blk) → List Blk → List Nat → Option R) (r : R), ct.run k args H n K = some r →
  ∃ v bs ns D, K v bs ns D = some r ∧ CallOk P C ct.f args H n v bs ns D

/-! ### Operations -/
def opAt : List Oper → Nat → Option Oper
  | [], _ => none
  | o :: _, 0 => some o
  | _ :: r, i + 1 => opAt r i
def putA (n : Nat) (dst : Option Tmp) (v : AVal) (fr : Fr) : Option Fr := match dst with
  | none => some fr
  | some d => match Nat.blt d n with
    | true => some ((d, v) :: fr)
    | false => none
def guardB (b want : Bool) : Bool := match b, want with
  | true, true => true
  | false, false => true
  | _, _ => false
def sel {α : Type} (want b : Bool) (x y : α) : α := match want with
  | true => cond b x y
  | false => cond b y x
def topsO (fr : Fr) : List Operand → List Nat
  | [] => []
  | x :: r => match ev fr x with
    | some v => v.top ++ topsO fr r
    | none => topsO fr r
/-- Marks: what a block holds; a block's shape. -/
def cTag : List Nat → List Nat
  | [] => []
  | b :: r => Nat.mul 2 b :: cTag r
def sTag : List Nat → List Nat
  | [] => []
  | b :: r => Nat.add (Nat.mul 2 b) 1 :: sTag r
def lookT (fr : Fr) (op : Op) : List Nat := match lookB op with
  | 0 => []
  | 1 => sTag (topsO fr (opnds op))
  | _ => cTag (topsO fr (opnds op))
def touchU (op : Op) (b : Nat) : List Nat := match isStore op with
  | true => cTag [b]
  | false => cTag [b] ++ sTag [b]
def touchA (l : List Nat) : List Nat := cTag l ++ sTag l
theorem mem_cTag {b : Nat} : ∀ {l : List Nat}, 2 * b ∈ cTag l ↔ b ∈ l
  | [] => by simp [cTag]
  | x :: r => by
    have : (2 * b = Nat.mul 2 x) ↔ b = x := by
      show 2 * b = 2 * x ↔ _
      omega
    simp only [cTag, List.mem_cons, mem_cTag (l := r), this]
theorem mem_sTag {b : Nat} : ∀ {l : List Nat}, 2 * b + 1 ∈ sTag l ↔ b ∈ l
  | [] => by simp [sTag]
  | x :: r => by
    have : (2 * b + 1 = Nat.add (Nat.mul 2 x) 1) ↔ b = x := by
      show 2 * b + 1 = 2 * x + 1 ↔ _
      omega
    simp only [sTag, List.mem_cons, mem_sTag (l := r), this]
theorem not_cTag {b : Nat} : ∀ {l : List Nat}, ¬ 2 * b + 1 ∈ cTag l
  | [], h => by cases h
  | x :: r, h => by
    rcases List.mem_cons.1 h with h | h
    · have : 2 * b + 1 = 2 * x := h
      omega
    · exact not_cTag h
theorem not_sTag {b : Nat} : ∀ {l : List Nat}, ¬ 2 * b ∈ sTag l
  | [], h => by cases h
  | x :: r, h => by
    rcases List.mem_cons.1 h with h | h
    · have : 2 * b = 2 * x + 1 := h
      omega
    · exact not_sTag h
theorem mem_touchA {b : Nat} {l : List Nat} : (2 * b ∈ touchA l ↔ b ∈ l) ∧ (2 * b + 1 ∈ touchA l ↔ b ∈ l) := by
  unfold touchA
  constructor
  · rw [List.mem_append, mem_cTag]; exact ⟨fun h => h.resolve_right not_sTag, .inl⟩
  · rw [List.mem_append, mem_sTag]; exact ⟨fun h => h.resolve_left not_cTag, .inr⟩
theorem mem_touchU {op : Op} {b i : Nat} : (2 * i ∈ touchU op b ↔ i = b) ∧ (2 * i + 1 ∈ touchU op b → i = b) ∧ (isStore op = false → i = b → 2 * i + 1 ∈ touchU op b) := by
  have h := mem_touchA (b := i) (l := [b])
  unfold touchU
  cases hs : isStore op with
  | true =>
    refine ⟨by rw [mem_cTag]; simp, fun h => (not_cTag h).elim, fun h => by cases h⟩
  | false =>
    refine ⟨by rw [show cTag [b] ++ sTag [b] = touchA [b] from rfl, h.1]; simp, fun hh => ?_, fun _ e => ?_⟩
    · rw [show cTag [b] ++ sTag [b] = touchA [b] from rfl, h.2] at hh; simpa using hh
    · show 2 * i + 1 ∈ touchA [b]
      rw [h.2]; simp [e]
def range : Nat → Nat → List Nat
  | _, 0 => []
  | n, k + 1 => n :: range (n + 1) k
def fsts : List (Nat × Blk) → List Nat
  | [] => []
  | (b, _) :: r => b :: fsts r
def allLt (n : Nat) : List Nat → Bool
  | [] => true
  | i :: r => Nat.blt i n && allLt n r

section eval
variable {R : Type}
def putK (n : Nat) (dst : Option Tmp) (v : AVal) (K : Fr → Option R) (fr : Fr) : Option R := match putA n dst v fr with
  | some fr' => K fr'
  | none => none
def pureOp (E : Env) (n : Nat) (o : Oper) (K : List Nat → List Nat → Fr → Heap → Option R) (fr : Fr) (H : Heap) : Option R :=
  match aop E.C fr H o.op with
  | .bad => none
  | .val g v => gk g (putK n o.dst v (fun fr' => K (lookT fr o.op) [] fr' H) fr)
  | .red g _ v => gk g (putK n o.dst v (fun fr' => K (lookT fr o.op) [] fr' H) fr)
  | .upd g b blk v => gk g (putK n o.dst v (fun fr' => K (lookT fr o.op) (touchU o.op b) fr' (hset H b blk)) fr)
  | .new g p blk => match allLt H.length blk.ids with
    | true => gk g (putK n o.dst (nv p H.length) (fun fr' => K (lookT fr o.op) (touchA [H.length]) fr' (H ++ [blk])) fr)
    | false => none
def callOp (E : Env) (n : Nat) (o : Oper) (K : List Nat → List Nat → Fr → Heap → Option R) (fr : Fr) (H : Heap) (x : Operand) (as : Array Operand) : Option R :=
  match ev fr x, evL fr as.toList with
  | some (.fn f first caps), some us => match findC E.X f, first.isList, caps.isList with
    | some ct, true, true => ct.run E.k (first.toList ++ us ++ caps.toList) H H.length fun v bs ns D => putK n o.dst v (fun fr' => K (cTag D) (touchA (fsts bs ++ range H.length ns.length)) fr' (appl H bs ++ ns)) fr
    | _, _, _ => none
  | _, _ => none
def oneOp (E : Env) (n : Nat) (o : Oper) (K : List Nat → List Nat → Fr → Heap → Option R) (fr : Fr) (H : Heap) : Option R :=
  match o.op with
  | .call { callee := .value x, args := as, argTypes := _ } => callOp E n o K fr H x as
  | _ => pureOp E n o K fr H
def stepG (ops : List Oper) (o : Oper) (yes no : Fr → Option R) (fr : Fr) : Option R := match o.guard with
  | none => yes fr
  | some (j, want) => match opAt ops j with
    | none => none
    | some oj => match oj.dst with
      | none => none
      | some d => match look fr d with
        | some (.bool b) => sel want b (yes ((d, .bool want) :: fr)) (no ((d, .bool (!want)) :: fr))
        | some .undef => no fr
        | _ => none
abbrev Log := List (Nat × List Nat × List Nat)
def exOps (E : Env) (n : Nat) (ops : List Oper) (K : Log → Fr → Heap → Option R) : List Oper → Nat → Log → Fr → Heap → Option R
  | [], _, L, fr, H => K L fr H
  | o :: r, i, L, fr, H => stepG ops o
    (fun fr => oneOp E n o (fun D T fr' H' => exOps E n ops K r (i + 1) ((i, D, T) :: L) fr' H') fr H)
    (fun fr => putK n o.dst .undef (fun fr' => exOps E n ops K r (i + 1) L fr' H) fr) fr

/-! ### Regions that draw their order -/
/-- The operations that must stand ahead. -/
def dpre (o : Oper) : List Nat := (o.after.toList.filter (fun e => Region.binds .any e)).map (·.on)
def mor (acc : List Nat) : List Nat → Nat → Nat
  | [], m => m
  | e :: r, m => mor acc r (m ||| (1 <<< e) ||| acc.getD e 0)
/-- Which operations stand ahead, directly or through others. -/
def mgo : List Oper → List Nat → List Nat
  | [], acc => acc
  | o :: r, acc => mgo r (acc ++ [mor acc (dpre o) 0])
def gslot (ops : List Oper) (o : Oper) : List Nat := match o.guard with
  | none => []
  | some (j, _) => match opAt ops j with
    | none => []
    | some oj => match oj.dst with
      | none => []
      | some d => [d]
def tmps : List Operand → List Nat
  | [] => []
  | .tmp t :: r => t :: tmps r
  | _ :: r => tmps r
def slots (ops : List Oper) (o : Oper) : List Nat := gslot ops o ++ tmps (opnds o.op)
def dsts : List Oper → Nat → List (Nat × Nat)
  | [], _ => []
  | o :: r, i => match o.dst with
    | some d => (i, d) :: dsts r (i + 1)
    | none => dsts r (i + 1)
def ordB (M : List Nat) (i j : Nat) : Bool := Nat.beq i j || ((Nat.blt j i && (M.getD i 0).testBit j) || (Nat.blt i j && (M.getD j 0).testBit i))
def infoOk (M : List Nat) (dl : List (Nat × Nat)) (n : Nat) (ops : List Oper) : List Oper → Nat → Bool
  | [], _ => true
  | o :: r, i => ((dpre o).all (fun e => Nat.blt e i) && ((match o.dst with | some d => Nat.blt d n | none => true) && (slots ops o).all (fun s => dl.all fun p => !(Nat.beq p.2 s) || ordB M i p.1))) && infoOk M dl n ops r (i + 1)
def natIn (x : Nat) (l : List Nat) : Bool := l.any (Nat.beq x)
def nodupB : List (Nat × Nat) → Bool
  | [] => true
  | p :: r => r.all (fun q => !(Nat.beq p.2 q.2)) && nodupB r
def okStat (n : Nat) (ops : List Oper) (M : List Nat) : Bool := infoOk M (dsts ops 0) n ops ops 0 && nodupB (dsts ops 0)
def apartL (l m : List Nat) : Bool := l.all fun x => !(natIn x m)
def okLog (M : List Nat) (L : Log) : Bool := L.all fun p => L.all fun q => apartL q.2.2 (p.2.1 ++ p.2.2) || ordB M p.1 q.1

def exReg (E : Env) (n : Nat) (ops : List Oper) (draw : Bool) (K : Fr → Heap → Option R) (fr : Fr) (H : Heap) : Option R := match draw with
  | false => exOps E n ops (fun _ fr' H' => K fr' H') ops 0 [] fr H
  | true => match okStat n ops (mgo ops []) with
    | true => exOps E n ops (fun L fr' H' => match okLog (mgo ops []) L with
      | true => K fr' H'
      | false => none) ops 0 [] fr H
    | false => none
end eval

/-! ### What an evaluation has shown -/
/-- An operation as it was done. -/
inductive Did (P : Program) (E : Env) (n : Nat) (fr : Fr) (H : Heap) (o : Oper) : List Nat → List Nat → AVal → Heap → Prop
  | val {v : AVal} : aop E.C fr H o.op = .val true v → Did P E n fr H o (lookT fr o.op) [] v H
  | red {b : Nat} {v : AVal} : aop E.C fr H o.op = .red true b v → Did P E n fr H o (lookT fr o.op) [] v H
  | upd {b : Nat} {blk : Blk} {v : AVal} : aop E.C fr H o.op = .upd true b blk v → Did P E n fr H o (lookT fr o.op) (touchU o.op b) v (hset H b blk)
  | new {p : Bool} {blk : Blk} : aop E.C fr H o.op = .new true p blk → (∀ i ∈ blk.ids, i < H.length) → Did P E n fr H o (lookT fr o.op) (touchA [H.length]) (nv p H.length) (H ++ [blk])
  | call {x : Operand} {as : Array Operand} {ts : Array Nat} {f : Nat} {first caps : AVal} {us : List AVal} {v : AVal} {bs : List (Nat × Blk)} {ns : List Blk} {D : List Nat} :
      o.op = .call { callee := .value x, args := as, argTypes := ts } → ev fr x = some (.fn f first caps) → evL fr as.toList = some us → first.isList = true → caps.isList = true →
      CallOk P E.C f (first.toList ++ us ++ caps.toList) H H.length v bs ns D → Did P E n fr H o (cTag D) (touchA (fsts bs ++ range H.length ns.length)) v (appl H bs ++ ns)

def gdV (ops : List Oper) (fr : Fr) (o : Oper) : Option Bool := match o.guard with
  | none => some true
  | some (j, want) => match opAt ops j with
    | none => none
    | some oj => match oj.dst with
      | none => none
      | some d => match look fr d with
        | some (.bool b) => some (guardB b want)
        | some .undef => some false
        | _ => none
def Sub (fr fr' : Fr) : Prop := ∀ i v, look fr i = some v → look fr' i = some v
structure Trc where
  F : Nat → Fr
  H : Nat → Heap
  W : Nat → Bool
  V : Nat → AVal
  D : Nat → List Nat
  T : Nat → List Nat
def Trc.at_ (t : Trc) (P : Program) (E : Env) (n : Nat) (ops : List Oper) (i : Nat) (o : Oper) : Prop :=
  gdV ops (t.F i) o = some (t.W i) ∧ (t.W i = true → Did P E n (t.F i) (t.H i) o (t.D i) (t.T i) (t.V i) (t.H (i + 1))) ∧ (t.W i = false → t.V i = .undef ∧ t.D i = [] ∧ t.T i = [] ∧ t.H (i + 1) = t.H i) ∧
    ∃ fr', putA n o.dst (t.V i) (t.F i) = some fr' ∧ Sub (t.F (i + 1)) fr'

theorem Sub.refl (fr : Fr) : Sub fr fr := fun _ _ h => h
theorem Sub.trans {a b c : Fr} (h : Sub a b) (k : Sub b c) : Sub a c := fun i v hi => k i v (h i v hi)
theorem Sub.lit {fr : Fr} {d : Nat} {b : Bool} (h : look fr d = some (.bool b)) : Sub ((d, .bool b) :: fr) fr := by
  intro i v hi
  rw [look_cons] at hi
  split at hi
  · rename_i e; subst e; cases hi; exact h
  · exact hi
theorem allLt_spec {n : Nat} : ∀ {l : List Nat}, allLt n l = true → ∀ i ∈ l, i < n
  | j :: r, h, i, hi => by
    simp only [allLt, Bool.and_eq_true, Nat.blt_eq] at h
    rcases List.mem_cons.1 hi with rfl | hi
    · exact h.1
    · exact allLt_spec h.2 i hi

section
variable {P : Program} {E : Env} {n : Nat} {ops : List Oper} {R : Type} {r : R}

theorem gk_spec {g : Bool} {x : Option R} (h : gk g x = some r) : g = true ∧ x = some r := by cases g with
  | false => cases h
  | true => exact ⟨rfl, h⟩
theorem putK_spec {dst : Option Tmp} {v : AVal} {K : Fr → Option R} {fr : Fr} (h : putK n dst v K fr = some r) : ∃ fr', putA n dst v fr = some fr' ∧ K fr' = some r := by
  unfold putK at h
  split at h
  · rename_i fr' hf; exact ⟨fr', hf, h⟩
  · cases h

theorem oneOp_did (hX : ∀ ct ∈ E.X, Snd P E.C E.k ct) {o : Oper} {K : List Nat → List Nat → Fr → Heap → Option R} {fr : Fr} {H : Heap} (h : oneOp E n o K fr H = some r) :
    ∃ D T v fr' H', Did P E n fr H o D T v H' ∧ putA n o.dst v fr = some fr' ∧ K D T fr' H' = some r := by
  have hpure : pureOp E n o K fr H = some r → ∃ D T v fr' H', Did P E n fr H o D T v H' ∧ putA n o.dst v fr = some fr' ∧ K D T fr' H' = some r := by
    intro h
    unfold pureOp at h
    split at h
    · cases h
    · rename_i g v ha
      obtain ⟨rfl, h⟩ := gk_spec h
      obtain ⟨fr', h1, h2⟩ := putK_spec h
      exact ⟨_, _, v, fr', H, .val ha, h1, h2⟩
    · rename_i g b v ha
      obtain ⟨rfl, h⟩ := gk_spec h
      obtain ⟨fr', h1, h2⟩ := putK_spec h
      exact ⟨_, _, v, fr', H, .red ha, h1, h2⟩
    · rename_i g b blk v ha
      obtain ⟨rfl, h⟩ := gk_spec h
      obtain ⟨fr', h1, h2⟩ := putK_spec h
      exact ⟨_, _, v, fr', _, .upd ha, h1, h2⟩
    · rename_i g p blk ha
      split at h
      · rename_i hl
        obtain ⟨rfl, h⟩ := gk_spec h
        obtain ⟨fr', h1, h2⟩ := putK_spec h
        exact ⟨_, _, _, fr', _, .new ha (allLt_spec hl), h1, h2⟩
      · cases h
  unfold oneOp at h
  split at h
  · rename_i x as ts ho
    unfold callOp at h
    split at h
    · rename_i f first caps us hx hu
      split at h
      · rename_i ct hf h1 h2
        have hmem : ∀ {l : List Ct}, findC l f = some ct → ct ∈ l ∧ ct.f = f := by
          intro l
          induction l with
          | nil => intro h; cases h
          | cons c s ih =>
            intro h
            unfold findC at h
            split at h
            · rename_i hb; cases h; exact ⟨List.mem_cons_self, Nat.eq_of_beq_eq_true hb⟩
            · exact ⟨List.mem_cons_of_mem _ (ih h).1, (ih h).2⟩
        obtain ⟨hm, hff⟩ := hmem hf
        obtain ⟨v, bs, ns, D, hk, hc⟩ := hX ct hm R _ _ _ _ _ h
        rw [hff] at hc
        obtain ⟨fr', k1, k2⟩ := putK_spec hk
        exact ⟨_, _, v, fr', _, .call ho hx hu h1 h2 hc, k1, k2⟩
      · cases h
    · cases h
  · exact hpure h

theorem opAt_eq : ∀ (l : List Oper) (i : Nat), opAt l i = l[i]?
  | [], _ => rfl
  | _ :: _, 0 => rfl
  | _ :: r, i + 1 => by simpa [opAt] using opAt_eq r i

theorem stepG_spec {o : Oper} {yes no : Fr → Option R} {fr : Fr} (h : stepG ops o yes no fr = some r) : ∃ fr', Sub fr' fr ∧ ((gdV ops fr' o = some true ∧ yes fr' = some r) ∨ (gdV ops fr' o = some false ∧ no fr' = some r)) := by
  unfold stepG at h
  split at h
  · rename_i hg
    exact ⟨fr, .refl fr, .inl ⟨by unfold gdV; rw [hg], h⟩⟩
  · rename_i j want hg
    split at h
    · cases h
    · rename_i oj hj
      split at h
      · cases h
      · rename_i d hd
        split at h
        · rename_i b hl
          have hlook : ∀ c : Bool, look ((d, .bool c) :: fr) d = some (.bool c) := fun c => by rw [look_cons, if_pos rfl]
          have gv : ∀ c : Bool, gdV ops ((d, .bool c) :: fr) o = some (guardB c want) := fun c => by
            unfold gdV
            rw [hg]
            simp only [hj, hd, hlook]
          cases b <;> cases want <;> simp only [sel, cond] at h
          · exact ⟨_, .lit hl, .inl ⟨gv _, h⟩⟩
          · exact ⟨_, .lit hl, .inr ⟨gv _, h⟩⟩
          · exact ⟨_, .lit hl, .inr ⟨gv _, h⟩⟩
          · exact ⟨_, .lit hl, .inl ⟨gv _, h⟩⟩
        · rename_i hl
          exact ⟨fr, .refl fr, .inr ⟨by unfold gdV; rw [hg]; simp only [hj, hd, hl], h⟩⟩
        · cases h

def Trc.set (t : Trc) (i : Nat) (fr : Fr) (H : Heap) (w : Bool) (v : AVal) (D T : List Nat) : Trc :=
  ⟨fun j => if j = i then fr else t.F j, fun j => if j = i then H else t.H j, fun j => if j = i then w else t.W j, fun j => if j = i then v else t.V j, fun j => if j = i then D else t.D j, fun j => if j = i then T else t.T j⟩

theorem exOps_trc (hX : ∀ ct ∈ E.X, Snd P E.C E.k ct) {K : Log → Fr → Heap → Option R} : ∀ (l : List Oper) (i : Nat) (L : Log) (fr : Fr) (H : Heap), ops.drop i = l → exOps E n ops K l i L fr H = some r →
    ∃ (t : Trc) (L' : Log), Sub (t.F i) fr ∧ t.H i = H ∧ (∀ j o, i ≤ j → ops[j]? = some o → t.at_ P E n ops j o) ∧ (∀ x ∈ L, x ∈ L') ∧ (∀ j, i ≤ j → j < i + l.length → t.W j = true → (j, t.D j, t.T j) ∈ L') ∧ K L' (t.F (i + l.length)) (t.H (i + l.length)) = some r
  | [], i, L, fr, H, hd, h => by
    refine ⟨⟨fun _ => fr, fun _ => H, fun _ => false, fun _ => .undef, fun _ => [], fun _ => []⟩, L, .refl fr, rfl, fun j o hj ho => ?_, fun _ h => h, fun j h1 h2 => ?_, h⟩
    · have := List.drop_eq_nil_iff.1 hd
      have := (List.getElem?_eq_some_iff.1 ho).1
      omega
    · simp at h2; omega
  | o :: l, i, L, fr, H, hd, h => by
    have hlt : i < ops.length := by
      refine Nat.lt_of_not_le fun hge => ?_
      rw [List.drop_eq_nil_of_le hge] at hd; cases hd
    have hoi : ops[i]? = some o := by
      rw [List.drop_eq_getElem_cons hlt] at hd
      cases hd
      exact List.getElem?_eq_getElem hlt
    have hdl : ops.drop (i + 1) = l := by
      rw [List.drop_eq_getElem_cons hlt] at hd
      cases hd; rfl
    unfold exOps at h
    obtain ⟨fr1, hs, hcase⟩ := stepG_spec h
    have fin : ∀ (w : Bool) (v : AVal) (D T : List Nat) (fr2 : Fr) (H2 : Heap) (L2 : Log), exOps E n ops K l (i + 1) L2 fr2 H2 = some r → gdV ops fr1 o = some w → (w = true → Did P E n fr1 H o D T v H2) → (w = false → v = .undef ∧ D = [] ∧ T = [] ∧ H2 = H) →
        putA n o.dst v fr1 = some fr2 → (∀ x ∈ L, x ∈ L2) → (w = true → (i, D, T) ∈ L2) →
        ∃ (t : Trc) (L' : Log), Sub (t.F i) fr ∧ t.H i = H ∧ (∀ j o, i ≤ j → ops[j]? = some o → t.at_ P E n ops j o) ∧ (∀ x ∈ L, x ∈ L') ∧ (∀ j, i ≤ j → j < i + (o :: l).length → t.W j = true → (j, t.D j, t.T j) ∈ L') ∧ K L' (t.F (i + (o :: l).length)) (t.H (i + (o :: l).length)) = some r := by
      intro w v D T fr2 H2 L2 hx hg h1 h2 hp hL hL2
      obtain ⟨t, L', k1, k2, k3, k4, k5, k6⟩ := exOps_trc hX l (i + 1) L2 fr2 H2 hdl hx
      have hne : ∀ j, i + 1 ≤ j → ¬ j = i := fun j hj => by omega
      have hself : (t.set i fr1 H w v D T).at_ P E n ops i o := by
        refine ⟨?_, ?_, ?_, fr2, ?_, ?_⟩
        · simp only [Trc.set, if_pos]; exact hg
        · simp only [Trc.set, if_pos, if_neg (hne _ (Nat.le_refl _)), k2]; exact h1
        · simp only [Trc.set, if_pos, if_neg (hne _ (Nat.le_refl _)), k2]; exact h2
        · simp only [Trc.set, if_pos]; exact hp
        · simp only [Trc.set, if_neg (hne _ (Nat.le_refl _))]; exact k1
      refine ⟨t.set i fr1 H w v D T, L', ?_, ?_, ?_, fun x hx => k4 x (hL x hx), ?_, ?_⟩
      · simp only [Trc.set, if_pos]; exact hs
      · simp only [Trc.set, if_pos]
      · intro j oj hj hoj
        by_cases e : j = i
        · subst e
          rw [hoi] at hoj; cases hoj
          exact hself
        · have hj' : i + 1 ≤ j := by omega
          have := k3 j oj hj' hoj
          unfold Trc.at_ at this ⊢
          simp only [Trc.set, if_neg (hne _ hj'), if_neg (hne (j + 1) (by omega))]
          exact this
      · intro j hj hj2 hw
        by_cases e : j = i
        · subst e
          simp only [Trc.set, if_pos] at hw ⊢
          exact k4 _ (hL2 hw)
        · have hj' : i + 1 ≤ j := by omega
          simp only [Trc.set, if_neg (hne _ hj')] at hw ⊢
          exact k5 j hj' (by simp only [List.length_cons] at hj2; omega) hw
      · simp only [List.length_cons]
        have e : i + (l.length + 1) = i + 1 + l.length := by omega
        rw [e]
        simp only [Trc.set, if_neg (hne (i + 1 + l.length) (by omega))]
        exact k6
    rcases hcase with ⟨hg, hy⟩ | ⟨hg, hn⟩
    · obtain ⟨D, T, v, fr2, H2, hdid, hp, hk⟩ := oneOp_did hX hy
      exact fin true v D T fr2 H2 _ hk hg (fun _ => hdid) (fun h => by cases h) hp (fun x hx => List.mem_cons_of_mem _ hx) (fun _ => List.mem_cons_self)
    · obtain ⟨fr2, hp, hk⟩ := putK_spec hn
      exact fin false .undef [] [] fr2 H L hk hg (fun h => by cases h) (fun _ => ⟨rfl, rfl, rfl, rfl⟩) hp (fun x hx => hx) (fun h => by cases h)
end
end Go.Proofs.YtaakccdfgejgpaaGreatDoor.Abs
