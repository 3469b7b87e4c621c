/-
  Chapter 10, plain: the law QuoteReads.
-/
import Derived.Test.YtjgjbdphjccpcaaDoorPm
namespace Go.Proofs.YtjgjbdphjccpcaaDoor.Pure
open Go Abs
set_option linter.unusedVariables false
set_option linter.unusedSimpArgs false

theorem code_tab (k : Nat) : (List.range 26).all (fun n => cavillaw01_Code.m (k + 40) (erOf (n : Int)) == some (n : Int)) = true := by kernel_rfl
theorem code_ev (n : Int) (h0 : 0 ≤ n) (h1 : n ≤ 25) : Ev (fun k => cavillaw01_Code.m k (erOf n)) n := by
  refine ⟨40, fun k hk => ?_⟩
  obtain ⟨j, rfl⟩ : ∃ j, k = j + 40 := ⟨k - 40, by omega⟩
  have := List.all_eq_true.1 (code_tab j) n.toNat (by simp; omega)
  rw [show ((n.toNat : Nat) : Int) = n by omega] at this
  simpa using this
theorem works_at (k : Nat) : cavillaw10_works.m (k + 300) = some true := by kernel_rfl
theorem works_ev : Ev (fun k => cavillaw10_works.m k) true := by
  refine ⟨300, fun k hk => ?_⟩
  obtain ⟨j, rfl⟩ : ∃ j, k = j + 300 := ⟨k - 300, by omega⟩
  exact works_at j
theorem esc1F_rng (s : List UInt8) (i n : Nat) (b mx : Int) (hb : 8 ≤ b) (hm : 0 ≤ mx) : 0 ≤ (esc1F s i n b mx).1 ∧ (esc1F s i n b mx).1 ≤ mx := by
  unfold esc1F
  split
  · simp; omega
  · split
    · rename_i v hv
      have h1 := num_ge s b (by omega) n i 0 v (by omega) ((numL_num s b hb n i 0 (by omega)).1 v hv)
      split
      · simp; omega
      · simp; omega
    · simp; omega
theorem runeR_rng (t : Int × Bool × Int) (h : 0 ≤ t.1 ∧ t.1 ≤ 1114111) : 0 ≤ (runeR t).1 ∧ (runeR t).1 ≤ 1114111 := by
  unfold runeR
  split
  · exact h
  · simp
theorem escF_rng (s : List UInt8) (q : Int) : 0 ≤ (escF s q).1 ∧ (escF s q).1 ≤ 1114111 := by
  have hr := simF_rng (byt s 1) q (byt_lo s 1) (byt_hi s 1)
  have a := esc1F_rng s 2 2 16 255 (by decide) (by decide)
  have b := esc1F_rng s 2 4 16 1114111 (by decide) (by decide)
  have c := esc1F_rng s 2 8 16 1114111 (by decide) (by decide)
  have d := esc1F_rng s 1 3 8 255 (by decide) (by decide)
  unfold escF
  split
  · simp
  · split
    · simp only; omega
    · split
      · omega
      · split
        · exact runeR_rng _ b
        · split
          · exact runeR_rng _ c
          · omega
theorem decF_rng (s : List UInt8) : 0 ≤ (decF s).1 ∧ (decF s).1 ≤ 1114111 ∧ ((decF s).2.2 = 0 ∨ (decF s).2.2 = 3 ∨ (decF s).2.2 = 4) := by
  have h0 := byt_lo s 0
  have h1 := byt_hi s 0
  have h2 := byt_lo s 1
  have h3 := byt_hi s 1
  unfold decF
  simp only
  split
  · simp
  · split
    · simp; omega
    · split
      · refine ⟨?_, ?_, .inl rfl⟩ <;> simp only <;> unfold v2 <;> omega
      · split
        · rename_i h; have := (vld_iff _).1 h.2.2.2.2.2.2; exact ⟨this.1, this.2.1, .inl rfl⟩
        · split
          · rename_i h; have := (vld_iff _).1 h.2.2.2.2.2.2.2; exact ⟨this.1, this.2.1, .inl rfl⟩
          · simp
theorem charF_rng (s : List UInt8) : 0 ≤ (charF s).1 ∧ (charF s).1 ≤ 1114111 ∧ 0 ≤ (charF s).2 ∧ (charF s).2 ≤ 25 := by
  have e := escF_rng (body s) 39
  have d := decF_rng (body s)
  unfold charF
  split
  · simp
  · split
    · split
      · simp
      · split
        · simp
        · simp only; omega
    · split
      · simp only; omega
      · split
        · simp
        · simp only; omega
theorem textL_rng (x : List UInt8) : ∀ (m : Nat) (p : Int) (acc : List UInt8), 0 ≤ (textL x m p acc).2 ∧ (textL x m p acc).2 ≤ 25
  | 0, p, acc => by simp [textL]
  | m + 1, p, acc => by
    unfold textL
    split
    · simp
    · split
      · simp
      · split
        · split
          · simp
          · exact textL_rng x m _ _
        · exact textL_rng x m _ _
theorem textF_rng (s : List UInt8) : 0 ≤ (textF s).2 ∧ (textF s).2 ≤ 25 := by
  unfold textF
  split
  · split <;> simp
  · split
    · exact textL_rng _ _ _ _
    · simp
/-- The head of what came in. -/
def hd (n : Nat) (s : List UInt8) : List UInt8 := cut s 0 (if (n : Int) < (s.length : Int) then (n : Int) else (s.length : Int))
theorem hd_len (n : Nat) (s : List UInt8) : (hd n s).length ≤ n := by
  have := cut_lenI s 0 (if (n : Int) < (s.length : Int) then (n : Int) else (s.length : Int)) (by decide) (by split <;> omega) (by split <;> omega)
  unfold hd
  have h2 : (if (n : Int) < (s.length : Int) then (n : Int) else (s.length : Int)) ≤ n := by split <;> omega
  omega
theorem hd_ok (n : Nat) (s : List UInt8) : cutB 0 (if (n : Int) < (s.length : Int) then (n : Int) else (s.length : Int)) s.length = true := cutB_iff.2 ⟨by decide, by split <;> omega, by split <;> omega⟩
theorem QuoteReads (l0 : List UInt8) (_ : l0.length ≤ 140737488351232) : ∃ k, cavillaw10_QuoteReads.m k l0 = some true := by
  refine Ev.get (f := fun k => cavillaw10_QuoteReads.m k l0) (Ev.succ (f := fun k => cavillaw10_QuoteReads.b0 k l0) ?_ (fun k => rfl))
  simp only [cavillaw10_QuoteReads.b0]
  have hl := hd_len 60 l0
  refine Ev.gk (hd_ok 60 l0) ?_
  refine Ev.bind (char_ev (hd 60 l0) (by omega)) (Ev.bind (refChar_ev (hd 60 l0) (by omega)) (Ev.bind (text_ev (hd 60 l0) (by omega)) (Ev.bind (refText_ev (hd 60 l0) (by omega)) ?_)))
  have hc := charF_rng (hd 60 l0)
  have ht := textF_rng (hd 60 l0)
  have e1 : wr .i64 (charF (hd 60 l0)).1 = (charF (hd 60 l0)).1 := w64 (by omega) (by omega)
  refine Ev.tt (by rw [e1]; exact beq_self_eq_true _) (Ev.bind (code_ev _ hc.2.2.1 hc.2.2.2) (Ev.tt (beq_self_eq_true _) (Ev.tt (beq_self_eq_true _) (Ev.bind (code_ev _ ht.1 ht.2) (Ev.tt (beq_self_eq_true _) (Ev.bind works_ev Ev.ret))))))
end Go.Proofs.YtjgjbdphjccpcaaDoor.Pure
