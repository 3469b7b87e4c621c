/-
  Chapter 10, plain: the reference's decoding.
-/
import Derived.Test.YtjgjbdphjccpcaaDoorPf
namespace Go.Proofs.YtjgjbdphjccpcaaDoor.Pure
open Go Abs
set_option linter.unusedVariables false

def accF (s : List UInt8) : Nat → Int → Int → Int
  | 0, _, v => v
  | m + 1, j, v => accF s m (j + 1) (v * 64 + byt s j % 64)
theorem accF_lo (s : List UInt8) : ∀ (m : Nat) (j v : Int), 0 ≤ v → 0 ≤ accF s m j v
  | 0, _, v, h => h
  | m + 1, j, v, h => by
    have := byt_lo s j
    exact accF_lo s m (j + 1) _ (by omega)
theorem d_l6 (s : List UInt8) (n : Nat) (hn : n ≤ 4) (hs : s.length ≤ 100000) (hl : n ≤ s.length) (r : Int × Int × Int) : ∀ (m : Nat) (j v : Int), j + m = n → 1 ≤ j → 0 ≤ v → v < 256 * 64 ^ (4 - m) →
    (vld (accF s m j v) = true ∧ enc (accF s m j v) = s.take n → r = (accF s m j v, (n : Int), 0)) →
    (¬ (vld (accF s m j v) = true ∧ enc (accF s m j v) = s.take n) → Ev (fun k => cavilref01_Decode.go k (.l1 s 0 ((n : Int) + 1))) r) →
    Ev (fun k => cavilref01_Decode.go k (.l6 s 0 n v j)) r
  | m, j, v, hj, hj1, hv, hv', h1, h2 => by
    refine Ev.succ (f := fun k => cavilref01_Decode.b6 k (cavilref01_Decode.go k) s 0 n v j) ?_ (fun k => rfl)
    simp only [cavilref01_Decode.b6]
    cases m with
    | zero =>
      have e1 : wr .i64 ((n : Int) + 1) = n + 1 := w64 (by omega) (by omega)
      have e2 : wr .i64 (0 + (n : Int)) = n := (w64 (by omega) (by omega)).trans (by omega)
      rw [e1, e2]
      simp only [accF] at h1 h2
      refine Ev.ff (by simp; omega) (Ev.bind (rune_ev v) (Ev.bif (fun h => ?_) (fun h => ?_)))
      · obtain ⟨g0, g1, _⟩ := (vld_iff v).1 h
        refine Ev.bind (bytes_ev v g0 g1) (Ev.gk (cutB_iff.2 (by omega)) ?_)
        rw [cut_n]
        refine Ev.bif (fun h' => ?_) (fun h' => ?_)
        · rw [h1 ⟨h, by simpa using h'⟩]
          exact Ev.ret
        · exact h2 (fun hh => by rw [hh.2] at h'; simp at h')
      · exact h2 (fun hh => by rw [hh.1] at h; cases h)
    | succ m =>
      have hb := byt_lo s j
      have hb' := byt_hi s j
      have hp : (64 : Int) ^ (4 - m) = 64 * 64 ^ (4 - (m + 1)) := by
        have : 4 - m = (4 - (m + 1)) + 1 := by omega
        rw [this, Int.pow_succ]; omega
      have hp2 : (64 : Int) ^ (4 - m) ≤ 64 ^ 4 := by
        have : (64 : Nat) ^ (4 - m) ≤ 64 ^ 4 := Nat.pow_le_pow_right (by decide) (by omega)
        exact_mod_cast this
      have hp3 : (64 : Int) ^ 4 = 16777216 := by decide
      have e0 : wr .i64 (0 + j) = j := (w64 (by omega) (by omega)).trans (by omega)
      rw [e0]
      refine Ev.tt (by simp; omega) (Ev.gk (inB_iff.2 (by omega)) ?_)
      show Ev (fun k => cavilref01_Decode.go k (.l6 s 0 n (wr .i64 (wr .i64 (v * 64) + remI (wr .i64 (byt s j)) 64)) (wr .i64 (j + 1)))) r
      have e1 : wr .i64 (byt s j) = byt s j := w64 (by omega) (by omega)
      have e2 : wr .i64 (v * 64) = v * 64 := w64 (by omega) (by omega)
      rw [e1, rem_ 64 hb, e2]
      have e3 : wr .i64 (v * 64 + byt s j % 64) = v * 64 + byt s j % 64 := w64 (by omega) (by omega)
      have e4 : wr .i64 (j + 1) = j + 1 := w64 (by omega) (by omega)
      rw [e3, e4]
      exact d_l6 s n hn hs hl r m (j + 1) _ (by omega) (by omega) (by omega) (by omega) h1 h2
theorem d_out (s : List UInt8) (n : Int) (hs : s.length ≤ 100000) (h0 : 0 ≤ n) (h : 4 < n ∨ (s.length : Int) < n) : Ev (fun k => cavilref01_Decode.go k (.l1 s 0 n)) (0, 0, 3) := by
  have l2 : Ev (fun k => cavilref01_Decode.go k (.l2 s 0 n false)) (0, 0, 3) := by
    refine Ev.succ (f := fun k => cavilref01_Decode.b2 k (cavilref01_Decode.go k) s 0 n false) ?_ (fun k => rfl)
    simp only [cavilref01_Decode.b2]
    exact Ev.ff rfl Ev.ret
  refine Ev.succ (f := fun k => cavilref01_Decode.b1 k (cavilref01_Decode.go k) s 0 n) ?_ (fun k => rfl)
  simp only [cavilref01_Decode.b1]
  have e1 : wr .i64 ((s.length : Int) - 0) = s.length := (w64 (by omega) (by omega)).trans (by omega)
  rw [e1]
  refine Ev.bif (fun h' => ?_) (fun h' => l2)
  have : n ≤ 4 := by simpa using h'
  rw [show decide (n ≤ (s.length : Int)) = false by simp; omega]
  exact l2
def lead (n : Nat) (a : Int) : Int := if n = 2 then a % 32 else if n = 3 then a % 16 else if n = 4 then a % 8 else a
theorem d_n (s : List UInt8) (n : Nat) (hn0 : 1 ≤ n) (hn : n ≤ 4) (hs : s.length ≤ 100000) (hl : n ≤ s.length) (r : Int × Int × Int)
    (h1 : vld (accF s (n - 1) 1 (lead n (byt s 0))) = true ∧ enc (accF s (n - 1) 1 (lead n (byt s 0))) = s.take n → r = (accF s (n - 1) 1 (lead n (byt s 0)), (n : Int), 0))
    (h2 : ¬ (vld (accF s (n - 1) 1 (lead n (byt s 0))) = true ∧ enc (accF s (n - 1) 1 (lead n (byt s 0))) = s.take n) → Ev (fun k => cavilref01_Decode.go k (.l1 s 0 ((n : Int) + 1))) r) :
    Ev (fun k => cavilref01_Decode.go k (.l1 s 0 (n : Int))) r := by
  have hb := byt_lo s 0
  have hb' := byt_hi s 0
  have hlo : 0 ≤ lead n (byt s 0) ∧ lead n (byt s 0) < 256 := by unfold lead; repeat' split
                                                                 all_goals omega
  have l6 : ∀ v, v = lead n (byt s 0) → Ev (fun k => cavilref01_Decode.go k (.l6 s 0 n v 1)) r := by
    rintro v rfl
    have hp : (1 : Int) ≤ 64 ^ (4 - (n - 1)) := Int.pow_pos (by decide)
    exact d_l6 s n hn hs hl r (n - 1) 1 _ (by omega) (by omega) hlo.1 (by omega) h1 h2
  have l5 : ∀ v, v = lead n (byt s 0) → Ev (fun k => cavilref01_Decode.go k (.l5 s 0 n v)) r := by
    intro v hv
    refine Ev.succ (f := fun k => cavilref01_Decode.b5 k (cavilref01_Decode.go k) s 0 n v) ?_ (fun k => rfl)
    simp only [cavilref01_Decode.b5]
    exact l6 v hv
  have l4 : ∀ v, (if n = 4 then v % 8 else v) = lead n (byt s 0) → 0 ≤ v → Ev (fun k => cavilref01_Decode.go k (.l4 s 0 n v)) r := by
    intro v hv h0
    refine Ev.succ (f := fun k => cavilref01_Decode.b4 k (cavilref01_Decode.go k) s 0 n v) ?_ (fun k => rfl)
    simp only [cavilref01_Decode.b4]
    refine Ev.bif (fun h => ?_) (fun h => ?_)
    · have : n = 4 := by have : (n : Int) = 4 := by simpa using h
                         omega
      rw [if_pos this] at hv
      rw [rem_ 8 h0]
      exact l5 _ hv
    · have : ¬ n = 4 := by have : ¬ (n : Int) = 4 := by simpa using h
                           omega
      rw [if_neg this] at hv
      exact l5 _ hv
  have l3 : ∀ v, (if n = 3 then v % 16 else if n = 4 then v % 8 else v) = lead n (byt s 0) → 0 ≤ v → Ev (fun k => cavilref01_Decode.go k (.l3 s 0 n v)) r := by
    intro v hv h0
    refine Ev.succ (f := fun k => cavilref01_Decode.b3 k (cavilref01_Decode.go k) s 0 n v) ?_ (fun k => rfl)
    simp only [cavilref01_Decode.b3]
    refine Ev.bif (fun h => ?_) (fun h => ?_)
    · have : n = 3 := by have : (n : Int) = 3 := by simpa using h
                         omega
      rw [if_pos this] at hv
      rw [rem_ 16 h0]
      exact l4 _ (by rw [if_neg (by omega)]; exact hv) (by omega)
    · have : ¬ n = 3 := by have : ¬ (n : Int) = 3 := by simpa using h
                           omega
      rw [if_neg this] at hv
      exact l4 _ hv h0
  have l2 : Ev (fun k => cavilref01_Decode.go k (.l2 s 0 n true)) r := by
    refine Ev.succ (f := fun k => cavilref01_Decode.b2 k (cavilref01_Decode.go k) s 0 n true) ?_ (fun k => rfl)
    simp only [cavilref01_Decode.b2]
    refine Ev.tt rfl (Ev.gk (inB_iff.2 (by omega)) ?_)
    have e1 : wr .i64 (byt s 0) = byt s 0 := w64 (by omega) (by omega)
    show Ev (fun k => bif ((n : Int) == 2) then cavilref01_Decode.go k (.l3 s 0 n (remI (wr .i64 (byt s 0)) 32)) else cavilref01_Decode.go k (.l3 s 0 n (wr .i64 (byt s 0)))) r
    rw [e1]
    refine Ev.bif (fun h => ?_) (fun h => ?_)
    · have : n = 2 := by have : (n : Int) = 2 := by simpa using h
                         omega
      rw [rem_ 32 hb]
      exact l3 _ (by unfold lead; rw [if_neg (by omega), if_neg (by omega), if_pos this]) (by omega)
    · have : ¬ n = 2 := by have : ¬ (n : Int) = 2 := by simpa using h
                           omega
      exact l3 _ (by unfold lead; rw [if_neg this]) hb
  refine Ev.succ (f := fun k => cavilref01_Decode.b1 k (cavilref01_Decode.go k) s 0 n) ?_ (fun k => rfl)
  simp only [cavilref01_Decode.b1]
  have e1 : wr .i64 ((s.length : Int) - 0) = s.length := (w64 (by omega) (by omega)).trans (by omega)
  rw [e1]
  refine Ev.tt (by simp; omega) ?_
  rw [show decide ((n : Int) ≤ (s.length : Int)) = true by simp; omega]
  exact l2
end Go.Proofs.YtjgjbdphjccpcaaDoor.Pure
