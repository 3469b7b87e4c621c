/-
  Chapter 10, plain: a string's literal, on both sides.
-/
import Derived.Test.YtjgjbdphjccpcaaDoorPl
import Derived.Lib.IndexLaws
namespace Go.Proofs.YtjgjbdphjccpcaaDoor.Pure
open Go Abs
set_option linter.unusedVariables false
set_option linter.unusedSimpArgs false

theorem cut_cons (s : List UInt8) (i e : Int) (h0 : 0 ≤ i) (h1 : i < e) (h2 : e ≤ (s.length : Int)) : cut s i e = toU8 (byt s i) :: cut s (i + 1) e := by
  have e1 : (i + 1).toNat = i.toNat + 1 := by omega
  unfold cut
  rw [e1, List.drop_eq_getElem_cons (l := s.take e.toNat) (i := i.toNat) (by rw [List.length_take]; omega)]
  rw [List.getElem_take]
  have hb : byt s i = ((s[i.toNat]'(by omega)).toNat : Int) := by
    unfold byt
    rw [List.getD_eq_getElem?_getD, List.getElem?_eq_getElem (by omega)]
    rfl
  rw [hb, toU8_byt]
theorem cut_nil (s : List UInt8) (i e : Int) (h : e ≤ i) : cut s i e = [] := by
  unfold cut
  rw [List.drop_eq_nil_iff, List.length_take]
  omega
theorem has_iff (l : List UInt8) (c : UInt8) : 0 ≤ Lib.indexByte l c ↔ c ∈ l := by
  constructor
  · intro h
    have := Lib.indexByte_some (l := l) (c := c) (o := (Lib.indexByte l c).toNat) (by omega)
    exact List.mem_of_getElem? this.1
  · intro h
    have hge := Lib.indexByte_ge l c
    by_cases e : Lib.indexByte l c = -1
    · obtain ⟨k, hk, he⟩ := List.getElem_of_mem h
      exact absurd (by rw [List.getElem?_eq_getElem hk, he]) (Lib.indexByte_none e k)
    · omega
def strip (l : List UInt8) : List UInt8 := l.filter (fun b => b != 13)
/-- A string's literal: its text, the error's number. -/
def textF (s : List UInt8) : List UInt8 × Int :=
  if isIn s 96 = true then (if (96 : UInt8) ∈ body s then ([], 8) else (strip (body s), 0))
  else if isIn s 34 = true then textL (body s) (body s).length 0 [] else ([], 8)
theorem toU8_ne13 (x : Int) (h : 0 ≤ x) (h' : x < 256) (c : UInt8) : (toU8 x = c) ↔ x = (c.toNat : Int) := toU8_eq h h' c
theorem raw_go (s : List UInt8) (hs : s.length ≤ 100000) (hl : 2 ≤ s.length) : ∀ (m : Nat) (i : Int) (acc : List UInt8), 1 ≤ i → i + m = (s.length : Int) - 1 → (acc.length : Int) ≤ i →
    Ev (fun k => cavilref10_Text.go k (.l1 s acc i)) (if (96 : UInt8) ∈ cut s i ((s.length : Int) - 1) then ([], 8) else (acc ++ strip (cut s i ((s.length : Int) - 1)), 0))
  | 0, i, acc, h0, hm, ha => by
    refine Ev.succ (f := fun k => cavilref10_Text.b1 k (cavilref10_Text.go k) s acc i) ?_ (fun k => rfl)
    simp only [cavilref10_Text.b1]
    rw [len1 s hs, cut_nil s i ((s.length : Int) - 1) (by omega)]
    exact Ev.ff (by simp; omega) (Ev.ret' (by simp [strip]))
  | m + 1, i, acc, h0, hm, ha => by
    refine Ev.succ (f := fun k => cavilref10_Text.b1 k (cavilref10_Text.go k) s acc i) ?_ (fun k => rfl)
    simp only [cavilref10_Text.b1]
    have hb := byt_lo s i
    have hb' := byt_hi s i
    have e1 : wr .i64 (i + 1) = i + 1 := w64 (by omega) (by omega)
    rw [len1 s hs, e1]
    have hc : cut s i ((s.length : Int) - 1) = toU8 (byt s i) :: cut s (i + 1) ((s.length : Int) - 1) := cut_cons s i _ (by omega) (by omega) (by omega)
    have hc1 : cut s i (i + 1) = [toU8 (byt s i)] := by rw [cut_cons s i _ (by omega) (by omega) (by omega), cut_nil _ _ _ (Int.le_refl _)]
    rw [hc, hc1]
    have t96 := toU8_eq hb hb' 96
    have t13 := toU8_eq hb hb' 13
    refine Ev.tt (by simp; omega) (Ev.gk (inB_iff.2 (by omega)) (Ev.bif (fun h => ?_) (fun h => Ev.gk (inB_iff.2 (by omega)) (Ev.bif (fun h' => ?_) (fun h' => ?_)))))
    · have : toU8 (byt s i) = 96 := t96.2 (by simpa using h)
      rw [this]
      exact Ev.ret' (by simp)
    · have hne : toU8 (byt s i) ≠ 96 := fun e => by have := t96.1 e; rw [this] at h; exact absurd h (by decide)
      have hn13 : toU8 (byt s i) ≠ 13 := fun e => by have := t13.1 e; rw [this] at h'; exact absurd h' (by decide)
      refine Ev.gk (cutB_iff.2 (by omega)) (Ev.gk (roomS_iff.2 (by simp; omega)) ?_)
      refine (raw_go s hs hl m (i + 1) _ (by omega) (by omega) (by simp; omega)).to ?_
      have : ((96 : UInt8) ∈ toU8 (byt s i) :: cut s (i + 1) ((s.length : Int) - 1)) ↔ (96 : UInt8) ∈ cut s (i + 1) ((s.length : Int) - 1) := by
        rw [List.mem_cons]
        exact ⟨fun h => h.resolve_left (fun e => hne e.symm), .inr⟩
      simp only [this]
      congr 1
      have e2 : strip (toU8 (byt s i) :: cut s (i + 1) ((s.length : Int) - 1)) = toU8 (byt s i) :: strip (cut s (i + 1) ((s.length : Int) - 1)) := by simp [strip, hn13]
      rw [e2, List.append_assoc]
      rfl
    · have hne : toU8 (byt s i) ≠ 96 := fun e => by have := t96.1 e; rw [this] at h; exact absurd h (by decide)
      have h13 : toU8 (byt s i) = 13 := t13.2 (by simpa using h')
      refine (raw_go s hs hl m (i + 1) _ (by omega) (by omega) (by omega)).to ?_
      have : ((96 : UInt8) ∈ toU8 (byt s i) :: cut s (i + 1) ((s.length : Int) - 1)) ↔ (96 : UInt8) ∈ cut s (i + 1) ((s.length : Int) - 1) := by
        rw [List.mem_cons]
        exact ⟨fun h => h.resolve_left (fun e => hne e.symm), .inr⟩
      simp only [this]
      congr 1
      rw [h13]
      simp [strip]
theorem refText_ev (s : List UInt8) (hs : s.length ≤ 100000) : Ev (fun k => cavilref10_Text.m k s) (textF s) := by
  refine Ev.succ (f := fun k => cavilref10_Text.b0 k (cavilref10_Text.go k) s) ?_ (fun k => rfl)
  simp only [cavilref10_Text.b0]
  unfold textF
  refine Ev.bind (between_ev s 96 hs) (Ev.bif (fun h => ?_) (fun h => Ev.bind (between_ev s 34 hs) (Ev.bif (fun h' => ?_) (fun h' => ?_))))
  · rw [if_pos h]
    obtain ⟨hl, _, _⟩ := (isIn_iff _ _).1 h
    refine (raw_go s hs hl (s.length - 2) 1 [] (by decide) (by omega) (by simp)).to ?_
    rfl
  · rw [if_neg (by rw [h]; decide), if_neg (by simpa using h')]
    exact Ev.ret
  · have h34 : isIn s 34 = true := by simpa using h'
    rw [if_neg (by rw [h]; decide), if_pos h34]
    obtain ⟨hl, _, _⟩ := (isIn_iff _ _).1 h34
    have hbl := body_len s hl
    rw [len1 s hs]
    refine Ev.gk (cutB_iff.2 (by omega)) ?_
    exact refText_go (body s) (by omega) _ 0 [] (by decide) (by omega) (by omega) (by simp)
theorem text_ev (s : List UInt8) (hs : s.length ≤ 100000) : Ev (fun k => quote_Text.m k s) ((textF s).1, erOf (textF s).2) := by
  refine Ev.succ (f := fun k => quote_Text.b0 k (quote_Text.go k) s) ?_ (fun k => rfl)
  simp only [quote_Text.b0]
  refine Ev.bind (within_ev s 96 hs) ?_
  unfold textF
  by_cases h : isIn s 96 = true
  · rw [if_pos h, if_pos h]
    obtain ⟨hl, _, _⟩ := (isIn_iff _ _).1 h
    have hbl := body_len s hl
    refine Ev.tt rfl (Ev.bif (fun h => ?_) (fun h => ?_))
    · rw [if_pos ((has_iff _ _).1 (of_decide_eq_true h))]
      exact Ev.ret
    · rw [if_neg (fun hh => of_decide_eq_false h ((has_iff _ _).2 hh))]
      have hst : (strip (body s)).length ≤ (body s).length := List.length_filter_le _ _
      rw [replaceAll_strip]
      refine Ev.gk ?_ Ev.ret
      unfold lib_replace.ok
      rw [replaceAll_strip]
      have e1 : Nat.blt (body s).length 4294967281 = true := by rw [Nat.blt_eq]; omega
      have e2 : Nat.ble ((body s).length + Lib.countB (mk (body s)) (mk [13]) * ([] : List UInt8).length) 140737488355328 = true := by
        rw [Nat.ble_eq]; simp; omega
      have e3 : Nat.blt ((body s).filter (fun b => b != 13)).length 4611686018427387904 = true := by
        rw [Nat.blt_eq]; unfold strip at hst; omega
      rw [e1, e2, e3]
      rfl
  · rw [if_neg h, if_neg h]
    refine Ev.ff rfl (Ev.bind (within_ev s 34 hs) ?_)
    by_cases h' : isIn s 34 = true
    · rw [if_pos h', if_pos h']
      obtain ⟨hl, _, _⟩ := (isIn_iff _ _).1 h'
      have hbl := body_len s hl
      refine Ev.ff rfl ?_
      exact text_go (body s) (by omega) _ 0 [] (by decide) (by omega) (by omega) (by simp)
    · rw [if_neg h', if_neg h']
      exact Ev.tt rfl Ev.ret
end Go.Proofs.YtjgjbdphjccpcaaDoor.Pure
