/-
  Chapter 10, plain: runes and their bytes; escapes.
-/
import Derived.Test.YtjgjbdphjccpcaaDoorPb
namespace Go.Proofs.YtjgjbdphjccpcaaDoor.Pure
open Go Abs
set_option linter.unusedVariables false

def vld (x : Int) : Bool := decide (0 ≤ x) && (decide (x ≤ 1114111) && (decide (x < 55296) || decide (x > 57343)))
theorem rune_ev (x : Int) : Ev (fun k => cavilref01_Rune.m k x) (vld x) := by
  refine Ev.succ (f := fun k => cavilref01_Rune.b0 k x) ?_ (fun k => rfl)
  simp only [cavilref01_Rune.b0, vld]
  refine Ev.bif (fun h => Ev.bif (fun h' => Ev.bif (fun h'' => Ev.ret' ?_) (fun h'' => Ev.ret' ?_)) (fun h' => Ev.ret' ?_)) (fun h => Ev.ret' ?_) <;> simp_all <;> intros <;> omega
theorem valid_ev (x : Int) : Ev (fun k => utf_valid.m k x) (vld x) := by
  refine Ev.succ (f := fun k => utf_valid.b0 k x) ?_ (fun k => rfl)
  simp only [utf_valid.b0, vld]
  refine Ev.bif (fun h => Ev.bif (fun h' => Ev.bif (fun h'' => Ev.ret' ?_) (fun h'' => Ev.ret' ?_)) (fun h' => Ev.ret' ?_)) (fun h => Ev.ret' ?_) <;> simp_all <;> intros <;> omega
theorem vld_iff (x : Int) : vld x = true ↔ 0 ≤ x ∧ x ≤ 1114111 ∧ (x < 55296 ∨ x > 57343) := by simp [vld]

/-- The bytes of a rune. -/
def enc (x : Int) : List UInt8 :=
  if x < 128 then [toU8 x]
  else if x < 2048 then [toU8 (192 + x / 64), toU8 (128 + x % 64)]
  else if x < 65536 then [toU8 (224 + x / 4096), toU8 (128 + x / 64 % 64), toU8 (128 + x % 64)]
  else [toU8 (240 + x / 262144), toU8 (128 + x / 4096 % 64), toU8 (128 + x / 64 % 64), toU8 (128 + x % 64)]
theorem quo64 {x : Int} (d : Int) (h : 0 ≤ x) (hd : 1 ≤ d) (hx : x ≤ 9223372036854775807) : quoI .i64 x d = x / d := by
  unfold quoI
  rw [Int.tdiv_eq_ediv_of_nonneg h]
  have h1 : 0 ≤ x / d := Int.ediv_nonneg h (by omega)
  have h2 : x / d ≤ x := Int.ediv_le_self d h
  exact w64 (by omega) (by omega)
theorem rem_ {x : Int} (d : Int) (h : 0 ≤ x) : remI x d = x % d := Int.tmod_eq_emod_of_nonneg h
theorem shr6 (x : Int) : shrI .i32 x 6 = x / 64 := by
  show x.fdiv 64 = x / 64
  exact Int.fdiv_eq_ediv_of_nonneg x (by decide)
theorem shr12 (x : Int) : shrI .i32 x 12 = x / 4096 := by
  show x.fdiv 4096 = x / 4096
  exact Int.fdiv_eq_ediv_of_nonneg x (by decide)
theorem shr18 (x : Int) : shrI .i32 x 18 = x / 262144 := by
  show x.fdiv 262144 = x / 262144
  exact Int.fdiv_eq_ediv_of_nonneg x (by decide)
theorem shr0 (x : Int) : shrI .i32 x 0 = x := by
  show x.fdiv 1 = x
  rw [Int.fdiv_eq_ediv_of_nonneg x (by decide)]; omega
theorem bytes_ev (x : Int) (h0 : 0 ≤ x) (h1 : x ≤ 1114111) : Ev (fun k => cavilref01_Bytes.m k x) (enc x) := by
  refine Ev.succ (f := fun k => cavilref01_Bytes.b0 k x) ?_ (fun k => rfl)
  simp only [cavilref01_Bytes.b0]
  rw [quo64 64 h0 (by decide) (by omega), quo64 4096 h0 (by decide) (by omega), quo64 262144 h0 (by decide) (by omega), rem_ 64 h0, rem_ 64 (x := x / 64) (by omega), rem_ 64 (x := x / 4096) (by omega)]
  have a1 : wr .i64 (128 + x % 64) = 128 + x % 64 := w64 (by omega) (by omega)
  have a2 : wr .i64 (128 + x / 64 % 64) = 128 + x / 64 % 64 := w64 (by omega) (by omega)
  have a3 : wr .i64 (128 + x / 4096 % 64) = 128 + x / 4096 % 64 := w64 (by omega) (by omega)
  have a4 : wr .i64 (192 + x / 64) = 192 + x / 64 := w64 (by omega) (by omega)
  have a5 : wr .i64 (224 + x / 4096) = 224 + x / 4096 := w64 (by omega) (by omega)
  have a6 : wr .i64 (240 + x / 262144) = 240 + x / 262144 := w64 (by omega) (by omega)
  have b1 : wr .u8 (128 + x % 64) = 128 + x % 64 := w8 (by omega) (by omega)
  have b2 : wr .u8 (128 + x / 64 % 64) = 128 + x / 64 % 64 := w8 (by omega) (by omega)
  have b3 : wr .u8 (128 + x / 4096 % 64) = 128 + x / 4096 % 64 := w8 (by omega) (by omega)
  rw [a1, a2, a3, a4, a5, a6, b1, b2, b3]
  unfold enc
  refine Ev.bif (fun h => ?_) (fun h => Ev.bif (fun h' => ?_) (fun h' => Ev.bif (fun h'' => ?_) (fun h'' => ?_)))
  · have g := of_decide_eq_true h
    rw [if_pos g]
    refine Ev.ret' ?_
    rw [show wr .u8 x = x from w8 (by omega) (by omega)]
  · have g := of_decide_eq_false h
    have g' := of_decide_eq_true h'
    rw [if_neg g, if_pos g']
    refine Ev.ret' ?_
    rw [show wr .u8 (192 + x / 64) = 192 + x / 64 from w8 (by omega) (by omega)]
  · have g := of_decide_eq_false h
    have g' := of_decide_eq_false h'
    have g'' := of_decide_eq_true h''
    rw [if_neg g, if_neg g', if_pos g'']
    refine Ev.ret' ?_
    rw [show wr .u8 (224 + x / 4096) = 224 + x / 4096 from w8 (by omega) (by omega)]
  · have g := of_decide_eq_false h
    have g' := of_decide_eq_false h'
    have g'' := of_decide_eq_false h''
    rw [if_neg g, if_neg g', if_neg g'']
    refine Ev.ret' ?_
    rw [show wr .u8 (240 + x / 262144) = 240 + x / 262144 from w8 (by omega) (by omega)]
theorem cont_val (y : Int) : bits .or .u8 128 (bits .and .u8 (wr .u8 y) 63) = 128 + y % 64 := by
  have e : wr .u8 y = y % 256 := IntKind.wrap_u8 y
  rw [e, u8_and63 _ (by omega) (by omega), u8_or128 _ (by omega) (by omega)]
  omega
theorem enc1_ev (sh x : Int) (l : List UInt8) (hs : 0 ≤ sh) (hl : l.length ≤ 10) : Ev (fun k => utf_Encode_1.m k sh l x) (x, l ++ [toU8 (128 + shrI .i32 x sh % 64)]) := by
  refine Ev.succ (f := fun k => utf_Encode_1.b0 k sh l x) ?_ (fun k => rfl)
  simp only [utf_Encode_1.b0]
  rw [cont_val]
  exact Ev.gk (by simp [nn, hs]) (Ev.gk (room_iff.2 (by simp; omega)) Ev.ret)
def encR (x : Int) : Er × List UInt8 := if vld x = true then (.nil, enc x) else (.no 4, [])
theorem encode_ev (x : Int) : Ev (fun k => utf_Encode.m k x) (encR x) := by
  refine Ev.succ (f := fun k => utf_Encode.b0 k x) ?_ (fun k => rfl)
  simp only [utf_Encode.b0]
  refine Ev.bind (valid_ev x) ?_
  unfold encR
  refine Ev.bif (fun h => ?_) (fun h => ?_)
  · have : vld x = false := by simpa using h
    rw [if_neg (by simp [this])]
    exact Ev.ret
  · have hv : vld x = true := by simpa using h
    rw [if_pos hv]
    obtain ⟨h0, h1, h2⟩ := (vld_iff x).1 hv
    unfold enc
    rw [shr6, shr12, shr18]
    have z6 : wr .u8 (x / 64) = x / 64 % 256 := IntKind.wrap_u8 _
    have z12 : wr .u8 (x / 4096) = x / 4096 % 256 := IntKind.wrap_u8 _
    have z18 : wr .u8 (x / 262144) = x / 262144 % 256 := IntKind.wrap_u8 _
    refine Ev.bif (fun h => ?_) (fun h => Ev.bif (fun h' => ?_) (fun h' => Ev.bif (fun h'' => ?_) (fun h'' => ?_)))
    · have g := of_decide_eq_true h
      rw [if_pos g]
      refine Ev.ret' ?_
      rw [show wr .u8 x = x from w8 (by omega) (by omega)]
    · have g := of_decide_eq_false h
      have g' := of_decide_eq_true h'
      rw [if_neg g, if_neg (by omega), if_neg (by omega), z18, u8_or240 _ (by omega) (by omega)]
      refine Ev.gk (room_iff.2 (by simp)) (Ev.bind (enc1_ev 12 x _ (by decide) (by simp)) (Ev.bind (enc1_ev 6 x _ (by decide) (by simp)) (Ev.bind (enc1_ev 0 x _ (by decide) (by simp)) (Ev.ret' ?_))))
      rw [shr12, shr6, shr0]
      have : x / 262144 % 256 = x / 262144 := by omega
      rw [this]
      rfl
    · have g := of_decide_eq_false h
      have g' := of_decide_eq_false h'
      have g'' := of_decide_eq_true h''
      rw [if_neg g, if_neg (by omega), if_pos (by omega), z12, u8_or224 _ (by omega) (by omega)]
      refine Ev.gk (room_iff.2 (by simp)) (Ev.bind (enc1_ev 6 x _ (by decide) (by simp)) (Ev.bind (enc1_ev 0 x _ (by decide) (by simp)) (Ev.ret' ?_)))
      rw [shr6, shr0]
      have : x / 4096 % 256 = x / 4096 := by omega
      rw [this]
      rfl
    · have g := of_decide_eq_false h
      have g' := of_decide_eq_false h'
      have g'' := of_decide_eq_false h''
      rw [if_neg g, if_pos (by omega), z6, u8_or192 _ (by omega) (by omega)]
      refine Ev.gk (room_iff.2 (by simp)) (Ev.bind (enc1_ev 0 x _ (by decide) (by simp)) (Ev.ret' ?_))
      rw [shr0]
      have : x / 64 % 256 = x / 64 := by omega
      rw [this]
      rfl
end Go.Proofs.YtjgjbdphjccpcaaDoor.Pure
