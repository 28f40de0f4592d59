/-
  HxU03j: the text of numbers, the program's.
-/
import Derived.Test.YtbdnghmmiobdcaaDoorHxU03i
namespace Hx
open Go
set_option linter.unusedSimpArgs false
set_option maxHeartbeats 1000000
variable {E : Env}
attribute [-simp] List.getD_eq_getElem?_getD getElem?_pos
def textOf : List Int → Option (List UInt8)
  | [] => some []
  | n :: r => match isSign n with
    | false => none
    | true => match textOf r with
      | none => none
      | some t => some (utf8 n ++ t)
def TextFar (l : List Int) (i : Nat) (acc : List UInt8) : Prop := i ≤ l.length ∧ acc.length ≤ 4 * i ∧ textOf l = (textOf (l.drop i)).map (acc ++ ·)
theorem textFar_0 (l : List Int) : TextFar l 0 [] := ⟨Nat.zero_le _, Nat.le_refl _, by simp⟩
theorem drop_cons {α : Type} {l : List α} {i : Nat} {x : α} (h : l[i]? = some x) : l.drop i = x :: l.drop (i + 1) := by
  have hi : i < l.length := by
    rcases Nat.lt_or_ge i l.length with h' | h'
    · exact h'
    · rw [List.getElem?_eq_none h'] at h; cases h
  rw [List.drop_eq_getElem_cons hi]
  rw [List.getElem?_eq_getElem hi] at h
  cases h; rfl
theorem utf8_len4 (n : Int) : (utf8 n).length ≤ 4 := by
  unfold utf8; split <;> (try split) <;> (try split) <;> simp
theorem textFar_next {l : List Int} {i : Nat} {acc : List UInt8} {n : Int} (h : TextFar l i acc) (hi : l[i]? = some n) (hs : isSign n = true) : TextFar l (i + 1) (acc ++ utf8 n) := by
  obtain ⟨h1, h2, h3⟩ := h
  have hl : i < l.length := by
    rcases Nat.lt_or_ge i l.length with h' | h'
    · exact h'
    · rw [List.getElem?_eq_none h'] at hi; cases hi
  refine ⟨hl, by rw [List.length_append]; have := utf8_len4 n; omega, ?_⟩
  rw [h3, drop_cons hi, textOf, hs]
  cases textOf (l.drop (i + 1)) <;> simp
theorem textFar_bad {l : List Int} {i : Nat} {acc : List UInt8} {n : Int} (h : TextFar l i acc) (hi : l[i]? = some n) (hs : isSign n = false) : textOf l = none := by
  rw [h.2.2, drop_cons hi, textOf, hs]; rfl
theorem textFar_end {l : List Int} {acc : List UInt8} (h : TextFar l l.length acc) : textOf l = some acc := by
  rw [h.2.2, List.drop_length, textOf]; simp
/-- How a list of numbers comes in. -/
def IsInts (lv : PV) (l : List Int) : Prop := (lv = .nils ∧ l = []) ∨ lv = .vals 1 (l.map rowI)
theorem unBytes_rows : ∀ s : List UInt8, unBytes (byteRows s) = some s
  | [] => rfl
  | c :: s => by
    simp only [byteRows, List.map_cons, unBytes, byteRow, unByte]
    have h := unBytes_rows s
    simp only [byteRows] at h
    rw [h]
    simp
theorem fill_rows {n : Int} (h : 0 ≤ n) (h' : n ≤ 1114111) {m : Mem} {id : Nat} {z : AV} (hm : m[id]? = some (.cells (filled n z z z z))) (hz : z = .p (.int .u8 0)) : rowsOf 1 m (.own 1 id 0 (widthOf n).toNat) = some (byteRows (utf8 n)) := by
  subst hz
  have bv : ∀ x : Int, 0 ≤ x → x ≤ 255 → byteRow (byte x) = [.int .u8 x] := by
    intro x h1 h2
    simp only [byteRow, byte_nat h1 h2]
  by_cases g1 : n ≥ 65536
  · have e1 : widthOf n = 4 := width_4.2 g1
    have e2 : filled n (.p (.int .u8 0)) (.p (.int .u8 0)) (.p (.int .u8 0)) (.p (.int .u8 0)) = [b8 (240 + n / 262144), b8 (128 + n / 4096 % 64), b8 (128 + n / 64 % 64), b8 (128 + n % 64)] := by simp only [filled, g1, if_true]
    rw [e2] at hm
    rw [e1, utf8_4 g1]
    simp [rowsOf, hm, b8, byteRows, bv (240 + n / 262144) (by omega) (by omega), bv (128 + n / 4096 % 64) (by omega) (by omega), bv (128 + n / 64 % 64) (by omega) (by omega), bv (128 + n % 64) (by omega) (by omega)]
  by_cases g2 : n ≥ 2048
  · have e1 : widthOf n = 3 := width_3.2 ⟨g2, by omega⟩
    have e2 : filled n (.p (.int .u8 0)) (.p (.int .u8 0)) (.p (.int .u8 0)) (.p (.int .u8 0)) = [b8 (224 + n / 4096), b8 (128 + n / 64 % 64), b8 (128 + n % 64), .p (.int .u8 0)] := by simp only [filled, g1, g2, if_true, if_false]
    rw [e2] at hm
    rw [e1, utf8_3 g2 (by omega)]
    simp [rowsOf, hm, b8, byteRows, bv (224 + n / 4096) (by omega) (by omega), bv (128 + n / 64 % 64) (by omega) (by omega), bv (128 + n % 64) (by omega) (by omega)]
  by_cases g3 : n ≥ 128
  · have e1 : widthOf n = 2 := width_2.2 ⟨g3, by omega⟩
    have e2 : filled n (.p (.int .u8 0)) (.p (.int .u8 0)) (.p (.int .u8 0)) (.p (.int .u8 0)) = [b8 (192 + n / 64), b8 (128 + n % 64), .p (.int .u8 0), .p (.int .u8 0)] := by simp only [filled, g1, g2, g3, if_true, if_false]
    rw [e2] at hm
    rw [e1, utf8_2 g3 (by omega)]
    simp [rowsOf, hm, b8, byteRows, bv (192 + n / 64) (by omega) (by omega), bv (128 + n % 64) (by omega) (by omega)]
  · have e1 : widthOf n = 1 := width_1.2 (by omega)
    have e2 : filled n (.p (.int .u8 0)) (.p (.int .u8 0)) (.p (.int .u8 0)) (.p (.int .u8 0)) = [b8 n, .p (.int .u8 0), .p (.int .u8 0), .p (.int .u8 0)] := by simp only [filled, g1, g2, g3, if_false]
    rw [e2] at hm
    rw [e1, utf8_1 (by omega)]
    simp [rowsOf, hm, b8, byteRows, bv n (by omega) (by omega)]
end Hx
