/-
  HxU03b: the bytes of a sign, as the program lays them.
-/
import Derived.Test.YtbdnghmmiobdcaaDoorHxU03
namespace Hx
open Go
set_option linter.unusedSimpArgs false
set_option linter.unusedVariables false
variable {E : Env}
def b8 (x : Int) : AV := .p (.int .u8 x)
theorem and63 {x : Int} (h1 : 0 ≤ x) (h2 : x ≤ 9223372036854775807) : bitsI .and .i64 x 63 = some (x % 64) := and_i64 6 (by decide) h1 h2
theorem fdiv64 (x : Int) : x.fdiv 64 = x / 64 := Int.fdiv_eq_ediv_of_nonneg _ (by decide)
/-- What the cells of the list hold behind 'fill'. -/
def filled (n : Int) (c0 c1 c2 c3 : AV) : List AV :=
  if n ≥ 65536 then [b8 (240 + n / 262144), b8 (128 + n / 4096 % 64), b8 (128 + n / 64 % 64), b8 (128 + n % 64)]
  else if n ≥ 2048 then [b8 (224 + n / 4096), b8 (128 + n / 64 % 64), b8 (128 + n % 64), c3]
  else if n ≥ 128 then [b8 (192 + n / 64), b8 (128 + n % 64), c2, c3]
  else [b8 n, c1, c2, c3]
structure V03 (E : Env) : Prop where
  is : E.fn 15 = some Fn.f_utf_is
  width : E.fn 19 = some Fn.f_utf_width
  lead : E.fn 18 = some Fn.f_utf_lead
  read : E.fn 4 = some Fn.f_utf_Read
  rIs : E.fn 2 = some Fn.f_haulageref03_Is
  rPut : E.fn 3 = some Fn.f_haulageref03_Put
  rRead : E.fn 5 = some Fn.f_haulageref03_Read
  rOne : E.fn 17 = some Fn.f_haulageref03_one
  least : E.gl 1 = [.int .i64 0, .int .i64 0, .int .i64 128, .int .i64 2048, .int .i64 65536]
structure U03 (E : Env) : Prop extends V03 E where
  fill : E.fn 16 = some Fn.f_utf_fill
  put : E.fn 1 = some Fn.f_utf_Put
  first : E.gl 0 = [.int .u8 0, .int .u8 0, .int .u8 192, .int .u8 224, .int .u8 240]
theorem utf_fill (u : U03 E) (k : Nat) (n : Int) (hn : 0 ≤ n) (hn' : n ≤ 1114111) (m : Mem) (id : Nat) (c0 c1 c2 c3 : AV) (hm : m[id]? = some (.cells [c0, c1, c2, c3])) :
    denF E (k + 6) 16 [.own 1 id 0 4, .p (.int .i64 n)] m = some (.ret (.own 1 id 0 (widthOf n).toNat), m.set id (.cells (filled n c0 c1 c2 c3))) := by
  rw [denF_own u.fill rfl]
  have hw := fun m => utf_width u.width u.least k n m
  have hid : ∀ x, (m.set id x)[id]? = some x := by
    intro x
    rcases Nat.lt_or_ge id m.length with h | h
    · exact List.getElem?_set_self h
    · rw [List.getElem?_eq_none h] at hm; cases hm
  have q1 : n / 64 / 64 = n / 4096 := by omega
  have q2 : n / 4096 / 64 = n / 262144 := by omega
  by_cases h1 : n ≥ 65536
  · have w : widthOf n = 4 := by simp [widthOf, h1]
    have w0 : IntKind.u8.wrap (n % 64) = n % 64 := wrap_u8 (by omega) (by omega)
    have w1 : IntKind.u8.wrap (n / 64 % 64) = n / 64 % 64 := wrap_u8 (by omega) (by omega)
    have w2 : IntKind.u8.wrap (n / 4096 % 64) = n / 4096 % 64 := wrap_u8 (by omega) (by omega)
    have w3 : IntKind.u8.wrap (n / 262144) = n / 262144 := wrap_u8 (by omega) (by omega)
    have a0 := and63 (x := n) (by omega) (by omega)
    have a1 := and63 (x := n / 64) (by omega) (by omega)
    have a2 := and63 (x := n / 4096) (by omega) (by omega)
    have o0 := or_u8_128 (x := n % 64) (by omega) (by omega)
    have o1 := or_u8_128 (x := n / 64 % 64) (by omega) (by omega)
    have o2 := or_u8_128 (x := n / 4096 % 64) (by omega) (by omega)
    have o3 := or_u8_240 (x := n / 262144) (by omega) (by omega)
    rw [w] at hw
    simp [Fn.f_utf_fill, Fn.f_utf_fill_b0, Fn.f_utf_fill_k0, loopF, hw, w, iter, u.first, a0, a1, a2, o0, o1, o2, o3, w0, w1, w2, w3, fdiv64, wrap_i64, q1, q2, hm, hid, filled, h1, b8]
  by_cases h2 : n ≥ 2048
  · have w : widthOf n = 3 := by simp [widthOf, h1, h2]
    have w0 : IntKind.u8.wrap (n % 64) = n % 64 := wrap_u8 (by omega) (by omega)
    have w1 : IntKind.u8.wrap (n / 64 % 64) = n / 64 % 64 := wrap_u8 (by omega) (by omega)
    have w2 : IntKind.u8.wrap (n / 4096) = n / 4096 := wrap_u8 (by omega) (by omega)
    have a0 := and63 (x := n) (by omega) (by omega)
    have a1 := and63 (x := n / 64) (by omega) (by omega)
    have o0 := or_u8_128 (x := n % 64) (by omega) (by omega)
    have o1 := or_u8_128 (x := n / 64 % 64) (by omega) (by omega)
    have o2 := or_u8_224 (x := n / 4096) (by omega) (by omega)
    rw [w] at hw
    simp [Fn.f_utf_fill, Fn.f_utf_fill_b0, Fn.f_utf_fill_k0, loopF, hw, w, iter, u.first, a0, a1, o0, o1, o2, w0, w1, w2, fdiv64, wrap_i64, q1, q2, hm, hid, filled, h1, h2, b8]
  by_cases h3 : n ≥ 128
  · have w : widthOf n = 2 := by simp [widthOf, h1, h2, h3]
    have w0 : IntKind.u8.wrap (n % 64) = n % 64 := wrap_u8 (by omega) (by omega)
    have w1 : IntKind.u8.wrap (n / 64) = n / 64 := wrap_u8 (by omega) (by omega)
    have a0 := and63 (x := n) (by omega) (by omega)
    have o0 := or_u8_128 (x := n % 64) (by omega) (by omega)
    have o1 := or_u8_192 (x := n / 64) (by omega) (by omega)
    rw [w] at hw
    simp [Fn.f_utf_fill, Fn.f_utf_fill_b0, Fn.f_utf_fill_k0, loopF, hw, w, iter, u.first, a0, o0, o1, w0, w1, fdiv64, wrap_i64, q1, q2, hm, hid, filled, h1, h2, h3, b8]
  · have w : widthOf n = 1 := by simp [widthOf, h1, h2, h3]
    have w0 : IntKind.u8.wrap n = n := wrap_u8 (by omega) (by omega)
    rw [w] at hw
    simp [Fn.f_utf_fill, Fn.f_utf_fill_b0, Fn.f_utf_fill_k0, loopF, hw, w, iter, w0, hm, hid, filled, h1, h2, h3, b8]
end Hx
