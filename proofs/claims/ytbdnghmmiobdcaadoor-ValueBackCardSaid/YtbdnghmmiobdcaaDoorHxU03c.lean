/-
  HxU03c: 'Put' and 'Read' of chapter 03, the program's and the document's.
-/
import Derived.Test.YtbdnghmmiobdcaaDoorHxU03b
namespace Hx
set_option linter.unusedSimpArgs false
open Go
variable {E : Env}
theorem byte_ofNat {x : Int} (h1 : 0 ≤ x) (h2 : x ≤ 255) : UInt8.ofNat x.toNat = byte x := by
  unfold byte; rw [show x % 256 = x by omega]
def putV (n : Int) : AV := if isSign n then .tup [.p (.str (utf8 n)), .p (.bool true)] else .tup [.p (.str []), .p (.bool false)]
theorem utf_Put (u : U03 E) (k : Nat) (n : Int) (m : Mem) : denF E (k + 7) 1 [.p (.int .i64 n)] m = some (.ret (putV n), m) := by
  rw [denF_pure u.put rfl]
  have h0 := fun m => utf_is u.is (k + 5) n m
  by_cases h1 : isSign n = true
  · obtain ⟨hn, hn', _⟩ := isSign_iff.1 h1
    have hf := fun m id c0 c1 c2 c3 hm => utf_fill u k n hn hn' m id c0 c1 c2 c3 hm
    rw [h1] at h0
    simp [Fn.f_utf_Put, h0, h1, putV, rowsOf]
    rw [hf _ 0 _ _ _ _ (by rfl)]
    by_cases g1 : n ≥ 65536
    · simp (disch := omega) only [widthOf, filled, g1, if_true, b8]
      have d1 : ¬ n < 128 := by omega
      have d2 : ¬ n < 2048 := by omega
      have d3 : ¬ n < 65536 := by omega
      simp [rowsOf, unBytes, unByte, utf8, d1, d2, d3]
      simp (disch := omega) only [byte_ofNat, and_self]
    by_cases g2 : n ≥ 2048
    · simp (disch := omega) only [widthOf, filled, g1, g2, if_true, if_false, b8]
      have d1 : ¬ n < 128 := by omega
      have d2 : ¬ n < 2048 := by omega
      have d3 : n < 65536 := by omega
      simp [rowsOf, unBytes, unByte, utf8, d1, d2, d3]
      simp (disch := omega) only [byte_ofNat, and_self]
    by_cases g3 : n ≥ 128
    · simp (disch := omega) only [widthOf, filled, g1, g2, g3, if_true, if_false, b8]
      have d1 : ¬ n < 128 := by omega
      have d2 : n < 2048 := by omega
      simp [rowsOf, unBytes, unByte, utf8, d1, d2]
      simp (disch := omega) only [byte_ofNat, and_self]
    · simp (disch := omega) only [widthOf, filled, g1, g2, g3, if_true, if_false, b8]
      have d1 : n < 128 := by omega
      simp [rowsOf, unBytes, unByte, utf8, d1]
      simp (disch := omega) only [byte_ofNat, and_self]
  · have h1' : isSign n = false := by simpa using h1
    rw [h1'] at h0
    simp [Fn.f_utf_Put, h0, h1', putV]
end Hx
