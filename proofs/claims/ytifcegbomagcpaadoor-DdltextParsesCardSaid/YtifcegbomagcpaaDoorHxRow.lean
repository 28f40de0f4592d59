/-
  HxRow: from what a row asks to the evaluator, and back: the arguments as values of the evaluator; what is said behind the call.
-/
import Derived.Test.YtifcegbomagcpaaDoorHxV05j
import Derived.Test.YtifcegbomagcpaaDoorHxU05c
import Derived.Test.YtifcegbomagcpaaDoorHxCall
import Derived.ProofKit
import Derived.OpenShut
import Derived.Deep.DeepHandedRow
import Derived.Lib.LaidTab
import Derived.LaidSub
namespace Hx
open Go
set_option linter.unusedSimpArgs false
set_option linter.unusedVariables false
set_option maxHeartbeats 4000000
variable {E : Env}
attribute [-simp] List.getD_eq_getElem?_getD getElem?_pos
theorem ofNat8 {c : Nat} (h : c < 256) : (UInt8.ofNat c).toNat = c := by rw [UInt8.toNat_ofNat']; omega
theorem starts_no {s : List UInt8} (h : ∀ c : Nat, c < 256 → starts s (quoteC (UInt8.ofNat c)) = false) : stepQ s = none := by
  cases hs : stepQ s with
  | none => rfl
  | some p =>
    obtain ⟨x, n⟩ := p
    have := h x.toNat (UInt8.toNat_lt x)
    rw [UInt8.ofNat_toNat, starts_quote] at this
    obtain ⟨_, h2, _⟩ := step_some hs
    rw [hs, h2] at this
    simp at this
theorem starts_yes {s : List UInt8} {c : UInt8} (h : starts s (quoteC c) = true) : stepQ s = some (c, (quoteC c).length) := by
  rw [starts_quote] at h
  simpa using h
def RqIn (s acc : List UInt8) (i c : Nat) (st : St) : Prop := ∃ m, c ≤ 256 ∧ ((Live Fn.f_haulageref04_Unquote_k1 (Fn.f_haulageref04_Unquote_s1 (.p (.str s)) (.p (.str acc)) (.p (.int .i64 i)) (.p (.bool false)) (.p (.int .i64 c))) m st ∧ ∀ x, x < c → starts (s.drop i) (quoteC (UInt8.ofNat x)) = false) ∨
  (∃ x n, stepQ (s.drop i) = some (x, n) ∧ Live Fn.f_haulageref04_Unquote_k1 (Fn.f_haulageref04_Unquote_s1 (.p (.str s)) (.p (.str (acc ++ [x]))) (.p (.int .i64 ((i + n : Nat) : Int))) (.p (.bool true)) (.p (.int .i64 c))) m st))
theorem ref_Unquote_in (u : Q05 E) (h69 : E.fn 69 = some Fn.f_haulageref04_starts) (s acc : List UInt8) (i : Nat) (hs : (s.length : Int) ≤ 1000000000) (hi : i < s.length) (ha : acc.length ≤ i) (K : Nat) (hK : 260 ≤ K) (m : Mem) (st : St)
    (hst : Live Fn.f_haulageref04_Unquote_k1 (Fn.f_haulageref04_Unquote_s1 (.p (.str s)) (.p (.str acc)) (.p (.int .i64 i)) (.p (.bool false)) (.p (.int .i64 0))) m st) :
    Wp (iter (loopF E (denF E K) K Fn.f_haulageref04_Unquote_k1 Fn.f_haulageref04_Unquote_b1) K st)
      (fun e st => e = .exit 2 ∧ st.ds = [] ∧ st.ts.length = 62 ∧ st.ts.getD 0 (.tup []) = .p (.str s) ∧
        ((stepQ (s.drop i) = none ∧ st.ts.getD 7 (.tup []) = .p (.bool false)) ∨
         (∃ x n, stepQ (s.drop i) = some (x, n) ∧ st.ts.getD 7 (.tup []) = .p (.bool true) ∧ st.ts.getD 5 (.tup []) = .p (.str (acc ++ [x])) ∧ st.ts.getD 6 (.tup []) = .p (.int .i64 ((i + n : Nat) : Int))))) := by
  obtain ⟨j, rfl⟩ : ∃ j, K = j + 1 := ⟨K - 1, by omega⟩
  refine loop_wp (α := Nat) (I := fun c st => RqIn s acc i c st) (meas := fun c => 257 - c) ?_ (j + 1) 0 st ⟨m, by omega, .inl ⟨hst, by intro x hx; omega⟩⟩ (by omega)
  rintro c st ⟨m, hc, ⟨hlive, hno⟩ | ⟨x, n, hx, hlive⟩⟩
  · rw [loopF_live hlive]
    by_cases hc2 : c < 256
    · have hc' : (c : Int) < 256 := by omega
      have w1 : IntKind.u8.wrap (c : Int) = c := wrap_u8 (by omega) (by omega)
      have w2 : IntKind.i64.wrap ((c : Int) + 1) = ((c + 1 : Nat) : Int) := by rw [wrap_i64 (by omega) (by omega)]; omega
      have hO := fun m => ref_one4 u j (UInt8.ofNat c) m
      have hS := fun m => ref_starts h69 j (s.drop i) (quoteC (UInt8.ofNat c)) m
      rw [ofNat8 hc2] at hO
      have hle : i ≤ s.length := by omega
      cases hq : starts (s.drop i) (quoteC (UInt8.ofNat c)) with
      | false =>
        rw [hq] at hS
        simp [Fn.f_haulageref04_Unquote_b1, Fn.f_haulageref04_Unquote_s1, hc', w1, w2, hO, hS, hle]
        refine ⟨c + 1, by omega, m, hc2, .inl ⟨⟨rfl, by simp [keep, Fn.f_haulageref04_Unquote_k1, Fn.f_haulageref04_Unquote_s1], rfl, rfl⟩, ?_⟩⟩
        intro x hx
        by_cases hxc : x = c
        · subst hxc; exact hq
        · exact hno x (by omega)
      | true =>
        rw [hq] at hS
        have hst := starts_yes hq
        have hq4 := quoteC_len (UInt8.ofNat c)
        have hlim : acc.length + 1 ≤ strLim := by unfold strLim; omega
        have w3 : IntKind.i64.wrap ((i : Int) + (quoteC (UInt8.ofNat c)).length) = ((i + (quoteC (UInt8.ofNat c)).length : Nat) : Int) := by rw [wrap_i64 (by omega) (by omega)]; omega
        simp [Fn.f_haulageref04_Unquote_b1, Fn.f_haulageref04_Unquote_s1, hc', w1, w2, w3, hO, hS, hle, unBytes, unByte, hlim, -Int.natCast_add]
        exact ⟨c + 1, by omega, _, hc2, .inr ⟨_, _, hst, ⟨rfl, by simp [keep, Fn.f_haulageref04_Unquote_k1, Fn.f_haulageref04_Unquote_s1], rfl, rfl⟩⟩⟩
    · have hc' : ¬ (c : Int) < 256 := by omega
      have hnone := starts_no (s := s.drop i) (fun x hx => hno x (by omega))
      simp [Fn.f_haulageref04_Unquote_b1, Fn.f_haulageref04_Unquote_s1, hc', hnone]
  · rw [loopF_live hlive]
    by_cases hc2 : (c : Int) < 256
    · simp [Fn.f_haulageref04_Unquote_b1, Fn.f_haulageref04_Unquote_s1, hc2, hx]
      exact ⟨x, n, ⟨rfl, rfl⟩, rfl, rfl⟩
    · simp [Fn.f_haulageref04_Unquote_b1, Fn.f_haulageref04_Unquote_s1, hc2, hx]
      exact ⟨x, n, ⟨rfl, rfl⟩, rfl, rfl⟩
def RqInv (s : List UInt8) (i : Nat) (st : St) : Prop := ∃ (acc : List UInt8) (m : Mem), UInv s i acc ∧ Live Fn.f_haulageref04_Unquote_k0 (Fn.f_haulageref04_Unquote_s0 (.p (.str s)) (.p (.str acc)) (.p (.int .i64 i))) m st
theorem RqInv.mk {s : List UInt8} {i : Nat} {st : St} (acc : List UInt8) (m : Mem) (h1 : UInv s i acc) (h3 : Live Fn.f_haulageref04_Unquote_k0 (Fn.f_haulageref04_Unquote_s0 (.p (.str s)) (.p (.str acc)) (.p (.int .i64 i))) m st) : RqInv s i st := ⟨acc, m, h1, h3⟩
theorem ref_Unquote (u : Q05 E) (h69 : E.fn 69 = some Fn.f_haulageref04_starts) (h52 : E.fn 52 = some Fn.f_haulageref04_Unquote) (s : List UInt8) (hs : (s.length : Int) ≤ 1000000000) (k : Nat) (hk : s.length + 260 ≤ k) (m : Mem) : denF E (k + 1) 52 [.p (.str s)] m = some (.ret (unquoteV s), m) := by
  refine denF_wp h52 rfl (args' := [.p (.str s)]) rfl ?_
  unfold unquoteV
  cases s with
  | nil => simp [Fn.f_haulageref04_Unquote]
  | cons a r =>
  by_cases h34 : ¬ a = 34
  · have g := u8ne h34
    have g34 : ((34 : UInt8).toNat : Int) = 34 := rfl
    rw [g34] at g
    simp [Fn.f_haulageref04_Unquote, g, bne, h34]
  obtain rfl := Classical.not_not.1 h34
  have hh : (34 :: r : List UInt8).head? = some 34 := rfl
  rw [if_pos hh]
  simp [Fn.f_haulageref04_Unquote, bne]
  have hU0 := uinv_0 hh
  generalize hsx : (34 :: r : List UInt8) = s at *
  have htail : r = s.tail := by rw [← hsx]; rfl
  rw [htail]
  refine (loop_wp (α := Nat) (I := fun i st => RqInv s i st) (meas := fun i => s.length - i)
    (Q := fun e st => st.ds = [] ∧ ((e = .exit 0 ∧ st.ts.length = 62 ∧ st.ts.getD 0 (.tup []) = .p (.str s) ∧ (∃ acc i, st.ts.getD 5 (.tup []) = .p (.str acc) ∧ st.ts.getD 6 (.tup []) = .p (.int .i64 ((i : Nat) : Int)) ∧ ((s.length ≤ i ∧ unq s.tail = none) ∨ (i < s.length ∧ unq s.tail = some (acc, i))))) ∨
      (e = .ret ∧ unq s.tail = none ∧ st.ts.getD 2 (.tup []) = .p (.str []) ∧ st.ts.getD 3 (.tup []) = .p (.int .i64 0) ∧ st.ts.getD 4 (.tup []) = .p (.bool false)))) ?_ k 1 _ (RqInv.mk [] [] hU0 ⟨rfl, rfl, rfl, rfl⟩) (by omega)).mono ?_
  · rintro i st ⟨D, m, hU, hlive⟩
    rw [loopF_live hlive]
    have hi0 := hU.2.1
    have hDl := hU.2.2.1
    by_cases hi : i < s.length
    · have hi' : (i : Int) < s.length := by omega
      obtain ⟨c, hc⟩ : ∃ c, s[i]? = some c := ⟨_, List.getElem?_eq_getElem hi⟩
      have hdrop : s.drop i = c :: s.drop (i + 1) := drop_at hc
      have g34 : ((34 : UInt8).toNat : Int) = 34 := rfl
      by_cases c34 : c = 34
      · subst c34
        have hq := uinv_quote hU (by rw [hdrop]; rfl)
        simp [Fn.f_haulageref04_Unquote_b0, Fn.f_haulageref04_Unquote_s0, hi, hi', hc, bne]
        exact ⟨i, rfl, .inr ⟨hi, hq⟩⟩
      have g := u8ne c34
      rw [g34] at g
      have hn34 : ¬ (s.drop i).head? = some 34 := by
        rw [head_at, hc]
        simpa using c34
      simp [Fn.f_haulageref04_Unquote_b0, Fn.f_haulageref04_Unquote_s0, hi, hi', hc, bne, g]
      refine (ref_Unquote_in u h69 s D i hs hi hDl k (by omega) m _ ⟨rfl, rfl, rfl, rfl⟩).mono ?_
      rintro e st ⟨rfl, q1, q2, q3, q4⟩
      obtain ⟨ts, m', ds⟩ := st
      simp only at q1 q2 q3 q4
      subst q1
      rcases q4 with ⟨hnone, q4⟩ | ⟨x, n, hx, q4, q5, q6⟩
      · have := uinv_none hU hn34 hnone
        match ts, q2, q3, q4 with
        | t0 :: t1 :: t2 :: t3 :: t4 :: t5 :: t6 :: t7 :: t8 :: t9 :: t10 :: t11 :: t12 :: t13 :: t14 :: t15 :: t16 :: t17 :: t18 :: t19 :: t20 :: t21 :: t22 :: t23 :: t24 :: t25 :: t26 :: t27 :: t28 :: t29 :: t30 :: t31 :: t32 :: t33 :: t34 :: t35 :: t36 :: t37 :: t38 :: t39 :: t40 :: t41 :: t42 :: t43 :: t44 :: t45 :: t46 :: t47 :: t48 :: t49 :: t50 :: t51 :: t52 :: t53 :: t54 :: t55 :: t56 :: t57 :: t58 :: t59 :: t60 :: t61 :: [], q2, q3, q4 =>
          simp only [getD_zero', getD_succ'] at q3 q4
          subst q3 q4
          simp [this]
      · have hU1 := uinv_step hU hn34 hx
        have hp := step_pos hx
        match ts, q2, q3, q4, q5, q6 with
        | t0 :: t1 :: t2 :: t3 :: t4 :: t5 :: t6 :: t7 :: t8 :: t9 :: t10 :: t11 :: t12 :: t13 :: t14 :: t15 :: t16 :: t17 :: t18 :: t19 :: t20 :: t21 :: t22 :: t23 :: t24 :: t25 :: t26 :: t27 :: t28 :: t29 :: t30 :: t31 :: t32 :: t33 :: t34 :: t35 :: t36 :: t37 :: t38 :: t39 :: t40 :: t41 :: t42 :: t43 :: t44 :: t45 :: t46 :: t47 :: t48 :: t49 :: t50 :: t51 :: t52 :: t53 :: t54 :: t55 :: t56 :: t57 :: t58 :: t59 :: t60 :: t61 :: [], q2, q3, q4, q5, q6 =>
          simp only [getD_zero', getD_succ'] at q3 q4 q5 q6
          subst q3 q4 q5 q6
          simp
          exact ⟨i + n, by omega, RqInv.mk (D ++ [x]) _ hU1 ⟨rfl, rfl, rfl, rfl⟩⟩
    · have hi' : ¬ (i : Int) < s.length := by omega
      have hnil : s.drop i = [] := List.drop_eq_nil_of_le (by omega)
      have := uinv_none hU (by rw [hnil]; simp) (by rw [hnil]; rfl)
      simp [Fn.f_haulageref04_Unquote_b0, Fn.f_haulageref04_Unquote_s0, hi, hi', this]
      exact ⟨i, rfl, by omega⟩
  · rintro e st ⟨h0, h⟩
    obtain ⟨ts, m', ds⟩ := st
    simp only at h0 h
    subst h0
    rcases h with ⟨rfl, hl, q0, D, i, q1, q2, ⟨hi, hx⟩ | ⟨hi, hx⟩⟩ | ⟨rfl, hq, q1, q2, q3⟩
    · rw [hx]
      have hi' : (s.length : Int) ≤ i := by omega
      match ts, hl, q0, q1, q2 with
      | t0 :: t1 :: t2 :: t3 :: t4 :: t5 :: t6 :: t7 :: t8 :: t9 :: t10 :: t11 :: t12 :: t13 :: t14 :: t15 :: t16 :: t17 :: t18 :: t19 :: t20 :: t21 :: t22 :: t23 :: t24 :: t25 :: t26 :: t27 :: t28 :: t29 :: t30 :: t31 :: t32 :: t33 :: t34 :: t35 :: t36 :: t37 :: t38 :: t39 :: t40 :: t41 :: t42 :: t43 :: t44 :: t45 :: t46 :: t47 :: t48 :: t49 :: t50 :: t51 :: t52 :: t53 :: t54 :: t55 :: t56 :: t57 :: t58 :: t59 :: t60 :: t61 :: [], hl, q0, q1, q2 =>
        simp only [getD_zero', getD_succ'] at q0 q1 q2
        subst q0 q1 q2
        simp [hi, hi']
    · rw [hx]
      have hi' : ¬ (s.length : Int) ≤ i := by omega
      have hi2 : ¬ s.length ≤ i := by omega
      have hw : IntKind.i64.wrap ((i : Int) + 1) = i + 1 := wrap_i64 (by omega) (by omega)
      match ts, hl, q0, q1, q2 with
      | t0 :: t1 :: t2 :: t3 :: t4 :: t5 :: t6 :: t7 :: t8 :: t9 :: t10 :: t11 :: t12 :: t13 :: t14 :: t15 :: t16 :: t17 :: t18 :: t19 :: t20 :: t21 :: t22 :: t23 :: t24 :: t25 :: t26 :: t27 :: t28 :: t29 :: t30 :: t31 :: t32 :: t33 :: t34 :: t35 :: t36 :: t37 :: t38 :: t39 :: t40 :: t41 :: t42 :: t43 :: t44 :: t45 :: t46 :: t47 :: t48 :: t49 :: t50 :: t51 :: t52 :: t53 :: t54 :: t55 :: t56 :: t57 :: t58 :: t59 :: t60 :: t61 :: [], hl, q0, q1, q2 =>
        simp only [getD_zero', getD_succ'] at q0 q1 q2
        subst q0 q1 q2
        simp [hi2, hi', hw]
    · simp [hq, q1, q2, q3]
end Hx

namespace Hx
open Go
set_option linter.unusedSimpArgs false
set_option linter.unusedVariables false
set_option maxHeartbeats 4000000
variable {E : Env}
attribute [-simp] List.getD_eq_getElem?_getD getElem?_pos
attribute [local simp] intBeq maxIf
def fits32 (n : Int) : Bool := decide (-2147483648 ≤ n ∧ n < 2147483648)
structure F06 (E : Env) : Prop where
  low : E.fn 70 = some Fn.f_word_Low
  fits : E.fn 55 = some Fn.f_word_Fits
  half : E.fn 56 = some Fn.f_haulageref01_Half
  rFits : E.fn 36 = some Fn.f_haulageref01_Fits
theorem low32 (n : Int) (h1 : -9223372036854775808 ≤ n) (h2 : n ≤ 9223372036854775807) : decide ((IntKind.i64.wrap (n * 4294967296)).fdiv 4294967296 = n) = fits32 n := by
  have : IntKind.i64.wrap (n * 4294967296) = (n * 4294967296 + 9223372036854775808) % 18446744073709551616 - 9223372036854775808 := by
    simp only [IntKind.wrap, IntKind.signed, IntKind.bits]
    simp
    split <;> omega
  rw [this, Int.fdiv_eq_ediv_of_nonneg _ (by omega)]
  unfold fits32
  congr 1
  apply propext
  omega
theorem word_Fits (u : F06 E) (k : Nat) (n : Int) (h1 : -9223372036854775808 ≤ n) (h2 : n ≤ 9223372036854775807) (m : Mem) : denF E (k + 2) 55 [.p (.int .i64 n), .p (.int .i64 32)] m = some (.ret (.p (.bool (fits32 n))), m) := by
  have hlow : ∀ m, denF E (k + 1) 70 [.p (.int .i64 n), .p (.int .i64 32)] m = some (.ret (.p (.int .i64 ((IntKind.i64.wrap (n * 4294967296)).fdiv 4294967296))), m) := by
    intro m
    refine denF_wp u.low rfl (args' := [.p (.int .i64 n), .p (.int .i64 32)]) rfl ?_
    have hw : IntKind.i64.wrap 32 = 32 := rfl
    simp [Fn.f_word_Low, hw]
  refine denF_wp u.fits rfl (args' := [.p (.int .i64 n), .p (.int .i64 32)]) rfl ?_
  simp [Fn.f_word_Fits, hlow]
  rw [low32 n h1 h2]
def pw (i : Nat) : Int := ((2 ^ i : Nat) : Int)
theorem pw_succ (i : Nat) : pw (i + 1) = 2 * pw i := by
  unfold pw
  rw [Nat.pow_succ]
  omega
theorem pw_pos (i : Nat) : 0 ≤ pw i := Int.natCast_nonneg _
theorem pw_le {i : Nat} (h : i ≤ 30) : pw i ≤ 1073741824 := by
  have : 2 ^ i ≤ 2 ^ 30 := Nat.pow_le_pow_right (by omega) h
  unfold pw
  omega
theorem ref_Half (u : F06 E) (k : Nat) (m : Mem) : denF E (k + 40) 56 [.p (.int .i64 32)] m = some (.ret (.p (.int .i64 2147483648)), m) := by
  refine denF_wp u.half rfl (args' := [.p (.int .i64 32)]) rfl ?_
  simp [Fn.f_haulageref01_Half]
  refine (loop_wp (α := Nat) (I := fun i st => i ≤ 31 ∧ Live Fn.f_haulageref01_Half_k0 (Fn.f_haulageref01_Half_s0 (.p (.int .i64 32)) (.p (.int .i64 (pw i))) (.p (.int .i64 (i + 1)))) [] st) (meas := fun i => 31 - i)
    (Q := fun e st => e = .exit 0 ∧ st.ds = [] ∧ st.ts.length = 13 ∧ st.ts.getD 3 (.tup []) = .p (.int .i64 2147483648)) ?_ (k + 39) 0 _ ⟨Nat.zero_le _, rfl, rfl, rfl, rfl⟩ (by omega)).mono ?_
  · rintro i st ⟨hi0, hlive⟩
    rw [loopF_live hlive]
    have hw1 : IntKind.i64.wrap ((i : Int) + 1 + 1) = i + 2 := by rw [wrap_i64] <;> omega
    by_cases hi : i = 31
    · subst hi
      have h31 : pw 31 = 2147483648 := rfl
      simp [Fn.f_haulageref01_Half_b0, Fn.f_haulageref01_Half_s0, h31]
    · have hi' : (i : Int) + 1 < 32 := by omega
      have hw2 : IntKind.i64.wrap (2 * pw i) = pw (i + 1) := by
        have := pw_pos i
        have := pw_le (i := i) (by omega)
        rw [wrap_i64 (by omega) (by omega), pw_succ]
      simp [Fn.f_haulageref01_Half_b0, Fn.f_haulageref01_Half_s0, hi', hw1, hw2]
      exact ⟨i + 1, by omega, by omega, rfl, by simp [keep, Fn.f_haulageref01_Half_k0, Fn.f_haulageref01_Half_s0]; omega, rfl, rfl⟩
  · rintro e st ⟨rfl, h1, h2, h3⟩
    obtain ⟨ts, m', ds⟩ := st
    simp only at h1 h2 h3
    match ts, h2, h3 with
    | [t0, t1, t2, t3, t4, t5, t6, t7, t8, t9, t10, t11, t12], h2, h3 =>
      simp at h3
      simp [h1, h3]
theorem ref_Fits (u : F06 E) (k : Nat) (n : Int) (m : Mem) : denF E (k + 41) 36 [.p (.int .i64 n), .p (.int .i64 32)] m = some (.ret (.p (.bool (fits32 n))), m) := by
  refine denF_wp u.rFits rfl (args' := [.p (.int .i64 n), .p (.int .i64 32)]) rfl ?_
  have hh := fun m => ref_Half u k m
  have hw : IntKind.i64.wrap (-2147483648) = -2147483648 := rfl
  unfold fits32
  by_cases h : -2147483648 ≤ n
  · simp [Fn.f_haulageref01_Fits, hh, hw, h]
  · simp [Fn.f_haulageref01_Fits, hh, hw, h]
end Hx

namespace Hx
open Go
set_option linter.unusedSimpArgs false
set_option linter.unusedVariables false
set_option maxHeartbeats 4000000
variable {E : Env}
attribute [-simp] List.getD_eq_getElem?_getD getElem?_pos
structure V06 (E : Env) : Prop where
  r : R03 E
  f : F06 E
  vRight : E.fn 33 = some Fn.f_value_Right
def rightV (k n : Int) (s : List UInt8) : Bool :=
  if k = 0 then (n == 0) && s.isEmpty else if k = 1 then fits32 n && s.isEmpty else if k = 2 then s.isEmpty
  else if k = 3 then (n == 0) && decide (s.length ≤ 120) && (signs s).isSome else if k = 4 then (n == 0) && decide (s.length ≤ 120) else false
def isI64 (n : Int) : Prop := -9223372036854775808 ≤ n ∧ n ≤ 9223372036854775807
end Hx

namespace Hx
open Go Go.ChangeShapes Go.WideShapes Go.ChangeAt Go.RowKit

section
variable {H : Type} {enc : TypeId × Value → H} {P : Program}

theorem trodAll_below (hl : laidOutB P = true) {W W' : World} (hb : Below W.heap.size W W') : ∀ {ts : List TypeId} {vs : List Value} {ds : List (DataW H)} {ps : List MemPlace},
    (∀ t ∈ ts, P.readableRec t = true ∧ t < P.types.size) → DataW.TrodAll enc P W 0 (fun _ => true) true ts vs ds ps → (∀ x ∈ ps, x.block < W.heap.size) →
    ∀ sp : Nat → Bool, (∀ p ∈ ps, sp p.block = true) → DataW.TrodAll enc P W' 0 sp true ts vs ds ps
  | [], _, _, _, _, h, _, _, _ => by
    obtain ⟨rfl, rfl, rfl⟩ := trodAll_nil h
    exact trodAll_mk0
  | t :: ts, vs, ds, ps, ht, h, hlt, sp, hsp => by
    obtain ⟨v, vs', d, ds', p, q, rfl, rfl, rfl, h1, h2⟩ := trodAll_cons h
    have hp := fun x (hx : x ∈ p) => hlt x (List.mem_append_left _ hx)
    refine trodAll_cons_mk (WideElems.Trod_stays hl (ht t (by simp)).1 (ht t (by simp)).2 h1 (fun x hx => hb.same (hp x hx)) fun x hx => hsp x (List.mem_append_left _ hx)) ?_
    exact trodAll_below hl hb (fun t' h' => ht t' (List.mem_cons_of_mem _ h')) h2 (fun x hx => hlt x (List.mem_append_right _ hx)) sp fun x hx => hsp x (List.mem_append_right _ hx)

theorem post_true {f : Func} {s : ChangeSpec} {apart fresh handsOn again : Bool} {W W' : World} {args : Array Value} {ds gs : List (DataW H)} {before : List MemPlace} {tb : TypeId}
    (hW : DataW.Whole enc P f.params.toList s.vars apart W args.toList ds gs before) (hv : s.vars = []) (hs : s.fn H (ds ++ gs) = { results := [.lit (.bool true)], args := ds })
    (hr : f.resultTypes = #[tb]) (ht : P.underlying tb = some .bool) (hl : laidOutB P = true) (hts : ∀ t ∈ f.params.toList, P.readableRec t = true ∧ t < P.types.size) (hb : Below W.heap.size W W') :
    s.post enc P f apart fresh handsOn again W args (.bool true) W' := by
  have hlt := hW.lt
  have hW0 := hW
  obtain ⟨p, q, hA, hV, hpq, hz, hn⟩ := hW
  rw [hv] at hV
  obtain ⟨rfl, rfl⟩ := trodVars_none hV
  rw [List.append_nil] at hpq
  subst hpq
  have hargs : ∀ sp : Nat → Bool, (∀ x ∈ before, sp x.block = true) → DataW.TrodAll enc P W' 0 sp true f.params.toList args.toList (s.fn H (ds ++ [])).args before := by
    intro sp hsp
    rw [hs]
    exact trodAll_below hl hb hts hA hlt sp hsp
  have hvars : ∀ sp : Nat → Bool, DataW.TrodVars enc P W' sp s.vars (s.fn H (ds ++ [])).vars [] := by
    intro sp
    rw [hs, hv]
    rfl
  have hres : ∀ (b : Nat) (sp : Nat → Bool) (hd : Bool), DataW.TrodAll enc P W' b sp hd f.resultTypes.toList ((Value.bool true).resultList f.resultTypes.size) (s.fn H (ds ++ [])).results [] := by
    intro b sp hd
    rw [hs, hr]
    exact trodAll_mk1 (shut_bool ht true)
  have hold : ∀ x ∈ before, (fun b => decide (b < W.heap.size)) x.block = true := fun x hx => by simpa using hlt x hx
  refine ⟨ds, [], before, [], before, [], hW0, hres _ _ _, hargs _ hold, hvars _, World.keptBut_mono (fun x hx => ?_) (hb.frame fun x => x ∈ before), fun _ => ⟨ok_one hr rfl (okWide_bool_mk ht true), ?_⟩⟩
  · exact ⟨hx, .inr (.inl hx)⟩
  · refine ⟨_, _, ([] ++ before) ++ [], ⟨[] ++ before, [], trodAll_append (hargs _ fun _ _ => rfl) (hres _ _ _), hvars _, rfl, ?_, ?_⟩, ?_⟩
    · intro b off hx
      have hx' : MemPlace.cell b off ∈ before := by simpa using hx
      rw [hb.frozen (hlt _ hx')]
      exact hz b off (by simpa using hx')
    · intro ha
      simpa using hn ha
    · intro x hx _
      simpa using hx
end


def cx0 (W : World) : Cx := { w := W, K := fun _ => none, N := 0, ρ := fun _ => (0, 0), tok := fun _ => none }
theorem cx0_safe {W : World} {b o : Nat} : (cx0 W).safe b o ↔ b < W.heap.size := by
  simp [Cx.safe, cx0]
theorem inv0 {F : Fix} {E : Env} {W : World} (hg : ∀ g, RPcells F (cx0 W) (F.gnum g) 0 (E.gl g)) : Inv F E ⟨W, fun _ => none⟩ (cx0 W) [] :=
  ⟨Below.refl _ _, rfl, (by intro b k h; cases h), fun _ _ => rfl, (by intro i b h; simp [ownB] at h), (by intro i x h; simp at h), (by intro i j b h; simp [ownB] at h), hg⟩

theorem gl_tab {F : Fix} {W : World} {name : String} {k : IntKind} {g : Nat} (hg : F.P.globalNamed name = some g) : ∀ {zs : List Int} {n : Nat}, (∀ i, i < zs.length → W.cell? ⟨g, n + i, none⟩ = some (.int k (zs.getD i 0))) → RPcells F (cx0 W) g n (zs.map (.int k))
  | [], n, _ => by simp [RPcells]
  | z :: zs, n, h => by
    simp only [List.map_cons, RPcells]
    have h0 := h 0 (by simp)
    simp only [Nat.add_zero, List.getD_cons_zero] at h0
    refine ⟨⟨cx0_safe.2 ?_, rfl, _, h0, by simp [RP]⟩, gl_tab hg fun i hi => ?_⟩
    · simp only [World.cell?] at h0
      cases hh : W.heap[g]? with
      | none => rw [hh] at h0; cases h0
      | some o => exact (Array.getElem?_eq_some_iff.1 hh).1
    · have := h (i + 1) (by simpa using hi)
      rw [show n + 1 + i = n + (i + 1) by omega]
      simpa using this

section
variable {H : Type} {enc : TypeId × Value → H} {F : Fix} {W : World}
end


def envOf (L : List (Nat × XFunc)) (gl : Nat → List PV) : Env := { fn := fun g => (L.find? fun p => p.1 == g).map (·.2), gl := gl }
theorem link_of {F : Fix} {L : List (Nat × XFunc)} {gl : Nat → List PV} (h : ∀ p ∈ L, okFunc F p.1 p.2 = true) : Link F (envOf L gl) := by
  refine ⟨fun g xf hg => ?_⟩
  simp only [envOf, Option.map_eq_some_iff] at hg
  obtain ⟨p, hp, rfl⟩ := hg
  have h1 := List.find?_some hp
  have h2 := List.mem_of_find?_eq_some hp
  have := h p h2
  rw [beq_iff_eq.1 h1] at this
  exact this

theorem calls_true {F : Fix} {E : Env} (hl : Link F E) {n g : Nat} {args : List AV} {m : Mem} {W : World} {argsV : List Value} (hg : ∀ g, RPcells F (cx0 W) (F.gnum g) 0 (E.gl g)) (ha : Rs F (cx0 W) args argsV)
    (hd : denF E n g args [] = some (.ret (.p (.bool true)), m)) : Calls F.P (F.num g) argsV.toArray W fun e W' => e = .returned (.bool true) ∧ Below W.heap.size W W' := by
  obtain ⟨_, _, h⟩ := denF_sound hl n ⟨W, fun _ => none⟩ g args [] _ m hd
  refine (h (cx0 W) argsV (inv0 hg) ha).mono ?_
  rintro e W' ⟨c', rfl, he, hi, hans⟩
  cases e with
  | returned v => simp only [R, RP] at hans; exact ⟨by rw [hans], hi.below⟩
  | _ => exact hans.elim
end Hx
