/-
  HxU07g: the keys of several values; the law SortkeyOf.
-/
import Derived.Test.YtpgnoaacdommbaaDoorHxU07f
import Derived.Test.YtpgnoaacdommbaaDoorHxArg
namespace Hx
open Go
set_option linter.unusedSimpArgs false
set_option linter.unusedVariables false
set_option maxHeartbeats 4000000
variable {E : Env}
attribute [-simp] List.getD_eq_getElem?_getD getElem?_pos
def OneInv (s all : List UInt8) (a n : Int) (i : Nat) (st : St) : Prop := ∃ (D : List UInt8) (m : Mem), i ≤ s.length ∧ D ++ esc (s.drop i) = all ∧ D.length ≤ 1 + 2 * i ∧ m[0]? = some (.cells [.p (.int .i64 a), .p (.int .i64 n), .p (.str s)]) ∧
  Live Fn.f_haulageref07_One_k0 (Fn.f_haulageref07_One_s0 (.ptr 0 0) (.p (.str D)) (.p (.int .i64 i))) m st
theorem OneInv.mk {s all : List UInt8} {a n : Int} {i : Nat} {st : St} (D : List UInt8) (m : Mem) (h1 : i ≤ s.length) (h3 : D ++ esc (s.drop i) = all) (h4 : D.length ≤ 1 + 2 * i) (h5 : m[0]? = some (.cells [.p (.int .i64 a), .p (.int .i64 n), .p (.str s)]))
  (h7 : Live Fn.f_haulageref07_One_k0 (Fn.f_haulageref07_One_s0 (.ptr 0 0) (.p (.str D)) (.p (.int .i64 i))) m st) : OneInv s all a n i st := ⟨D, m, h1, h3, h4, h5, h7⟩
theorem one_loop (call : Caller) (K : Nat) (a n : Int) (s : List UInt8) (hs : (s.length : Int) ≤ 1000000000) (hK : s.length < K) (c0 : UInt8) (st : St) (M : Mem) (h1 : M[0]? = some (.cells [.p (.int .i64 a), .p (.int .i64 n), .p (.str s)]))
    (hst : Live Fn.f_haulageref07_One_k0 (Fn.f_haulageref07_One_s0 (.ptr 0 0) (.p (.str [c0])) (.p (.int .i64 0))) M st) :
    Wp (iter (loopF E call K Fn.f_haulageref07_One_k0 Fn.f_haulageref07_One_b0) K st) (fun e st => e = .exit 1 ∧ st.ds = [] ∧ st.ts.length = 68 ∧ st.ts.getD 3 (.tup []) = .p (.str (c0 :: esc s))) := by
  refine loop_wp (α := Nat) (I := fun i st => OneInv s (c0 :: esc s) a n i st) (meas := fun i => s.length - i) ?_ K 0 st (OneInv.mk [c0] M (Nat.zero_le _) rfl (by simp) h1 hst) (by omega)
  rintro i st ⟨D, m, hi0, hD, hDl, hid, hlive⟩
  rw [loopF_live hlive]
  by_cases hi : i < s.length
  · have hi' : (i : Int) < s.length := by omega
    obtain ⟨c, hc⟩ : ∃ c, s[i]? = some c := ⟨_, List.getElem?_eq_getElem hi⟩
    have hw : IntKind.i64.wrap ((i : Int) + 1) = i + 1 := wrap_i64 (by omega) (by omega)
    rw [drop_at7 hc, esc_cons] at hD
    have hcut : (s.take (i + 1)).drop i = [c] := by
      rw [take_last hc, List.drop_append_of_le_length (by rw [List.length_take]; omega), List.drop_eq_nil_of_le (by rw [List.length_take]; omega), List.nil_append]
    have hj' : i + 1 ≤ s.length := hi
    have ha : (0 : Int) ≤ (i : Int) + 1 := by omega
    have hb : ((i : Int) + 1).toNat = i + 1 := by omega
    have l1 : D.length + 1 ≤ strLim := by unfold strLim; omega
    have l2 : D.length + 1 + 1 ≤ strLim := by unfold strLim; omega
    by_cases h0 : c = 0
    · rw [if_pos h0] at hD
      have g : ((c.toNat : Int) == 0) = true := by rw [h0]; rfl
      simp [Fn.f_haulageref07_One_b0, Fn.f_haulageref07_One_s0, hi', hc, hw, hid, g, hcut, hj', ha, hb, l1, l2, bounds, asNat, asInt]
      exact ⟨i + 1, by omega, OneInv.mk (D ++ [c, 255]) m (by omega) (by rw [← hD, h0]; simp) (by simp; omega) hid ⟨rfl, rfl, rfl, rfl⟩⟩
    · rw [if_neg h0] at hD
      have g : ((c.toNat : Int) == 0) = false := by
        have := mt u8_0.2 h0
        simpa using this
      simp [Fn.f_haulageref07_One_b0, Fn.f_haulageref07_One_s0, hi', hc, hw, hid, g, hcut, hj', ha, hb, l1, l2, bounds, asNat, asInt]
      exact ⟨i + 1, by omega, OneInv.mk (D ++ [c]) m (by omega) (by rw [← hD]; simp) (by simp; omega) hid ⟨rfl, rfl, rfl, rfl⟩⟩
  · have hi2 : i = s.length := by omega
    subst hi2
    rw [List.drop_length] at hD
    have : esc [] = [] := rfl
    rw [this, List.append_nil] at hD
    subst hD
    simp [Fn.f_haulageref07_One_b0, Fn.f_haulageref07_One_s0, hid]
theorem ref_One (u : K07 E) (K : Nat) (hK : 13 ≤ K) (a n : Int) (s : List UInt8) (hr : rightV a n s = true) (hn : isI64 n) (hs : (s.length : Int) ≤ 1000000000) (hsK : s.length < K) (m : Mem) :
    denF E (K + 1) 114 [.p (vP a n s)] m = some (.ret (.p (.str (keyOf a n s))), m) := by
  refine denF_wp u.one rfl (args' := [.p (vP a n s)]) rfl ?_
  obtain ⟨j, rfl⟩ : ∃ j, K = j + 1 := ⟨K - 1, by omega⟩
  unfold keyOf vP
  have w0 : IntKind.u8.wrap 0 = 0 := rfl
  have y0 : unBytes [[PV.int .u8 0]] = some [0] := rfl
  have w1 : IntKind.u8.wrap 1 = 1 := rfl
  have y1 : unBytes [[PV.int .u8 1]] = some [1] := rfl
  have w2 : IntKind.u8.wrap 2 = 2 := rfl
  have y2 : unBytes [[PV.int .u8 2]] = some [2] := rfl
  have w3 : IntKind.u8.wrap 3 = 3 := rfl
  have y3 : unBytes [[PV.int .u8 3]] = some [3] := rfl
  have w4 : IntKind.u8.wrap 4 = 4 := rfl
  have y4 : unBytes [[PV.int .u8 4]] = some [4] := rfl
  rcases rightV_kinds hr with ⟨rfl, rfl, rfl⟩ | ⟨rfl, rfl, hk⟩ | ⟨rfl, rfl⟩ | ⟨rfl, rfl, hk⟩ | ⟨rfl, rfl, hk⟩
  · simp [Fn.f_haulageref07_One, w0, y0]
  · have v1 : IntKind.i64.wrap (n + 2147483648) = n + 2147483648 := wrap_i64 (by omega) (by omega)
    obtain ⟨x, hx⟩ : ∃ x : Nat, x = (n + 2147483648).toNat := ⟨_, rfl⟩
    have v2 : IntKind.u64.wrap (n + 2147483648) = (x : Int) := by rw [wrap_u64 (by omega) (by omega)]; omega
    have hP : ∀ m, denF E (j + 1) 119 [.p (.int .u64 x), .p (.int .i64 4)] m = some (.ret (.p (.str (le 4 x))), m) := fun m => ref_Put01 u.rput j (by omega) 4 (by omega) x (by omega) m
    have hl : (le 4 x).length = 4 := by rw [← List.length_reverse, le_rev, be_len]
    have hB := fun m => ref_back u.rback j (le 4 x) (by omega) (by omega) m
    rw [le_rev] at hB
    have hbl := be_len 4 x
    have hlim : 1 + (be 4 x).length ≤ strLim := by rw [hbl]; decide
    rw [← hx]
    simp [Fn.f_haulageref07_One, w1, y1, v1, v2, hP, hB, hlim]
    try omega
  · obtain ⟨x, hx⟩ : ∃ x : Nat, x = (n + 9223372036854775808).toNat := ⟨_, rfl⟩
    have hP : ∀ m, denF E (j + 1) 119 [.p (.int .u64 x), .p (.int .i64 8)] m = some (.ret (.p (.str (le 8 x))), m) := fun m => ref_Put01 u.rput j (by omega) 8 (by omega) x (by have := hn.1; have := hn.2; omega) m
    have hl : (le 8 x).length = 8 := by rw [← List.length_reverse, le_rev, be_len]
    have hB := fun m => ref_back u.rback j (le 8 x) (by omega) (by omega) m
    rw [le_rev] at hB
    have hbl := be_len 8 x
    have hlim : 1 + (be 8 x).length ≤ strLim := by rw [hbl]; decide
    rw [← hx]
    have := hn.1
    have := hn.2
    by_cases h0 : 0 ≤ n
    · have v1 : IntKind.u64.wrap n = n := wrap_u64 (by omega) (by omega)
      have v2 : IntKind.u64.wrap (n + 9223372036854775808) = (x : Int) := by rw [wrap_u64 (by omega) (by omega)]; omega
      simp [Fn.f_haulageref07_One, w2, y2, v1, v2, hP, hB, hlim, h0]
      try omega
    · have v1 : IntKind.u64.wrap n = n + 18446744073709551616 := by
        simp only [IntKind.wrap, IntKind.signed, IntKind.bits]
        simp
        omega
      have v2 : IntKind.u64.wrap (n + 18446744073709551616 - 9223372036854775808) = (x : Int) := by rw [wrap_u64 (by omega) (by omega)]; omega
      simp [Fn.f_haulageref07_One, w2, y2, v1, v2, hP, hB, hlim, h0]
      try omega
  · have hl := fun st M h1 hst => one_loop (E := E) (denF E (j + 1)) (j + 1) 3 0 s hs hsK 3 st M h1 hst
    simp [Fn.f_haulageref07_One, w3, y3]
    refine (hl _ _ rfl ⟨rfl, rfl, rfl, rfl⟩).mono ?_
    rintro e st ⟨rfl, q1, q2, q3⟩
    obtain ⟨ts, m', ds⟩ := st
    simp only at q1 q2 q3
    subst q1
    have el := esc_len s
    have hlim : (esc s).length + 1 + 2 ≤ strLim := by unfold strLim; omega
    match ts, q2, q3 with
    | t0 :: t1 :: t2 :: t3 :: t4 :: t5 :: t6 :: t7 :: t8 :: t9 :: t10 :: t11 :: t12 :: t13 :: t14 :: t15 :: t16 :: t17 :: t18 :: t19 :: t20 :: t21 :: t22 :: t23 :: t24 :: t25 :: t26 :: t27 :: t28 :: t29 :: t30 :: t31 :: t32 :: t33 :: t34 :: t35 :: t36 :: t37 :: t38 :: t39 :: t40 :: t41 :: t42 :: t43 :: t44 :: t45 :: t46 :: t47 :: t48 :: t49 :: t50 :: t51 :: t52 :: t53 :: t54 :: t55 :: t56 :: t57 :: t58 :: t59 :: t60 :: t61 :: t62 :: t63 :: t64 :: t65 :: t66 :: t67 :: [], q2, q3 =>
      simp only [getD_zero', getD_succ'] at q3
      subst q3
      simp [hlim]
  · have hl := fun st M h1 hst => one_loop (E := E) (denF E (j + 1)) (j + 1) 4 0 s hs hsK 4 st M h1 hst
    simp [Fn.f_haulageref07_One, w4, y4]
    refine (hl _ _ rfl ⟨rfl, rfl, rfl, rfl⟩).mono ?_
    rintro e st ⟨rfl, q1, q2, q3⟩
    obtain ⟨ts, m', ds⟩ := st
    simp only at q1 q2 q3
    subst q1
    have el := esc_len s
    have hlim : (esc s).length + 1 + 2 ≤ strLim := by unfold strLim; omega
    match ts, q2, q3 with
    | t0 :: t1 :: t2 :: t3 :: t4 :: t5 :: t6 :: t7 :: t8 :: t9 :: t10 :: t11 :: t12 :: t13 :: t14 :: t15 :: t16 :: t17 :: t18 :: t19 :: t20 :: t21 :: t22 :: t23 :: t24 :: t25 :: t26 :: t27 :: t28 :: t29 :: t30 :: t31 :: t32 :: t33 :: t34 :: t35 :: t36 :: t37 :: t38 :: t39 :: t40 :: t41 :: t42 :: t43 :: t44 :: t45 :: t46 :: t47 :: t48 :: t49 :: t50 :: t51 :: t52 :: t53 :: t54 :: t55 :: t56 :: t57 :: t58 :: t59 :: t60 :: t61 :: t62 :: t63 :: t64 :: t65 :: t66 :: t67 :: [], q2, q3 =>
      simp only [getD_zero', getD_succ'] at q3
      subst q3
      simp [hlim]
/-! ### lists of values -/
def rowV (p : Int × Int × List UInt8) : List PV := [.int .i64 p.1, .int .i64 p.2.1, .str p.2.2]
def IsVals (v : PV) (l : List (Int × Int × List UInt8)) : Prop := (v = .nils ∧ l = []) ∨ v = .vals 3 (l.map rowV)
theorem conf_vals {x : PV} (h : Conf (.slice 3 [.int .i64, .int .i64, .str]) x) : ∃ l : List (Int × Int × List UInt8), IsVals x l ∧ ∀ p ∈ l, isI64 p.1 ∧ isI64 p.2.1 := by
  simp only [Conf] at h
  rcases h with rfl | ⟨rows, rfl, hq, h⟩
  · exact ⟨[], .inl ⟨rfl, rfl⟩, by simp⟩
  · have : ∃ l : List (Int × Int × List UInt8), rows = l.map rowV ∧ ∀ p ∈ l, isI64 p.1 ∧ isI64 p.2.1 := by
      clear hq
      induction rows with
      | nil => exact ⟨[], rfl, by simp⟩
      | cons r rows ih =>
        obtain ⟨l, rfl, hl⟩ := ih fun q hq => h q (List.mem_cons_of_mem _ hq)
        have := h r (by simp)
        simp only [Confs, Conf] at this
        obtain ⟨_, _, rfl, ⟨a, rfl, h1, h2⟩, _, _, rfl, ⟨b, rfl, h3, h4⟩, _, _, rfl, ⟨s, rfl, h5⟩, rfl⟩ := this
        refine ⟨(a, b, s) :: l, rfl, ?_⟩
        intro p hp
        rcases List.mem_cons.1 hp with rfl | hp
        · exact ⟨⟨h1, h2⟩, ⟨h3, h4⟩⟩
        · exact hl p hp
    obtain ⟨l, rfl, hl⟩ := this
    exact ⟨l, .inr rfl, hl⟩
theorem vals_len {v : PV} {l : List (Int × Int × List UInt8)} (h : IsVals v l) : lenV (.p v) = some l.length := by
  rcases h with ⟨rfl, rfl⟩ | rfl <;> simp [lenV]
theorem vals_at {v : PV} {l : List (Int × Int × List UInt8)} (h : IsVals v l) {i : Nat} {p : Int × Int × List UInt8} (hi : l[i]? = some p) : v = .vals 3 (l.map rowV) ∧ (l.map rowV)[i]? = some [.int .i64 p.1, .int .i64 p.2.1, .str p.2.2] := by
  rcases h with ⟨_, rfl⟩ | rfl
  · simp at hi
  · exact ⟨rfl, by rw [List.getElem?_map, hi]; rfl⟩
def rightP (p : Int × Int × List UInt8) : Bool := rightV p.1 p.2.1 p.2.2
def keyP (p : Int × Int × List UInt8) : List UInt8 := keyOf p.1 p.2.1 p.2.2
def keysOf (l : List (Int × Int × List UInt8)) : List UInt8 := l.flatMap keyP
def fewV (l : List (Int × Int × List UInt8)) : Bool := decide (l.length ≤ 12) && l.all fun p => decide (p.2.2.length ≤ 300)
end Hx
