/-
  HxU05f: the document's Number, whole.
-/
import Derived.Test.YtifcegbomagcpaaDoorHxU05e
namespace Hx
open Go
set_option linter.unusedSimpArgs false
set_option linter.unusedVariables false
set_option maxHeartbeats 8000000
variable {E : Env}
attribute [-simp] List.getD_eq_getElem?_getD getElem?_pos
theorem wrapped_digits {neg : Bool} {D : List UInt8} (hD : ∀ c ∈ D, isDig c = true) (hb : bad0 neg D = false) (hl : D.length ≤ 19) :
    (numVal 0 D ≤ mostOf neg ∧ digits (if neg then -(numVal 0 D : Int) else numVal 0 D) = (if neg then 45 :: D else D)) ∨
    (mostOf neg < numVal 0 D ∧ digits (IntKind.i64.wrap (if neg then -(numVal 0 D : Int) else numVal 0 D)) ≠ (if neg then 45 :: D else D)) := by
  have hne : D ≠ [] := by rintro rfl; simp [bad0] at hb
  have h48 : D.head? = some 48 → neg = false ∧ D = [48] := by
    intro h
    unfold bad0 at hb
    simp only [Bool.or_eq_false_iff, Bool.and_eq_false_iff] at hb
    rcases hb.2 with h1 | h1
    · rw [h] at h1; simp at h1
    · refine ⟨h1.1, ?_⟩
      have h2 := h1.2
      simp at h2
      cases D with
      | nil => exact absurd rfl hne
      | cons c r =>
        simp at h2 h
        subst h
        rw [h2]
  have hdg : digs (numVal 0 D) = D := digs_of_run hD hne (fun h => (h48 h).2)
  have hlt := numVal_lt 0 D hD
  have h19 : 10 ^ D.length ≤ 10 ^ 19 := Nat.pow_le_pow_right (by omega) hl
  have hz : neg = true → 0 < numVal 0 D := by
    intro hn
    rcases Nat.eq_zero_or_pos (numVal 0 D) with h | h
    · rw [h, digs_small (by omega)] at hdg
      have : D.head? = some 48 := by rw [← hdg]; rfl
      rw [(h48 this).1] at hn
      cases hn
    · exact h
  have hno : ∀ t, D ≠ 45 :: t := by
    rintro t rfl
    have := hD 45 (by simp)
    revert this
    decide
  by_cases hr : numVal 0 D ≤ mostOf neg
  · refine .inl ⟨hr, ?_⟩
    cases neg with
    | true =>
      have := hz rfl
      simp only [if_true]
      unfold digits
      rw [if_pos (by omega), Int.natAbs_neg, Int.natAbs_natCast, hdg]
    | false =>
      simp only [Bool.false_eq_true, if_false]
      unfold digits
      rw [if_neg (by omega), Int.natAbs_natCast, hdg]
  · refine .inr ⟨by omega, fun h => ?_⟩
    generalize hv : numVal 0 D = v at *
    have hv19 : v < 10 ^ 19 := by omega
    cases neg with
    | true =>
      simp only [if_true] at h
      unfold mostOf at hr
      simp only [if_true] at hr
      have hw := w64 (-(v : Int))
      generalize IntKind.i64.wrap (-(v : Int)) = x at *
      unfold digits at h
      split at h
      · have h2 := List.tail_eq_of_cons_eq h
        rw [← hdg] at h2
        have := digs_inj _ _ _ (Nat.le_refl _) h2
        omega
      · have := digs_mem (c := 45) _ _ (Nat.le_refl _) (by rw [h]; simp)
        simp at this
    | false =>
      simp only [Bool.false_eq_true, if_false] at h
      unfold mostOf at hr
      simp only [Bool.false_eq_true, if_false] at hr
      have hw := w64 (v : Int)
      generalize IntKind.i64.wrap (v : Int) = x at *
      unfold digits at h
      split at h
      · exact hno _ h.symm
      · rw [← hdg] at h
        have := digs_inj _ _ _ (Nat.le_refl _) h
        omega
theorem too_long {neg : Bool} {D : List UInt8} (hD : ∀ c ∈ D, isDig c = true) (hb : bad0 neg D = false) (hl : 19 < D.length) : mostOf neg < numVal 0 D := by
  have hne : D ≠ [] := by rintro rfl; simp at hl
  have h48 : D.head? = some 48 → D = [48] := by
    intro h
    unfold bad0 at hb
    simp only [Bool.or_eq_false_iff, Bool.and_eq_false_iff] at hb
    rcases hb.2 with h1 | h1
    · rw [h] at h1; simp at h1
    · have h2 := h1.2
      simp at h2
      omega
  have hdg : digs (numVal 0 D) = D := digs_of_run hD hne h48
  rcases Nat.lt_or_ge (mostOf neg) (numVal 0 D) with h | h
  · exact h
  · have : mostOf neg ≤ 9223372036854775808 := by unfold mostOf; split <;> omega
    have := digs_len 18 (numVal 0 D) (by omega)
    rw [hdg] at this
    omega
def numTail : XCode := match Fn.f_haulageref05_Number.body with
  | .seq _ (.seq _ (.seq _ (.seq _ (.seq _ c)))) => c
  | _ => .skip
def numTail2 : XCode := match numTail with
  | .seq _ c => c
  | _ => .skip
def numTail1 : XCode := match numTail with
  | .seq a _ => a
  | _ => .skip
theorem numTail_eq : numTail = .seq numTail1 numTail2 := rfl
theorem rn_good_true (u : M05 E) (j : Nat) (s D : List UInt8) (e0 : Nat) (hs : (s.length : Int) ≤ 1000000000) (hD : ∀ c ∈ D, isDig c = true) (he : e0 = 1 + D.length) (hse : e0 ≤ s.length) (hcut : (s.take e0).drop 1 = D) (hfull : s.take e0 = 45 :: D) (hb0 : bad0 true D = false) (st : St)
    (q1 : st.ds = []) (q2 : st.m = []) (hl : st.ts.length = 90) (h0 : st.ts.getD 0 (.tup []) = .p (.str s)) (h5 : st.ts.getD 5 (.tup []) = .p (.int .i64 1)) (h6 : st.ts.getD 6 (.tup []) = .p (.int .i64 e0)) :
    Wp (den E (denF E (j + 22)) (j + 22) numTail2 st) (fun e st => e = .ret ∧ st.ds = [] ∧ ∃ n size er, numO true D = numT n size er ∧ st.ts.getD 2 (.tup []) = .p (.int .i64 n) ∧ st.ts.getD 3 (.tup []) = .p (.int .i64 size) ∧ st.ts.getD 4 (.tup []) = .p (.int .i64 er)) := by
  obtain ⟨ts, m', ds⟩ := st
  simp only at q1 q2 hl h0 h5 h6
  subst q1 q2
  have w2 : IntKind.i64.wrap ((e0 : Int) - 1) = (e0 : Int) - 1 := wrap_i64 (by omega) (by omega)
  have w0 : IntKind.i64.wrap (e0 : Int) = e0 := wrap_i64 (by omega) (by omega)
  match ts, hl, h0, h5, h6 with
  | t0 :: t1 :: t2 :: t3 :: t4 :: t5 :: t6 :: t7 :: t8 :: t9 :: t10 :: t11 :: t12 :: t13 :: t14 :: t15 :: t16 :: t17 :: t18 :: t19 :: t20 :: t21 :: t22 :: t23 :: t24 :: t25 :: t26 :: t27 :: t28 :: t29 :: t30 :: t31 :: t32 :: t33 :: t34 :: t35 :: t36 :: t37 :: t38 :: t39 :: t40 :: t41 :: t42 :: t43 :: t44 :: t45 :: t46 :: t47 :: t48 :: t49 :: t50 :: t51 :: t52 :: t53 :: t54 :: t55 :: t56 :: t57 :: t58 :: t59 :: t60 :: t61 :: t62 :: t63 :: t64 :: t65 :: t66 :: t67 :: t68 :: t69 :: t70 :: t71 :: t72 :: t73 :: t74 :: t75 :: t76 :: t77 :: t78 :: t79 :: t80 :: t81 :: t82 :: t83 :: t84 :: t85 :: t86 :: t87 :: t88 :: t89 :: [], hl, h0, h5, h6 =>
    simp only [getD_zero', getD_succ'] at h0 h5 h6
    subst h0 h5 h6
    by_cases h19 : 19 < D.length
    · have hO : numO true D = numT 0 0 10 := by
        unfold numO
        rw [hb0]
        have := too_long hD hb0 h19
        rw [if_neg (by simp), if_neg (by omega)]
      have g : (19 : Int) < (e0 : Int) - 1 := by omega
      have g' : (19 : Int) < (e0 : Int) := by omega
      simp (maxSteps := 1000000) [numTail2, numTail, Fn.f_haulageref05_Number, w2, w0, g, g']
      exact ⟨0, 0, 10, hO, rfl, rfl, rfl⟩
    · have g : ¬ (19 : Int) < (e0 : Int) - 1 := by omega
      have hw := wrapped_digits hD hb0 (by omega)
      simp (maxSteps := 1000000) [numTail2, numTail, Fn.f_haulageref05_Number, w2, w0, g]
      refine (refnum_val (E := E) (j + 22) _ s D 1 e0 hD he hse hcut (by omega) (by omega) (by omega) _ ⟨rfl, rfl, rfl, rfl⟩).mono ?_
      rintro e st ⟨rfl, p1, p2, p3, p4, p5, p6, p7⟩
      obtain ⟨us, m2, ds⟩ := st
      simp only at p1 p2 p3 p4 p5 p6 p7
      subst p1 p2
      match us, p3, p4, p5, p6, p7 with
      | u0 :: u1 :: u2 :: u3 :: u4 :: u5 :: u6 :: u7 :: u8 :: u9 :: u10 :: u11 :: u12 :: u13 :: u14 :: u15 :: u16 :: u17 :: u18 :: u19 :: u20 :: u21 :: u22 :: u23 :: u24 :: u25 :: u26 :: u27 :: u28 :: u29 :: u30 :: u31 :: u32 :: u33 :: u34 :: u35 :: u36 :: u37 :: u38 :: u39 :: u40 :: u41 :: u42 :: u43 :: u44 :: u45 :: u46 :: u47 :: u48 :: u49 :: u50 :: u51 :: u52 :: u53 :: u54 :: u55 :: u56 :: u57 :: u58 :: u59 :: u60 :: u61 :: u62 :: u63 :: u64 :: u65 :: u66 :: u67 :: u68 :: u69 :: u70 :: u71 :: u72 :: u73 :: u74 :: u75 :: u76 :: u77 :: u78 :: u79 :: u80 :: u81 :: u82 :: u83 :: u84 :: u85 :: u86 :: u87 :: u88 :: u89 :: [], p3, p4, p5, p6, p7 =>
        simp only [getD_zero', getD_succ'] at p4 p5 p6 p7
        subst p4 p5 p6 p7
        obtain ⟨x, hx⟩ : ∃ x, x = IntKind.i64.wrap (-(numVal 0 D : Int)) := ⟨_, rfl⟩
        have hxr : -9223372036854775808 ≤ x ∧ x ≤ 9223372036854775807 := by rw [hx, w64]; omega
        have xr := hx.symm
        have hdig := fun m => ref_Digits' u.rdigits x hxr.1 hxr.2 j m
        have p40 : Fn.f_haulageref05_Digits.pure = true := rfl
        have f40 := u.rdigits
        have hV0 : mostOf true ≤ 9223372036854775808 := by unfold mostOf; split <;> omega
        have he0' : ((e0 : Nat) : Int) = ((ahead true + D.length : Nat) : Int) := by rw [he]; rfl
        rcases hw with ⟨v1, v2⟩ | ⟨v1, v2⟩
        · have hx2 : x = (-(numVal 0 D : Int)) := by
            rw [hx, w64]
            unfold mostOf at v1
            simp only [if_true, if_false, Bool.false_eq_true] at v1
            omega
          simp only [if_true, if_false, Bool.false_eq_true] at v2
          rw [← hx2] at v2
          have hbq : (digits x == s.take e0) = true := by rw [v2, hfull]; simp
          have hO : numO true D = numT x e0 0 := by
            unfold numO
            rw [hb0, if_neg (by simp), if_pos v1, ← he0', hx2]
            rfl
          generalize digits x = DX at *
          simp (maxSteps := 1000000) [← hx, hdig, p40, f40, hse, hbq, bne]
          exact ⟨x, e0, 0, hO, rfl, rfl, rfl⟩
        · simp only [if_true, if_false, Bool.false_eq_true] at v2
          rw [← hx, ← hfull] at v2
          have hbq : (digits x == s.take e0) = false := by simpa using v2
          have hO : numO true D = numT 0 0 10 := by
            unfold numO
            rw [hb0, if_neg (by simp), if_neg (by omega)]
          generalize digits x = DX at *
          simp (maxSteps := 1000000) [← hx, hdig, p40, f40, hse, hbq, bne]
          exact ⟨0, 0, 10, hO, rfl, rfl, rfl⟩
theorem rn_tail_true (u : M05 E) (j : Nat) (s D : List UInt8) (e0 : Nat) (hs : (s.length : Int) ≤ 1000000000) (hD : ∀ c ∈ D, isDig c = true) (he : e0 = 1 + D.length) (hse : e0 ≤ s.length) (hcut : (s.take e0).drop 1 = D) (hfull : s.take e0 = 45 :: D) (ts : List AV) (hl : ts.length = 90)
    (h0 : ts.getD 0 (.tup []) = .p (.str s)) (h5 : ts.getD 5 (.tup []) = .p (.int .i64 1)) (h6 : ts.getD 6 (.tup []) = .p (.int .i64 e0)) :
    Wp (den E (denF E (j + 22)) (j + 22) numTail ⟨ts, [], []⟩) (fun e st => e = .ret ∧ st.ds = [] ∧ ∃ n size er, numO true D = numT n size er ∧ st.ts.getD 2 (.tup []) = .p (.int .i64 n) ∧ st.ts.getD 3 (.tup []) = .p (.int .i64 size) ∧ st.ts.getD 4 (.tup []) = .p (.int .i64 er)) := by
  rw [numTail_eq]
  have v1 : IntKind.i64.wrap 1 = 1 := rfl
  have v2 : IntKind.i64.wrap 2 = 2 := rfl
  match ts, hl, h0, h5, h6 with
  | t0 :: t1 :: t2 :: t3 :: t4 :: t5 :: t6 :: t7 :: t8 :: t9 :: t10 :: t11 :: t12 :: t13 :: t14 :: t15 :: t16 :: t17 :: t18 :: t19 :: t20 :: t21 :: t22 :: t23 :: t24 :: t25 :: t26 :: t27 :: t28 :: t29 :: t30 :: t31 :: t32 :: t33 :: t34 :: t35 :: t36 :: t37 :: t38 :: t39 :: t40 :: t41 :: t42 :: t43 :: t44 :: t45 :: t46 :: t47 :: t48 :: t49 :: t50 :: t51 :: t52 :: t53 :: t54 :: t55 :: t56 :: t57 :: t58 :: t59 :: t60 :: t61 :: t62 :: t63 :: t64 :: t65 :: t66 :: t67 :: t68 :: t69 :: t70 :: t71 :: t72 :: t73 :: t74 :: t75 :: t76 :: t77 :: t78 :: t79 :: t80 :: t81 :: t82 :: t83 :: t84 :: t85 :: t86 :: t87 :: t88 :: t89 :: [], hl, h0, h5, h6 =>
    simp only [getD_zero', getD_succ'] at h0 h5 h6
    subst h0 h5 h6
    cases D with
    | nil =>
      have : e0 = 1 := by rw [he]; rfl
      subst this
      have hO : numO true [] = numT 0 0 5 := rfl
      simp (maxSteps := 1000000) [numTail1, numTail, Fn.f_haulageref05_Number, v1, v2]
      exact ⟨0, 0, 5, hO, rfl, rfl, rfl⟩
    | cons c r =>
      have hc : s[1]? = some c := by
        have h1 : ((s.take e0).drop 1)[0]? = some c := by rw [hcut]; rfl
        rw [List.getElem?_drop] at h1
        have hlt : 1 < e0 := by rw [he]; simp
        rwa [Nat.add_zero, List.getElem?_take_of_lt hlt] at h1
      have e48 : (c == 48) = ((c.toNat : Int) == 48) := u8_beq
      have hel : e0 = 1 + (r.length + 1) := by rw [he]; simp
      have g1 : ((e0 : Int) == 1) = false := by simp; omega
      have w1 : IntKind.i64.wrap ((1 : Int) + 1) = (1 : Int) + 1 := rfl
      have w1' : IntKind.i64.wrap (1 + 1 : Int) = (1 : Int) + 1 := rfl
      have w2 : IntKind.i64.wrap ((e0 : Int) - 1) = (e0 : Int) - 1 := wrap_i64 (by omega) (by omega)
      have w0 : IntKind.i64.wrap (e0 : Int) = e0 := wrap_i64 (by omega) (by omega)
      have good : bad0 true (c :: r) = false → ∀ st : St, st.ds = [] → st.m = [] → st.ts.length = 90 → st.ts.getD 0 (.tup []) = .p (.str s) → st.ts.getD 5 (.tup []) = .p (.int .i64 1) → st.ts.getD 6 (.tup []) = .p (.int .i64 e0) →
          Wp (den E (denF E (j + 22)) (j + 22) numTail2 st) (fun e st => e = .ret ∧ st.ds = [] ∧ ∃ n size er, numO true (c :: r) = numT n size er ∧ st.ts.getD 2 (.tup []) = .p (.int .i64 n) ∧ st.ts.getD 3 (.tup []) = .p (.int .i64 size) ∧ st.ts.getD 4 (.tup []) = .p (.int .i64 er)) := by
        intro hb0 st q1 q2 q3 q4 q5 q6
        exact rn_good_true u j s (c :: r) e0 hs hD he hse hcut hfull hb0 st q1 q2 q3 q4 q5 q6
      cases hz : ((c.toNat : Int) == 48) with
      | false =>
        rw [hz] at e48
        have hb0 : bad0 true (c :: r) = false := by simp [bad0, e48]
        simp (maxSteps := 1000000) [numTail1, numTail, Fn.f_haulageref05_Number, v1, v2, hc, hz, g1, w1, w0]
        exact good hb0 _ rfl rfl rfl rfl rfl rfl
      | true =>
        rw [hz] at e48
        have hb0 : bad0 true (c :: r) = true := by simp [bad0, e48]
        have hO : numO true (c :: r) = numT 0 0 5 := by unfold numO; rw [hb0]; rfl
        by_cases hr : (2 : Int) < e0
        · simp (maxSteps := 1000000) [numTail1, numTail, Fn.f_haulageref05_Number, v1, v2, hc, hz, g1, w1, w0, hr]
          exact ⟨0, 0, 5, hO, rfl, rfl, rfl⟩
        · simp (maxSteps := 1000000) [numTail1, numTail, Fn.f_haulageref05_Number, v1, v2, hc, hz, g1, w1, w0, hr]
          exact ⟨0, 0, 5, hO, rfl, rfl, rfl⟩
theorem rn_good_false (u : M05 E) (j : Nat) (s D : List UInt8) (e0 : Nat) (hs : (s.length : Int) ≤ 1000000000) (hD : ∀ c ∈ D, isDig c = true) (he : e0 = 0 + D.length) (hse : e0 ≤ s.length) (hcut : (s.take e0).drop 0 = D) (hfull : s.take e0 = D) (hb0 : bad0 false D = false) (st : St)
    (q1 : st.ds = []) (q2 : st.m = []) (hl : st.ts.length = 90) (h0 : st.ts.getD 0 (.tup []) = .p (.str s)) (h5 : st.ts.getD 5 (.tup []) = .p (.int .i64 0)) (h6 : st.ts.getD 6 (.tup []) = .p (.int .i64 e0)) :
    Wp (den E (denF E (j + 22)) (j + 22) numTail2 st) (fun e st => e = .ret ∧ st.ds = [] ∧ ∃ n size er, numO false D = numT n size er ∧ st.ts.getD 2 (.tup []) = .p (.int .i64 n) ∧ st.ts.getD 3 (.tup []) = .p (.int .i64 size) ∧ st.ts.getD 4 (.tup []) = .p (.int .i64 er)) := by
  obtain ⟨ts, m', ds⟩ := st
  simp only at q1 q2 hl h0 h5 h6
  subst q1 q2
  have w2 : IntKind.i64.wrap ((e0 : Int) - 0) = (e0 : Int) - 0 := wrap_i64 (by omega) (by omega)
  have w0 : IntKind.i64.wrap (e0 : Int) = e0 := wrap_i64 (by omega) (by omega)
  match ts, hl, h0, h5, h6 with
  | t0 :: t1 :: t2 :: t3 :: t4 :: t5 :: t6 :: t7 :: t8 :: t9 :: t10 :: t11 :: t12 :: t13 :: t14 :: t15 :: t16 :: t17 :: t18 :: t19 :: t20 :: t21 :: t22 :: t23 :: t24 :: t25 :: t26 :: t27 :: t28 :: t29 :: t30 :: t31 :: t32 :: t33 :: t34 :: t35 :: t36 :: t37 :: t38 :: t39 :: t40 :: t41 :: t42 :: t43 :: t44 :: t45 :: t46 :: t47 :: t48 :: t49 :: t50 :: t51 :: t52 :: t53 :: t54 :: t55 :: t56 :: t57 :: t58 :: t59 :: t60 :: t61 :: t62 :: t63 :: t64 :: t65 :: t66 :: t67 :: t68 :: t69 :: t70 :: t71 :: t72 :: t73 :: t74 :: t75 :: t76 :: t77 :: t78 :: t79 :: t80 :: t81 :: t82 :: t83 :: t84 :: t85 :: t86 :: t87 :: t88 :: t89 :: [], hl, h0, h5, h6 =>
    simp only [getD_zero', getD_succ'] at h0 h5 h6
    subst h0 h5 h6
    by_cases h19 : 19 < D.length
    · have hO : numO false D = numT 0 0 10 := by
        unfold numO
        rw [hb0]
        have := too_long hD hb0 h19
        rw [if_neg (by simp), if_neg (by omega)]
      have g : (19 : Int) < (e0 : Int) - 0 := by omega
      have g' : (19 : Int) < (e0 : Int) := by omega
      simp (maxSteps := 1000000) [numTail2, numTail, Fn.f_haulageref05_Number, w2, w0, g, g']
      exact ⟨0, 0, 10, hO, rfl, rfl, rfl⟩
    · have g : ¬ (19 : Int) < (e0 : Int) - 0 := by omega
      have hw := wrapped_digits hD hb0 (by omega)
      simp (maxSteps := 1000000) [numTail2, numTail, Fn.f_haulageref05_Number, w2, w0, g, (show ¬ (19 : Int) < (e0 : Int) by omega)]
      refine (refnum_val (E := E) (j + 22) _ s D 0 e0 hD he hse hcut (by omega) (by omega) (by omega) _ ⟨rfl, rfl, rfl, rfl⟩).mono ?_
      rintro e st ⟨rfl, p1, p2, p3, p4, p5, p6, p7⟩
      obtain ⟨us, m2, ds⟩ := st
      simp only at p1 p2 p3 p4 p5 p6 p7
      subst p1 p2
      match us, p3, p4, p5, p6, p7 with
      | u0 :: u1 :: u2 :: u3 :: u4 :: u5 :: u6 :: u7 :: u8 :: u9 :: u10 :: u11 :: u12 :: u13 :: u14 :: u15 :: u16 :: u17 :: u18 :: u19 :: u20 :: u21 :: u22 :: u23 :: u24 :: u25 :: u26 :: u27 :: u28 :: u29 :: u30 :: u31 :: u32 :: u33 :: u34 :: u35 :: u36 :: u37 :: u38 :: u39 :: u40 :: u41 :: u42 :: u43 :: u44 :: u45 :: u46 :: u47 :: u48 :: u49 :: u50 :: u51 :: u52 :: u53 :: u54 :: u55 :: u56 :: u57 :: u58 :: u59 :: u60 :: u61 :: u62 :: u63 :: u64 :: u65 :: u66 :: u67 :: u68 :: u69 :: u70 :: u71 :: u72 :: u73 :: u74 :: u75 :: u76 :: u77 :: u78 :: u79 :: u80 :: u81 :: u82 :: u83 :: u84 :: u85 :: u86 :: u87 :: u88 :: u89 :: [], p3, p4, p5, p6, p7 =>
        simp only [getD_zero', getD_succ'] at p4 p5 p6 p7
        subst p4 p5 p6 p7
        obtain ⟨x, hx⟩ : ∃ x, x = IntKind.i64.wrap (numVal 0 D : Int) := ⟨_, rfl⟩
        have hxr : -9223372036854775808 ≤ x ∧ x ≤ 9223372036854775807 := by rw [hx, w64]; omega
        have xr : IntKind.i64.wrap (0 - IntKind.i64.wrap (-(numVal 0 D : Int))) = x := by
          rw [hx]
          generalize numVal 0 D = v
          rw [w64, w64, w64]
          omega
        have xr2 : IntKind.i64.wrap (-IntKind.i64.wrap (-(numVal 0 D : Int))) = x := by
          rw [← xr, Int.zero_sub]
        have hdig := fun m => ref_Digits' u.rdigits x hxr.1 hxr.2 j m
        have p40 : Fn.f_haulageref05_Digits.pure = true := rfl
        have f40 := u.rdigits
        have hV0 : mostOf false ≤ 9223372036854775808 := by unfold mostOf; split <;> omega
        have he0' : ((e0 : Nat) : Int) = ((ahead false + D.length : Nat) : Int) := by rw [he]; rfl
        rcases hw with ⟨v1, v2⟩ | ⟨v1, v2⟩
        · have hx2 : x = (numVal 0 D : Int) := by
            rw [hx, w64]
            unfold mostOf at v1
            simp only [if_true, if_false, Bool.false_eq_true] at v1
            omega
          simp only [if_true, if_false, Bool.false_eq_true] at v2
          rw [← hx2] at v2
          have hbq : (digits x == s.take e0) = true := by rw [v2, hfull]; simp
          have hO : numO false D = numT x e0 0 := by
            unfold numO
            rw [hb0, if_neg (by simp), if_pos v1, ← he0', hx2]
            rfl
          generalize digits x = DX at *
          simp (maxSteps := 1000000) [xr, xr2, hdig, p40, f40, hse, hbq, bne]
          exact ⟨x, e0, 0, hO, rfl, rfl, rfl⟩
        · simp only [if_true, if_false, Bool.false_eq_true] at v2
          rw [← hx, ← hfull] at v2
          have hbq : (digits x == s.take e0) = false := by simpa using v2
          have hO : numO false D = numT 0 0 10 := by
            unfold numO
            rw [hb0, if_neg (by simp), if_neg (by omega)]
          generalize digits x = DX at *
          simp (maxSteps := 1000000) [xr, xr2, hdig, p40, f40, hse, hbq, bne]
          exact ⟨0, 0, 10, hO, rfl, rfl, rfl⟩
theorem rn_tail_false (u : M05 E) (j : Nat) (s D : List UInt8) (e0 : Nat) (hs : (s.length : Int) ≤ 1000000000) (hD : ∀ c ∈ D, isDig c = true) (he : e0 = 0 + D.length) (hse : e0 ≤ s.length) (hcut : (s.take e0).drop 0 = D) (hfull : s.take e0 = D) (ts : List AV) (hl : ts.length = 90)
    (h0 : ts.getD 0 (.tup []) = .p (.str s)) (h5 : ts.getD 5 (.tup []) = .p (.int .i64 0)) (h6 : ts.getD 6 (.tup []) = .p (.int .i64 e0)) :
    Wp (den E (denF E (j + 22)) (j + 22) numTail ⟨ts, [], []⟩) (fun e st => e = .ret ∧ st.ds = [] ∧ ∃ n size er, numO false D = numT n size er ∧ st.ts.getD 2 (.tup []) = .p (.int .i64 n) ∧ st.ts.getD 3 (.tup []) = .p (.int .i64 size) ∧ st.ts.getD 4 (.tup []) = .p (.int .i64 er)) := by
  rw [numTail_eq]
  have v1 : IntKind.i64.wrap 1 = 1 := rfl
  have v2 : IntKind.i64.wrap 2 = 2 := rfl
  match ts, hl, h0, h5, h6 with
  | t0 :: t1 :: t2 :: t3 :: t4 :: t5 :: t6 :: t7 :: t8 :: t9 :: t10 :: t11 :: t12 :: t13 :: t14 :: t15 :: t16 :: t17 :: t18 :: t19 :: t20 :: t21 :: t22 :: t23 :: t24 :: t25 :: t26 :: t27 :: t28 :: t29 :: t30 :: t31 :: t32 :: t33 :: t34 :: t35 :: t36 :: t37 :: t38 :: t39 :: t40 :: t41 :: t42 :: t43 :: t44 :: t45 :: t46 :: t47 :: t48 :: t49 :: t50 :: t51 :: t52 :: t53 :: t54 :: t55 :: t56 :: t57 :: t58 :: t59 :: t60 :: t61 :: t62 :: t63 :: t64 :: t65 :: t66 :: t67 :: t68 :: t69 :: t70 :: t71 :: t72 :: t73 :: t74 :: t75 :: t76 :: t77 :: t78 :: t79 :: t80 :: t81 :: t82 :: t83 :: t84 :: t85 :: t86 :: t87 :: t88 :: t89 :: [], hl, h0, h5, h6 =>
    simp only [getD_zero', getD_succ'] at h0 h5 h6
    subst h0 h5 h6
    cases D with
    | nil =>
      have : e0 = 0 := by rw [he]; rfl
      subst this
      have hO : numO false [] = numT 0 0 5 := rfl
      simp (maxSteps := 1000000) [numTail1, numTail, Fn.f_haulageref05_Number, v1, v2]
      exact ⟨0, 0, 5, hO, rfl, rfl, rfl⟩
    | cons c r =>
      have hc : s[0]? = some c := by
        have h1 : ((s.take e0).drop 0)[0]? = some c := by rw [hcut]; rfl
        rw [List.getElem?_drop] at h1
        have hlt : 0 < e0 := by rw [he]; simp
        rwa [Nat.add_zero, List.getElem?_take_of_lt hlt] at h1
      have e48 : (c == 48) = ((c.toNat : Int) == 48) := u8_beq
      have hel : e0 = 0 + (r.length + 1) := by rw [he]; simp
      have g1 : ((e0 : Int) == 0) = false := by simp; omega
      have w1 : IntKind.i64.wrap ((0 : Int) + 1) = (0 : Int) + 1 := rfl
      have w1' : IntKind.i64.wrap (0 + 1 : Int) = (0 : Int) + 1 := rfl
      have w2 : IntKind.i64.wrap ((e0 : Int) - 0) = (e0 : Int) - 0 := wrap_i64 (by omega) (by omega)
      have w0 : IntKind.i64.wrap (e0 : Int) = e0 := wrap_i64 (by omega) (by omega)
      have good : bad0 false (c :: r) = false → ∀ st : St, st.ds = [] → st.m = [] → st.ts.length = 90 → st.ts.getD 0 (.tup []) = .p (.str s) → st.ts.getD 5 (.tup []) = .p (.int .i64 0) → st.ts.getD 6 (.tup []) = .p (.int .i64 e0) →
          Wp (den E (denF E (j + 22)) (j + 22) numTail2 st) (fun e st => e = .ret ∧ st.ds = [] ∧ ∃ n size er, numO false (c :: r) = numT n size er ∧ st.ts.getD 2 (.tup []) = .p (.int .i64 n) ∧ st.ts.getD 3 (.tup []) = .p (.int .i64 size) ∧ st.ts.getD 4 (.tup []) = .p (.int .i64 er)) := by
        intro hb0 st q1 q2 q3 q4 q5 q6
        exact rn_good_false u j s (c :: r) e0 hs hD he hse hcut hfull hb0 st q1 q2 q3 q4 q5 q6
      cases hz : ((c.toNat : Int) == 48) with
      | false =>
        rw [hz] at e48
        have hb0 : bad0 false (c :: r) = false := by simp [bad0, e48]
        simp (maxSteps := 1000000) [numTail1, numTail, Fn.f_haulageref05_Number, v1, v2, hc, hz, g1, w1, w0]
        exact good hb0 _ rfl rfl rfl rfl rfl rfl
      | true =>
        rw [hz] at e48
        by_cases hr : r = []
        · subst hr
          have hb0 : bad0 false [c] = false := by simp [bad0]
          have g2 : ¬ (1 : Int) < e0 := by simp at hel; omega
          simp (maxSteps := 1000000) [numTail1, numTail, Fn.f_haulageref05_Number, v1, v2, hc, hz, g1, w1, w0, g2]
          exact good hb0 _ rfl rfl rfl rfl rfl rfl
        · have hrl : 0 < r.length := by cases r with | nil => exact absurd rfl hr | cons => simp
          have hb0 : bad0 false (c :: r) = true := by simp [bad0, e48, hrl]
          have hO : numO false (c :: r) = numT 0 0 5 := by unfold numO; rw [hb0]; rfl
          have g2 : (1 : Int) < e0 := by omega
          simp (maxSteps := 1000000) [numTail1, numTail, Fn.f_haulageref05_Number, v1, v2, hc, hz, g1, w1, w0, g2]
          exact ⟨0, 0, 5, hO, rfl, rfl, rfl⟩
end Hx
