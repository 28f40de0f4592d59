/-
  HxU05g: the document's Number, whole.
-/
import Derived.Test.YtifcegbomagcpaaDoorHxU05c
namespace Hx
open Go
set_option linter.unusedSimpArgs false
set_option linter.unusedVariables false
set_option maxHeartbeats 8000000
variable {E : Env}
attribute [-simp] List.getD_eq_getElem?_getD getElem?_pos
theorem run_at {neg : Bool} {s : List UInt8} {c : UInt8} {r : List UInt8} (h : runD neg s = c :: r) : s[ahead neg]? = some c := by
  unfold runD at h
  cases hd : s.drop (ahead neg) with
  | nil => rw [hd] at h; cases h
  | cons d t =>
    rw [hd, List.takeWhile_cons] at h
    split at h
    · have := List.head_eq_of_cons_eq h
      subst this
      have e : (s.drop (ahead neg))[0]? = some d := by rw [hd]; rfl
      rw [List.getElem?_drop] at e
      simpa using e
    · cases h
theorem value_Number (u : M05 E) (s : List UInt8) (hs : (s.length : Int) ≤ 1000000000000) (k : Nat) (hk : s.length + 4 ≤ k) (m : Mem) : denF E (k + 1) 37 [.p (.str s)] m = some (.ret (numS s), m) := by
  refine denF_wp u.number rfl (args' := [.p (.str s)]) rfl ?_
  obtain ⟨j, rfl⟩ : ∃ j, k = j + 2 := ⟨k - 2, by omega⟩
  have hp := fun m => has_prefix1 u j s 45 m
  unfold numS
  have hneg : ∀ b : Bool, (s.head? == some 45) = b → ahead b ≤ s.length := by
    intro b hb
    cases b with
    | false => exact Nat.zero_le _
    | true =>
      cases s with
      | nil => simp at hb
      | cons c r => simp [ahead]
  have hlen0 := hneg _ rfl
  generalize hb : (s.head? == some 45) = neg at *
  have run := fun st h => number_run u.digit s hs neg hlen0 (j + 2) (by omega) st h
  have hat : ∀ {c : UInt8} {r : List UInt8}, runD neg s = c :: r → s[ahead neg]? = some c := run_at
  have hdg := run_digs neg s
  have hhead : neg = false → s.head? ≠ some 45 := by
    rintro rfl h
    rw [h] at hb
    simp at hb
  generalize hD : runD neg s = D at *
  have e8 : IntKind.u64.wrap 9223372036854775808 = 9223372036854775808 := rfl
  obtain ⟨e0, he⟩ : ∃ e0, e0 = ahead neg + D.length := ⟨_, rfl⟩
  rw [← he] at run
  have hbl : (byteRows D).length = D.length := by simp [byteRows]
  have hDl : (D.length : Int) ≤ 1000000000000 ∧ D.length < j + 2 := by
    have : D.length ≤ s.length := by
      rw [← hD]
      unfold runD
      have := (List.takeWhile_prefix isDig (l := s.drop (ahead neg))).length_le
      rw [List.length_drop] at this
      omega
    omega
  have val := fun end' st h => number_val (E := E) (j + 2) (denF E (j + 2)) neg D hdg hDl.1 hDl.2 end' st h
  cases neg with
  | true =>
    simp [Fn.f_value_Number, hp]
    refine (run _ ⟨rfl, rfl, rfl, rfl⟩).mono ?_
    clear run
    rintro e st ⟨rfl, q1, q2, q3, q4, q5, q6, q7, q8, q9⟩
    obtain ⟨ts, m', ds⟩ := st
    simp only at q1 q2 q3 q4 q5 q6 q7
    subst q1 q2
    match ts, q3, q4, q5, q6, q7 with
    | t0 :: t1 :: t2 :: t3 :: t4 :: t5 :: t6 :: t7 :: t8 :: t9 :: t10 :: t11 :: t12 :: t13 :: t14 :: t15 :: t16 :: t17 :: t18 :: t19 :: t20 :: t21 :: t22 :: t23 :: t24 :: t25 :: t26 :: t27 :: t28 :: t29 :: t30 :: t31 :: t32 :: t33 :: t34 :: t35 :: t36 :: t37 :: t38 :: t39 :: t40 :: t41 :: t42 :: t43 :: t44 :: t45 :: t46 :: t47 :: t48 :: t49 :: t50 :: t51 :: t52 :: t53 :: t54 :: t55 :: t56 :: t57 :: t58 :: t59 :: t60 :: t61 :: t62 :: t63 :: t64 :: t65 :: t66 :: t67 :: t68 :: t69 :: t70 :: t71 :: t72 :: t73 :: t74 :: t75 :: t76 :: t77 :: t78 :: t79 :: [], q3, q4, q5, q6, q7 =>
      simp only [ahead, getD_zero', getD_succ'] at q4 q5 q6 q7 q8 q9
      subst q4 q5 q6 q7
      cases D with
      | nil =>
        have : e0 = 1 := by rw [he]; rfl
        subst this
        simp [numO, bad0, numT]
      | cons c r =>
        have hc : s[1]? = some c := hat rfl
        have q9 : (s.take e0).tail = c :: r := by rw [← List.drop_one]; exact q9
        have e48 : (c == 48) = ((c.toNat : Int) == 48) := u8_beq
        have g1 : ((e0 : Int) == 1) = false := by simp [ahead] at he ⊢; omega
        have g2 : 1 ≤ e0 := by simp [ahead] at he; omega
        have g3 : (0 : Int) ≤ e0 := by omega
        cases hz : ((c.toNat : Int) == 48) with
        | true =>
          rw [hz] at e48
          simp [numO, bad0, numT, hc, hz, e48, g1]
        | false =>
          rw [hz] at e48
          have hb0 : bad0 true (c :: r) = false := by simp [bad0, e48]
          unfold numO
          rw [hb0]
          simp only [Bool.false_eq_true, if_false]
          simp [hc, hz, g1, g2, g3, q8, q9, e8]
          refine (val (.p (.int .i64 e0)) _ ⟨rfl, by simp [keep, Fn.f_value_Number_k1, Fn.f_value_Number_s1, mostOf, hbl], by simp [hbl], rfl⟩).mono ?_
          rintro e st ⟨p1, p2, ⟨rfl, p3, p4, p5, p6⟩ | ⟨rfl, p3, p4, p5, p6⟩⟩
          · obtain ⟨us, m2, ds⟩ := st
            simp only at p1 p2 p4 p5 p6
            subst p1
            match us, p2, p4, p5, p6 with
            | u0 :: u1 :: u2 :: u3 :: u4 :: u5 :: u6 :: u7 :: u8 :: u9 :: u10 :: u11 :: u12 :: u13 :: u14 :: u15 :: u16 :: u17 :: u18 :: u19 :: u20 :: u21 :: u22 :: u23 :: u24 :: u25 :: u26 :: u27 :: u28 :: u29 :: u30 :: u31 :: u32 :: u33 :: u34 :: u35 :: u36 :: u37 :: u38 :: u39 :: u40 :: u41 :: u42 :: u43 :: u44 :: u45 :: u46 :: u47 :: u48 :: u49 :: u50 :: u51 :: u52 :: u53 :: u54 :: u55 :: u56 :: u57 :: u58 :: u59 :: u60 :: u61 :: u62 :: u63 :: u64 :: u65 :: u66 :: u67 :: u68 :: u69 :: u70 :: u71 :: u72 :: u73 :: u74 :: u75 :: u76 :: u77 :: u78 :: u79 :: [], p2, p4, p5, p6 =>
              simp only [getD_zero', getD_succ'] at p4 p5 p6
              subst p4 p5 p6
              have p3' := p3
              unfold mostOf at p3'
              simp only [if_true, if_false, Bool.false_eq_true] at p3'
              have w1 : IntKind.i64.wrap (IntKind.u64.wrap (0 - (numVal 0 (c :: r) : Int))) = -(numVal 0 (c :: r) : Int) := by
                generalize numVal 0 (c :: r) = v at *
                simp only [IntKind.wrap, IntKind.signed, IntKind.bits]
                simp
                split <;> omega
              have w2 : IntKind.i64.wrap (IntKind.u64.wrap (-(numVal 0 (c :: r) : Int))) = -(numVal 0 (c :: r) : Int) := by have h := w1; rwa [Int.zero_sub] at h
              simp [w1, w2, numT, p3]
              try (rw [he]; simp)
          · obtain ⟨us, m2, ds⟩ := st
            simp only at p1 p2 p4 p5 p6
            subst p1
            have p3' : ¬ numVal 0 (c :: r) ≤ mostOf true := by omega
            simp [p4, p5, p6, numT, p3']
  | false =>
    simp [Fn.f_value_Number, hp]
    refine (run _ ⟨rfl, rfl, rfl, rfl⟩).mono ?_
    clear run
    rintro e st ⟨rfl, q1, q2, q3, q4, q5, q6, q7, q8, q9⟩
    obtain ⟨ts, m', ds⟩ := st
    simp only at q1 q2 q3 q4 q5 q6 q7
    subst q1 q2
    match ts, q3, q4, q5, q6, q7 with
    | t0 :: t1 :: t2 :: t3 :: t4 :: t5 :: t6 :: t7 :: t8 :: t9 :: t10 :: t11 :: t12 :: t13 :: t14 :: t15 :: t16 :: t17 :: t18 :: t19 :: t20 :: t21 :: t22 :: t23 :: t24 :: t25 :: t26 :: t27 :: t28 :: t29 :: t30 :: t31 :: t32 :: t33 :: t34 :: t35 :: t36 :: t37 :: t38 :: t39 :: t40 :: t41 :: t42 :: t43 :: t44 :: t45 :: t46 :: t47 :: t48 :: t49 :: t50 :: t51 :: t52 :: t53 :: t54 :: t55 :: t56 :: t57 :: t58 :: t59 :: t60 :: t61 :: t62 :: t63 :: t64 :: t65 :: t66 :: t67 :: t68 :: t69 :: t70 :: t71 :: t72 :: t73 :: t74 :: t75 :: t76 :: t77 :: t78 :: t79 :: [], q3, q4, q5, q6, q7 =>
      simp only [ahead, getD_zero', getD_succ'] at q4 q5 q6 q7 q8 q9
      subst q4 q5 q6 q7
      cases D with
      | nil =>
        have : e0 = 0 := by rw [he]; rfl
        subst this
        simp [numO, bad0, numT]
      | cons c r =>
        have hc : s[0]? = some c := hat rfl
        have q9 : s.take e0 = c :: r := by simpa using q9
        have e48 : (c == 48) = ((c.toNat : Int) == 48) := u8_beq
        have g1 : ((e0 : Int) == 0) = false := by simp [ahead] at he ⊢; omega
        have g2 : 0 ≤ e0 := by simp [ahead] at he; omega
        have g3 : (0 : Int) ≤ e0 := by omega
        have w0 : IntKind.i64.wrap (e0 : Int) = e0 := wrap_i64 (by omega) (by omega)
        cases hz : ((c.toNat : Int) == 48) with
        | true =>
          rw [hz] at e48
          by_cases hr : r = []
          · subst hr
            have g4 : ¬ (1 : Int) < e0 := by simp [ahead] at he; omega
            have hb0 : bad0 false [c] = false := by simp [bad0]
            unfold numO
            rw [hb0]
            simp only [Bool.false_eq_true, if_false]
            simp [hc, hz, g1, g2, g3, g4, w0, q8, q9]
            refine (val (.p (.int .i64 e0)) _ ⟨rfl, by simp [keep, Fn.f_value_Number_k1, Fn.f_value_Number_s1, mostOf, hbl], by simp [hbl], rfl⟩).mono ?_
            rintro e st ⟨p1, p2, ⟨rfl, p3, p4, p5, p6⟩ | ⟨rfl, p3, p4, p5, p6⟩⟩
            · obtain ⟨us, m2, ds⟩ := st
              simp only at p1 p2 p4 p5 p6
              subst p1
              match us, p2, p4, p5, p6 with
              | u0 :: u1 :: u2 :: u3 :: u4 :: u5 :: u6 :: u7 :: u8 :: u9 :: u10 :: u11 :: u12 :: u13 :: u14 :: u15 :: u16 :: u17 :: u18 :: u19 :: u20 :: u21 :: u22 :: u23 :: u24 :: u25 :: u26 :: u27 :: u28 :: u29 :: u30 :: u31 :: u32 :: u33 :: u34 :: u35 :: u36 :: u37 :: u38 :: u39 :: u40 :: u41 :: u42 :: u43 :: u44 :: u45 :: u46 :: u47 :: u48 :: u49 :: u50 :: u51 :: u52 :: u53 :: u54 :: u55 :: u56 :: u57 :: u58 :: u59 :: u60 :: u61 :: u62 :: u63 :: u64 :: u65 :: u66 :: u67 :: u68 :: u69 :: u70 :: u71 :: u72 :: u73 :: u74 :: u75 :: u76 :: u77 :: u78 :: u79 :: [], p2, p4, p5, p6 =>
                simp only [getD_zero', getD_succ'] at p4 p5 p6
                subst p4 p5 p6
                have p3' := p3
                unfold mostOf at p3'
                simp only [if_true, if_false, Bool.false_eq_true] at p3'
                have w1 : IntKind.i64.wrap (numVal 0 [c] : Int) = (numVal 0 [c] : Int) := wrap_i64 (by omega) (by omega)
                have w2 := w1
                simp [w1, w2, numT, p3]
                try (rw [he]; simp)
            · obtain ⟨us, m2, ds⟩ := st
              simp only at p1 p2 p4 p5 p6
              subst p1
              have p3' : ¬ numVal 0 [c] ≤ mostOf false := by omega
              simp [p4, p5, p6, numT, p3']
          · have g4 : (1 : Int) < e0 := by
              have : 0 < r.length := (by cases r with | nil => exact absurd rfl hr | cons => simp)
              simp [ahead] at he
              omega
            have hb0 : bad0 false (c :: r) = true := by simp [bad0, e48]; exact (by cases r with | nil => exact absurd rfl hr | cons => simp)
            unfold numO
            rw [hb0]
            simp [hc, hz, g1, g4, w0, numT]
        | false =>
          rw [hz] at e48
          have hb0 : bad0 false (c :: r) = false := by simp [bad0, e48]
          unfold numO
          rw [hb0]
          simp only [Bool.false_eq_true, if_false]
          simp [hc, hz, g1, g2, g3, w0, q8, q9]
          refine (val (.p (.int .i64 e0)) _ ⟨rfl, by simp [keep, Fn.f_value_Number_k1, Fn.f_value_Number_s1, mostOf, hbl], by simp [hbl], rfl⟩).mono ?_
          rintro e st ⟨p1, p2, ⟨rfl, p3, p4, p5, p6⟩ | ⟨rfl, p3, p4, p5, p6⟩⟩
          · obtain ⟨us, m2, ds⟩ := st
            simp only at p1 p2 p4 p5 p6
            subst p1
            match us, p2, p4, p5, p6 with
            | u0 :: u1 :: u2 :: u3 :: u4 :: u5 :: u6 :: u7 :: u8 :: u9 :: u10 :: u11 :: u12 :: u13 :: u14 :: u15 :: u16 :: u17 :: u18 :: u19 :: u20 :: u21 :: u22 :: u23 :: u24 :: u25 :: u26 :: u27 :: u28 :: u29 :: u30 :: u31 :: u32 :: u33 :: u34 :: u35 :: u36 :: u37 :: u38 :: u39 :: u40 :: u41 :: u42 :: u43 :: u44 :: u45 :: u46 :: u47 :: u48 :: u49 :: u50 :: u51 :: u52 :: u53 :: u54 :: u55 :: u56 :: u57 :: u58 :: u59 :: u60 :: u61 :: u62 :: u63 :: u64 :: u65 :: u66 :: u67 :: u68 :: u69 :: u70 :: u71 :: u72 :: u73 :: u74 :: u75 :: u76 :: u77 :: u78 :: u79 :: [], p2, p4, p5, p6 =>
              simp only [getD_zero', getD_succ'] at p4 p5 p6
              subst p4 p5 p6
              have p3' := p3
              unfold mostOf at p3'
              simp only [if_true, if_false, Bool.false_eq_true] at p3'
              have w1 : IntKind.i64.wrap (numVal 0 (c :: r) : Int) = (numVal 0 (c :: r) : Int) := wrap_i64 (by omega) (by omega)
              have w2 := w1
              simp [w1, w2, numT, p3]
              try (rw [he]; simp)
          · obtain ⟨us, m2, ds⟩ := st
            simp only at p1 p2 p4 p5 p6
            subst p1
            have p3' : ¬ numVal 0 (c :: r) ≤ mostOf false := by omega
            simp [p4, p5, p6, numT, p3']
end Hx

namespace Hx
open Go
set_option linter.unusedSimpArgs false
set_option linter.unusedVariables false
set_option maxHeartbeats 8000000
variable {E : Env}
attribute [-simp] List.getD_eq_getElem?_getD getElem?_pos
theorem numVal_snoc (a : Nat) (x : List UInt8) (c : UInt8) : numVal a (x ++ [c]) = 10 * numVal a x + dval c := by
  rw [numVal_app, numVal_cons, numVal_nil]
end Hx

namespace Hx
open Go
set_option linter.unusedSimpArgs false
set_option linter.unusedVariables false
set_option maxHeartbeats 8000000
variable {E : Env}
attribute [-simp] List.getD_eq_getElem?_getD getElem?_pos
end Hx

namespace Hx
open Go
set_option linter.unusedSimpArgs false
set_option linter.unusedVariables false
set_option maxHeartbeats 8000000
variable {E : Env}
attribute [-simp] List.getD_eq_getElem?_getD getElem?_pos
end Hx
