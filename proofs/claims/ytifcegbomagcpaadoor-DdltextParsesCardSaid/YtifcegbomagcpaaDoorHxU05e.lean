/-
  HxU05e: the document's Number.
-/
import Derived.Test.YtifcegbomagcpaaDoorHxU05c
namespace Hx
open Go
set_option linter.unusedSimpArgs false
set_option linter.unusedVariables false
set_option maxHeartbeats 8000000
variable {E : Env}
attribute [-simp] List.getD_eq_getElem?_getD getElem?_pos
theorem run_at {neg : Bool} {s : List UInt8} {c : UInt8} {r : List UInt8} (h : runD neg s = c :: r) : s[ahead neg]? = some c := by
  unfold runD at h
  cases hd : s.drop (ahead neg) with
  | nil => rw [hd] at h; cases h
  | cons d t =>
    rw [hd, List.takeWhile_cons] at h
    split at h
    · have := List.head_eq_of_cons_eq h
      subst this
      have e : (s.drop (ahead neg))[0]? = some d := by rw [hd]; rfl
      rw [List.getElem?_drop] at e
      simpa using e
    · cases h
theorem value_Number (u : M05 E) (s : List UInt8) (hs : (s.length : Int) ≤ 1000000000000) (k : Nat) (hk : s.length + 4 ≤ k) (m : Mem) : denF E (k + 1) 37 [.p (.str s)] m = some (.ret (numS s), m) := by
  refine denF_wp u.number rfl (args' := [.p (.str s)]) rfl ?_
  obtain ⟨j, rfl⟩ : ∃ j, k = j + 2 := ⟨k - 2, by omega⟩
  have hp := fun m => has_prefix1 u j s 45 m
  unfold numS
  have hneg : ∀ b : Bool, (s.head? == some 45) = b → ahead b ≤ s.length := by
    intro b hb
    cases b with
    | false => exact Nat.zero_le _
    | true =>
      cases s with
      | nil => simp at hb
      | cons c r => simp [ahead]
  have hlen0 := hneg _ rfl
  generalize hb : (s.head? == some 45) = neg at *
  have run := fun st h => number_run u.digit s hs neg hlen0 (j + 2) (by omega) st h
  have hat : ∀ {c : UInt8} {r : List UInt8}, runD neg s = c :: r → s[ahead neg]? = some c := run_at
  have hdg := run_digs neg s
  have hhead : neg = false → s.head? ≠ some 45 := by
    rintro rfl h
    rw [h] at hb
    simp at hb
  generalize hD : runD neg s = D at *
  have e8 : IntKind.u64.wrap 9223372036854775808 = 9223372036854775808 := rfl
  obtain ⟨e0, he⟩ : ∃ e0, e0 = ahead neg + D.length := ⟨_, rfl⟩
  rw [← he] at run
  have hbl : (byteRows D).length = D.length := by simp [byteRows]
  have hDl : (D.length : Int) ≤ 1000000000000 ∧ D.length < j + 2 := by
    have : D.length ≤ s.length := by
      rw [← hD]
      unfold runD
      have := (List.takeWhile_prefix isDig (l := s.drop (ahead neg))).length_le
      rw [List.length_drop] at this
      omega
    omega
  have val := fun end' st h => number_val (E := E) (j + 2) (denF E (j + 2)) neg D hdg hDl.1 hDl.2 end' st h
  cases neg with
  | true =>
    simp [Fn.f_value_Number, hp]
    refine (run _ ⟨rfl, rfl, rfl, rfl⟩).mono ?_
    clear run
    rintro e st ⟨rfl, q1, q2, q3, q4, q5, q6, q7, q8, q9⟩
    obtain ⟨ts, m', ds⟩ := st
    simp only at q1 q2 q3 q4 q5 q6 q7
    subst q1 q2
    match ts, q3, q4, q5, q6, q7 with
    | t0 :: t1 :: t2 :: t3 :: t4 :: t5 :: t6 :: t7 :: t8 :: t9 :: t10 :: t11 :: t12 :: t13 :: t14 :: t15 :: t16 :: t17 :: t18 :: t19 :: t20 :: t21 :: t22 :: t23 :: t24 :: t25 :: t26 :: t27 :: t28 :: t29 :: t30 :: t31 :: t32 :: t33 :: t34 :: t35 :: t36 :: t37 :: t38 :: t39 :: t40 :: t41 :: t42 :: t43 :: t44 :: t45 :: t46 :: t47 :: t48 :: t49 :: t50 :: t51 :: t52 :: t53 :: t54 :: t55 :: t56 :: t57 :: t58 :: t59 :: t60 :: t61 :: t62 :: t63 :: t64 :: t65 :: t66 :: t67 :: t68 :: t69 :: t70 :: t71 :: t72 :: t73 :: t74 :: t75 :: t76 :: t77 :: t78 :: t79 :: [], q3, q4, q5, q6, q7 =>
      simp only [ahead, getD_zero', getD_succ'] at q4 q5 q6 q7 q8 q9
      subst q4 q5 q6 q7
      cases D with
      | nil =>
        have : e0 = 1 := by rw [he]; rfl
        subst this
        simp [numO, bad0, numT]
      | cons c r =>
        have hc : s[1]? = some c := hat rfl
        have q9 : (s.take e0).tail = c :: r := by rw [← List.drop_one]; exact q9
        have e48 : (c == 48) = ((c.toNat : Int) == 48) := u8_beq
        have g1 : ((e0 : Int) == 1) = false := by simp [ahead] at he ⊢; omega
        have g2 : 1 ≤ e0 := by simp [ahead] at he; omega
        have g3 : (0 : Int) ≤ e0 := by omega
        cases hz : ((c.toNat : Int) == 48) with
        | true =>
          rw [hz] at e48
          simp [numO, bad0, numT, hc, hz, e48, g1]
        | false =>
          rw [hz] at e48
          have hb0 : bad0 true (c :: r) = false := by simp [bad0, e48]
          unfold numO
          rw [hb0]
          simp only [Bool.false_eq_true, if_false]
          simp [hc, hz, g1, g2, g3, q8, q9, e8]
          refine (val (.p (.int .i64 e0)) _ ⟨rfl, by simp [keep, Fn.f_value_Number_k1, Fn.f_value_Number_s1, mostOf, hbl], by simp [hbl], rfl⟩).mono ?_
          rintro e st ⟨p1, p2, ⟨rfl, p3, p4, p5, p6⟩ | ⟨rfl, p3, p4, p5, p6⟩⟩
          · obtain ⟨us, m2, ds⟩ := st
            simp only at p1 p2 p4 p5 p6
            subst p1
            match us, p2, p4, p5, p6 with
            | u0 :: u1 :: u2 :: u3 :: u4 :: u5 :: u6 :: u7 :: u8 :: u9 :: u10 :: u11 :: u12 :: u13 :: u14 :: u15 :: u16 :: u17 :: u18 :: u19 :: u20 :: u21 :: u22 :: u23 :: u24 :: u25 :: u26 :: u27 :: u28 :: u29 :: u30 :: u31 :: u32 :: u33 :: u34 :: u35 :: u36 :: u37 :: u38 :: u39 :: u40 :: u41 :: u42 :: u43 :: u44 :: u45 :: u46 :: u47 :: u48 :: u49 :: u50 :: u51 :: u52 :: u53 :: u54 :: u55 :: u56 :: u57 :: u58 :: u59 :: u60 :: u61 :: u62 :: u63 :: u64 :: u65 :: u66 :: u67 :: u68 :: u69 :: u70 :: u71 :: u72 :: u73 :: u74 :: u75 :: u76 :: u77 :: u78 :: u79 :: [], p2, p4, p5, p6 =>
              simp only [getD_zero', getD_succ'] at p4 p5 p6
              subst p4 p5 p6
              have p3' := p3
              unfold mostOf at p3'
              simp only [if_true, if_false, Bool.false_eq_true] at p3'
              have w1 : IntKind.i64.wrap (IntKind.u64.wrap (0 - (numVal 0 (c :: r) : Int))) = -(numVal 0 (c :: r) : Int) := by
                generalize numVal 0 (c :: r) = v at *
                simp only [IntKind.wrap, IntKind.signed, IntKind.bits]
                simp
                split <;> omega
              have w2 : IntKind.i64.wrap (IntKind.u64.wrap (-(numVal 0 (c :: r) : Int))) = -(numVal 0 (c :: r) : Int) := by have h := w1; rwa [Int.zero_sub] at h
              simp [w1, w2, numT, p3]
              try (rw [he]; simp)
          · obtain ⟨us, m2, ds⟩ := st
            simp only at p1 p2 p4 p5 p6
            subst p1
            have p3' : ¬ numVal 0 (c :: r) ≤ mostOf true := by omega
            simp [p4, p5, p6, numT, p3']
  | false =>
    simp [Fn.f_value_Number, hp]
    refine (run _ ⟨rfl, rfl, rfl, rfl⟩).mono ?_
    clear run
    rintro e st ⟨rfl, q1, q2, q3, q4, q5, q6, q7, q8, q9⟩
    obtain ⟨ts, m', ds⟩ := st
    simp only at q1 q2 q3 q4 q5 q6 q7
    subst q1 q2
    match ts, q3, q4, q5, q6, q7 with
    | t0 :: t1 :: t2 :: t3 :: t4 :: t5 :: t6 :: t7 :: t8 :: t9 :: t10 :: t11 :: t12 :: t13 :: t14 :: t15 :: t16 :: t17 :: t18 :: t19 :: t20 :: t21 :: t22 :: t23 :: t24 :: t25 :: t26 :: t27 :: t28 :: t29 :: t30 :: t31 :: t32 :: t33 :: t34 :: t35 :: t36 :: t37 :: t38 :: t39 :: t40 :: t41 :: t42 :: t43 :: t44 :: t45 :: t46 :: t47 :: t48 :: t49 :: t50 :: t51 :: t52 :: t53 :: t54 :: t55 :: t56 :: t57 :: t58 :: t59 :: t60 :: t61 :: t62 :: t63 :: t64 :: t65 :: t66 :: t67 :: t68 :: t69 :: t70 :: t71 :: t72 :: t73 :: t74 :: t75 :: t76 :: t77 :: t78 :: t79 :: [], q3, q4, q5, q6, q7 =>
      simp only [ahead, getD_zero', getD_succ'] at q4 q5 q6 q7 q8 q9
      subst q4 q5 q6 q7
      cases D with
      | nil =>
        have : e0 = 0 := by rw [he]; rfl
        subst this
        simp [numO, bad0, numT]
      | cons c r =>
        have hc : s[0]? = some c := hat rfl
        have q9 : s.take e0 = c :: r := by simpa using q9
        have e48 : (c == 48) = ((c.toNat : Int) == 48) := u8_beq
        have g1 : ((e0 : Int) == 0) = false := by simp [ahead] at he ⊢; omega
        have g2 : 0 ≤ e0 := by simp [ahead] at he; omega
        have g3 : (0 : Int) ≤ e0 := by omega
        have w0 : IntKind.i64.wrap (e0 : Int) = e0 := wrap_i64 (by omega) (by omega)
        cases hz : ((c.toNat : Int) == 48) with
        | true =>
          rw [hz] at e48
          by_cases hr : r = []
          · subst hr
            have g4 : ¬ (1 : Int) < e0 := by simp [ahead] at he; omega
            have hb0 : bad0 false [c] = false := by simp [bad0]
            unfold numO
            rw [hb0]
            simp only [Bool.false_eq_true, if_false]
            simp [hc, hz, g1, g2, g3, g4, w0, q8, q9]
            refine (val (.p (.int .i64 e0)) _ ⟨rfl, by simp [keep, Fn.f_value_Number_k1, Fn.f_value_Number_s1, mostOf, hbl], by simp [hbl], rfl⟩).mono ?_
            rintro e st ⟨p1, p2, ⟨rfl, p3, p4, p5, p6⟩ | ⟨rfl, p3, p4, p5, p6⟩⟩
            · obtain ⟨us, m2, ds⟩ := st
              simp only at p1 p2 p4 p5 p6
              subst p1
              match us, p2, p4, p5, p6 with
              | u0 :: u1 :: u2 :: u3 :: u4 :: u5 :: u6 :: u7 :: u8 :: u9 :: u10 :: u11 :: u12 :: u13 :: u14 :: u15 :: u16 :: u17 :: u18 :: u19 :: u20 :: u21 :: u22 :: u23 :: u24 :: u25 :: u26 :: u27 :: u28 :: u29 :: u30 :: u31 :: u32 :: u33 :: u34 :: u35 :: u36 :: u37 :: u38 :: u39 :: u40 :: u41 :: u42 :: u43 :: u44 :: u45 :: u46 :: u47 :: u48 :: u49 :: u50 :: u51 :: u52 :: u53 :: u54 :: u55 :: u56 :: u57 :: u58 :: u59 :: u60 :: u61 :: u62 :: u63 :: u64 :: u65 :: u66 :: u67 :: u68 :: u69 :: u70 :: u71 :: u72 :: u73 :: u74 :: u75 :: u76 :: u77 :: u78 :: u79 :: [], p2, p4, p5, p6 =>
                simp only [getD_zero', getD_succ'] at p4 p5 p6
                subst p4 p5 p6
                have p3' := p3
                unfold mostOf at p3'
                simp only [if_true, if_false, Bool.false_eq_true] at p3'
                have w1 : IntKind.i64.wrap (numVal 0 [c] : Int) = (numVal 0 [c] : Int) := wrap_i64 (by omega) (by omega)
                have w2 := w1
                simp [w1, w2, numT, p3]
                try (rw [he]; simp)
            · obtain ⟨us, m2, ds⟩ := st
              simp only at p1 p2 p4 p5 p6
              subst p1
              have p3' : ¬ numVal 0 [c] ≤ mostOf false := by omega
              simp [p4, p5, p6, numT, p3']
          · have g4 : (1 : Int) < e0 := by
              have : 0 < r.length := (by cases r with | nil => exact absurd rfl hr | cons => simp)
              simp [ahead] at he
              omega
            have hb0 : bad0 false (c :: r) = true := by simp [bad0, e48]; exact (by cases r with | nil => exact absurd rfl hr | cons => simp)
            unfold numO
            rw [hb0]
            simp [hc, hz, g1, g4, w0, numT]
        | false =>
          rw [hz] at e48
          have hb0 : bad0 false (c :: r) = false := by simp [bad0, e48]
          unfold numO
          rw [hb0]
          simp only [Bool.false_eq_true, if_false]
          simp [hc, hz, g1, g2, g3, w0, q8, q9]
          refine (val (.p (.int .i64 e0)) _ ⟨rfl, by simp [keep, Fn.f_value_Number_k1, Fn.f_value_Number_s1, mostOf, hbl], by simp [hbl], rfl⟩).mono ?_
          rintro e st ⟨p1, p2, ⟨rfl, p3, p4, p5, p6⟩ | ⟨rfl, p3, p4, p5, p6⟩⟩
          · obtain ⟨us, m2, ds⟩ := st
            simp only at p1 p2 p4 p5 p6
            subst p1
            match us, p2, p4, p5, p6 with
            | u0 :: u1 :: u2 :: u3 :: u4 :: u5 :: u6 :: u7 :: u8 :: u9 :: u10 :: u11 :: u12 :: u13 :: u14 :: u15 :: u16 :: u17 :: u18 :: u19 :: u20 :: u21 :: u22 :: u23 :: u24 :: u25 :: u26 :: u27 :: u28 :: u29 :: u30 :: u31 :: u32 :: u33 :: u34 :: u35 :: u36 :: u37 :: u38 :: u39 :: u40 :: u41 :: u42 :: u43 :: u44 :: u45 :: u46 :: u47 :: u48 :: u49 :: u50 :: u51 :: u52 :: u53 :: u54 :: u55 :: u56 :: u57 :: u58 :: u59 :: u60 :: u61 :: u62 :: u63 :: u64 :: u65 :: u66 :: u67 :: u68 :: u69 :: u70 :: u71 :: u72 :: u73 :: u74 :: u75 :: u76 :: u77 :: u78 :: u79 :: [], p2, p4, p5, p6 =>
              simp only [getD_zero', getD_succ'] at p4 p5 p6
              subst p4 p5 p6
              have p3' := p3
              unfold mostOf at p3'
              simp only [if_true, if_false, Bool.false_eq_true] at p3'
              have w1 : IntKind.i64.wrap (numVal 0 (c :: r) : Int) = (numVal 0 (c :: r) : Int) := wrap_i64 (by omega) (by omega)
              have w2 := w1
              simp [w1, w2, numT, p3]
              try (rw [he]; simp)
          · obtain ⟨us, m2, ds⟩ := st
            simp only at p1 p2 p4 p5 p6
            subst p1
            have p3' : ¬ numVal 0 (c :: r) ≤ mostOf false := by omega
            simp [p4, p5, p6, numT, p3']
end Hx

namespace Hx
open Go
set_option linter.unusedSimpArgs false
set_option linter.unusedVariables false
set_option maxHeartbeats 8000000
variable {E : Env}
attribute [-simp] List.getD_eq_getElem?_getD getElem?_pos
theorem refnum_run (K : Nat) (call : Caller) (s : List UInt8) (hs : (s.length : Int) ≤ 1000000000000) (neg : Bool) (hf : ahead neg ≤ s.length) (hK : s.length + 2 ≤ K) (st : St)
    (hst : Live Fn.f_haulageref05_Number_k0 (Fn.f_haulageref05_Number_s0 (.p (.str s)) (.p (.int .i64 (ahead neg))) (.p (.int .i64 (ahead neg)))) [] st) :
    Wp (iter (loopF E call K Fn.f_haulageref05_Number_k0 Fn.f_haulageref05_Number_b0) K st)
      (fun e st => e = .exit 0 ∧ st.ds = [] ∧ st.m = [] ∧ st.ts.length = 90 ∧ st.ts.getD 0 (.tup []) = .p (.str s) ∧ st.ts.getD 5 (.tup []) = .p (.int .i64 (ahead neg)) ∧
        st.ts.getD 6 (.tup []) = .p (.int .i64 ((ahead neg + (runD neg s).length : Nat) : Int)) ∧ ahead neg + (runD neg s).length ≤ s.length ∧ (s.take (ahead neg + (runD neg s).length)).drop (ahead neg) = runD neg s) := by
  generalize hfe : ahead neg = f at *
  refine loop_wp (α := Nat) (I := fun i st => RunFar s f i ∧ Live Fn.f_haulageref05_Number_k0 (Fn.f_haulageref05_Number_s0 (.p (.str s)) (.p (.int .i64 f)) (.p (.int .i64 i))) [] st) (meas := fun i => s.length - i)
    ?_ K f st ⟨run_0 hf, hst⟩ (by omega)
  rintro i st ⟨hr, hlive⟩
  rw [loopF_live hlive]
  have stop : (∀ c, s[i]? = some c → isDig c = false) → i = f + (runD neg s).length ∧ (s.take i).drop f = runD neg s := by
    intro h
    obtain ⟨h1, h2⟩ := run_stop hr h
    unfold runD
    rw [hfe]
    exact ⟨h2, h1.symm⟩
  by_cases hi : i < s.length
  · have hi' : (i : Int) < s.length := by omega
    obtain ⟨c, hc⟩ : ∃ c, s[i]? = some c := ⟨_, List.getElem?_eq_getElem hi⟩
    have hw : IntKind.i64.wrap ((i : Int) + 1) = i + 1 := wrap_i64 (by omega) (by omega)
    by_cases d1 : (48 : Int) ≤ c.toNat
    · by_cases d2 : (c.toNat : Int) ≤ 57
      · have hq : isDig c = true := by unfold isDig; simp; omega
        have hn := run_next hr hc hq
        simp [Fn.f_haulageref05_Number_b0, Fn.f_haulageref05_Number_s0, hi, hi', hc, hw, d1, d2]
        exact ⟨i + 1, by omega, hn, rfl, rfl, rfl, rfl⟩
      · have hq : isDig c = false := by unfold isDig; simp; omega
        obtain ⟨h1, h2⟩ := stop (fun d hd' => by rw [hc] at hd'; obtain rfl := Option.some.inj hd'; exact hq)
        rw [← h1]
        simp [Fn.f_haulageref05_Number_b0, Fn.f_haulageref05_Number_s0, hi, hi', hc, d1, d2]
        exact ⟨by omega, h2⟩
    · have hq : isDig c = false := by unfold isDig; simp; omega
      obtain ⟨h1, h2⟩ := stop (fun d hd' => by rw [hc] at hd'; obtain rfl := Option.some.inj hd'; exact hq)
      rw [← h1]
      simp [Fn.f_haulageref05_Number_b0, Fn.f_haulageref05_Number_s0, hi, hi', hc, d1]
      exact ⟨by omega, h2⟩
  · have hi' : ¬ (i : Int) < s.length := by omega
    obtain ⟨h1, h2⟩ := stop (fun d hd' => by rw [List.getElem?_eq_none (by omega)] at hd'; cases hd')
    rw [← h1]
    have := hr.2.1
    simp [Fn.f_haulageref05_Number_b0, Fn.f_haulageref05_Number_s0, hi, hi']
    exact ⟨by omega, h2⟩
theorem w64 (x : Int) : IntKind.i64.wrap x = (x + 9223372036854775808) % 18446744073709551616 - 9223372036854775808 := by
  simp only [IntKind.wrap, IntKind.signed, IntKind.bits]
  simp
  split <;> omega
theorem numVal_snoc (a : Nat) (x : List UInt8) (c : UInt8) : numVal a (x ++ [c]) = 10 * numVal a x + dval c := by
  rw [numVal_app, numVal_cons, numVal_nil]
theorem refnum_val (K : Nat) (call : Caller) (s D : List UInt8) (f e0 : Nat) (hD : ∀ c ∈ D, isDig c = true) (he : e0 = f + D.length) (hse : e0 ≤ s.length) (hcut : (s.take e0).drop f = D) (hl : D.length ≤ 19) (hf : f ≤ 1) (hK : 22 ≤ K) (st : St)
    (hst : Live Fn.f_haulageref05_Number_k1 (Fn.f_haulageref05_Number_s1 (.p (.str s)) (.p (.int .i64 f)) (.p (.int .i64 e0)) (.p (.int .i64 0)) (.p (.int .i64 f))) [] st) :
    Wp (iter (loopF E call K Fn.f_haulageref05_Number_k1 Fn.f_haulageref05_Number_b1) K st)
      (fun e st => e = .exit 2 ∧ st.ds = [] ∧ st.m = [] ∧ st.ts.length = 90 ∧ st.ts.getD 0 (.tup []) = .p (.str s) ∧ st.ts.getD 5 (.tup []) = .p (.int .i64 f) ∧ st.ts.getD 6 (.tup []) = .p (.int .i64 e0) ∧ st.ts.getD 7 (.tup []) = .p (.int .i64 (IntKind.i64.wrap (-(numVal 0 D : Int))))) := by
  have hat : ∀ i c, D[i]? = some c → s[f + i]? = some c := by
    intro i c h
    rw [← hcut, List.getElem?_drop] at h
    have hlt : f + i < e0 := by
      rcases Nat.lt_or_ge (f + i) e0 with h' | h'
      · exact h'
      · rw [List.getElem?_eq_none (by rw [List.length_take]; omega)] at h; cases h
    rwa [List.getElem?_take_of_lt hlt] at h
  refine loop_wp (α := Nat) (I := fun i st => i ≤ D.length ∧ Live Fn.f_haulageref05_Number_k1 (Fn.f_haulageref05_Number_s1 (.p (.str s)) (.p (.int .i64 f)) (.p (.int .i64 e0)) (.p (.int .i64 (IntKind.i64.wrap (-(numVal 0 (D.take i) : Int))))) (.p (.int .i64 ((f + i : Nat) : Int)))) [] st) (meas := fun i => D.length - i)
    ?_ K 0 st ⟨Nat.zero_le _, hst⟩ (by omega)
  rintro i st ⟨hi0, hlive⟩
  rw [loopF_live hlive]
  by_cases hi : i < D.length
  · obtain ⟨c, hc⟩ : ∃ c, D[i]? = some c := ⟨_, List.getElem?_eq_getElem hi⟩
    have hsc := hat i c hc
    have hcd := hD c (List.mem_of_getElem? hc)
    unfold isDig at hcd
    simp only [Bool.and_eq_true, decide_eq_true_eq] at hcd
    have htk : numVal 0 (D.take (i + 1)) = 10 * numVal 0 (D.take i) + dval c := by
      rw [List.take_add_one, hc]
      exact numVal_snoc 0 (D.take i) c
    have hdv : (dval c : Int) = (c.toNat : Int) - 48 := by unfold dval; omega
    have w1 : IntKind.u8.wrap ((c.toNat : Int) - 48) = dval c := by rw [wrap_u8 (by omega) (by omega)]; omega
    have w2 : IntKind.i64.wrap (dval c : Int) = dval c := by
      have : dval c ≤ 9 := by unfold dval; omega
      exact wrap_i64 (by omega) (by omega)
    have hlt : ((f + i : Nat) : Int) < e0 := by omega
    have w3 : IntKind.i64.wrap (((f + i : Nat) : Int) + 1) = ((f + (i + 1) : Nat) : Int) := by rw [wrap_i64 (by omega) (by omega)]; omega
    have w4 : IntKind.i64.wrap (IntKind.i64.wrap (10 * IntKind.i64.wrap (-(numVal 0 (D.take i) : Int))) - dval c) = IntKind.i64.wrap (-(numVal 0 (D.take (i + 1)) : Int)) := by
      rw [htk]
      generalize numVal 0 (D.take i) = v
      generalize dval c = d
      rw [w64, w64, w64, w64]
      omega
    obtain ⟨P, hP⟩ : ∃ P, P = f + i := ⟨_, rfl⟩
    rw [← hP] at hsc hlt w3
    rw [← hP]
    generalize IntKind.i64.wrap (-(numVal 0 (D.take i) : Int)) = X at *
    simp [Fn.f_haulageref05_Number_b1, Fn.f_haulageref05_Number_s1, hlt, hsc, w1, w2, w3, w4]
    refine ⟨i + 1, by omega, by omega, rfl, ?_, rfl, rfl⟩
    simp [keep, Fn.f_haulageref05_Number_k1, Fn.f_haulageref05_Number_s1, w3]
  · have hi2 : i = D.length := by omega
    subst hi2
    rw [List.take_length, ← he]
    simp [Fn.f_haulageref05_Number_b1, Fn.f_haulageref05_Number_s1]
end Hx
