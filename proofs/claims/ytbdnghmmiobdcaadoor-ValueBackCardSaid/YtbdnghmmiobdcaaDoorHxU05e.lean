/-
  HxU05e: the document's Number.
-/
import Derived.Test.YtbdnghmmiobdcaaDoorHxU05d
namespace Hx
open Go
set_option linter.unusedSimpArgs false
set_option linter.unusedVariables false
set_option maxHeartbeats 8000000
variable {E : Env}
attribute [-simp] List.getD_eq_getElem?_getD getElem?_pos
theorem refnum_run (K : Nat) (call : Caller) (s : List UInt8) (hs : (s.length : Int) ≤ 1000000000000) (neg : Bool) (hf : ahead neg ≤ s.length) (hK : s.length + 2 ≤ K) (st : St)
    (hst : Live Fn.f_haulageref05_Number_k0 (Fn.f_haulageref05_Number_s0 (.p (.str s)) (.p (.int .i64 (ahead neg))) (.p (.int .i64 (ahead neg)))) [] st) :
    Wp (iter (loopF E call K Fn.f_haulageref05_Number_k0 Fn.f_haulageref05_Number_b0) K st)
      (fun e st => e = .exit 0 ∧ st.ds = [] ∧ st.m = [] ∧ st.ts.length = 90 ∧ st.ts.getD 0 (.tup []) = .p (.str s) ∧ st.ts.getD 5 (.tup []) = .p (.int .i64 (ahead neg)) ∧
        st.ts.getD 6 (.tup []) = .p (.int .i64 ((ahead neg + (runD neg s).length : Nat) : Int)) ∧ ahead neg + (runD neg s).length ≤ s.length ∧ (s.take (ahead neg + (runD neg s).length)).drop (ahead neg) = runD neg s) := by
  generalize hfe : ahead neg = f at *
  refine loop_wp (α := Nat) (I := fun i st => RunFar s f i ∧ Live Fn.f_haulageref05_Number_k0 (Fn.f_haulageref05_Number_s0 (.p (.str s)) (.p (.int .i64 f)) (.p (.int .i64 i))) [] st) (meas := fun i => s.length - i)
    ?_ K f st ⟨run_0 hf, hst⟩ (by omega)
  rintro i st ⟨hr, hlive⟩
  rw [loopF_live hlive]
  have stop : (∀ c, s[i]? = some c → isDig c = false) → i = f + (runD neg s).length ∧ (s.take i).drop f = runD neg s := by
    intro h
    obtain ⟨h1, h2⟩ := run_stop hr h
    unfold runD
    rw [hfe]
    exact ⟨h2, h1.symm⟩
  by_cases hi : i < s.length
  · have hi' : (i : Int) < s.length := by omega
    obtain ⟨c, hc⟩ : ∃ c, s[i]? = some c := ⟨_, List.getElem?_eq_getElem hi⟩
    have hw : IntKind.i64.wrap ((i : Int) + 1) = i + 1 := wrap_i64 (by omega) (by omega)
    by_cases d1 : (48 : Int) ≤ c.toNat
    · by_cases d2 : (c.toNat : Int) ≤ 57
      · have hq : isDig c = true := by unfold isDig; simp; omega
        have hn := run_next hr hc hq
        simp [Fn.f_haulageref05_Number_b0, Fn.f_haulageref05_Number_s0, hi, hi', hc, hw, d1, d2]
        exact ⟨i + 1, by omega, hn, rfl, rfl, rfl, rfl⟩
      · have hq : isDig c = false := by unfold isDig; simp; omega
        obtain ⟨h1, h2⟩ := stop (fun d hd' => by rw [hc] at hd'; obtain rfl := Option.some.inj hd'; exact hq)
        rw [← h1]
        simp [Fn.f_haulageref05_Number_b0, Fn.f_haulageref05_Number_s0, hi, hi', hc, d1, d2]
        exact ⟨by omega, h2⟩
    · have hq : isDig c = false := by unfold isDig; simp; omega
      obtain ⟨h1, h2⟩ := stop (fun d hd' => by rw [hc] at hd'; obtain rfl := Option.some.inj hd'; exact hq)
      rw [← h1]
      simp [Fn.f_haulageref05_Number_b0, Fn.f_haulageref05_Number_s0, hi, hi', hc, d1]
      exact ⟨by omega, h2⟩
  · have hi' : ¬ (i : Int) < s.length := by omega
    obtain ⟨h1, h2⟩ := stop (fun d hd' => by rw [List.getElem?_eq_none (by omega)] at hd'; cases hd')
    rw [← h1]
    have := hr.2.1
    simp [Fn.f_haulageref05_Number_b0, Fn.f_haulageref05_Number_s0, hi, hi']
    exact ⟨by omega, h2⟩
theorem w64 (x : Int) : IntKind.i64.wrap x = (x + 9223372036854775808) % 18446744073709551616 - 9223372036854775808 := by
  simp only [IntKind.wrap, IntKind.signed, IntKind.bits]
  simp
  split <;> omega
theorem numVal_snoc (a : Nat) (x : List UInt8) (c : UInt8) : numVal a (x ++ [c]) = 10 * numVal a x + dval c := by
  rw [numVal_app, numVal_cons, numVal_nil]
theorem refnum_val (K : Nat) (call : Caller) (s D : List UInt8) (f e0 : Nat) (hD : ∀ c ∈ D, isDig c = true) (he : e0 = f + D.length) (hse : e0 ≤ s.length) (hcut : (s.take e0).drop f = D) (hl : D.length ≤ 19) (hf : f ≤ 1) (hK : 22 ≤ K) (st : St)
    (hst : Live Fn.f_haulageref05_Number_k1 (Fn.f_haulageref05_Number_s1 (.p (.str s)) (.p (.int .i64 f)) (.p (.int .i64 e0)) (.p (.int .i64 0)) (.p (.int .i64 f))) [] st) :
    Wp (iter (loopF E call K Fn.f_haulageref05_Number_k1 Fn.f_haulageref05_Number_b1) K st)
      (fun e st => e = .exit 2 ∧ st.ds = [] ∧ st.m = [] ∧ st.ts.length = 90 ∧ st.ts.getD 0 (.tup []) = .p (.str s) ∧ st.ts.getD 5 (.tup []) = .p (.int .i64 f) ∧ st.ts.getD 6 (.tup []) = .p (.int .i64 e0) ∧ st.ts.getD 7 (.tup []) = .p (.int .i64 (IntKind.i64.wrap (-(numVal 0 D : Int))))) := by
  have hat : ∀ i c, D[i]? = some c → s[f + i]? = some c := by
    intro i c h
    rw [← hcut, List.getElem?_drop] at h
    have hlt : f + i < e0 := by
      rcases Nat.lt_or_ge (f + i) e0 with h' | h'
      · exact h'
      · rw [List.getElem?_eq_none (by rw [List.length_take]; omega)] at h; cases h
    rwa [List.getElem?_take_of_lt hlt] at h
  refine loop_wp (α := Nat) (I := fun i st => i ≤ D.length ∧ Live Fn.f_haulageref05_Number_k1 (Fn.f_haulageref05_Number_s1 (.p (.str s)) (.p (.int .i64 f)) (.p (.int .i64 e0)) (.p (.int .i64 (IntKind.i64.wrap (-(numVal 0 (D.take i) : Int))))) (.p (.int .i64 ((f + i : Nat) : Int)))) [] st) (meas := fun i => D.length - i)
    ?_ K 0 st ⟨Nat.zero_le _, hst⟩ (by omega)
  rintro i st ⟨hi0, hlive⟩
  rw [loopF_live hlive]
  by_cases hi : i < D.length
  · obtain ⟨c, hc⟩ : ∃ c, D[i]? = some c := ⟨_, List.getElem?_eq_getElem hi⟩
    have hsc := hat i c hc
    have hcd := hD c (List.mem_of_getElem? hc)
    unfold isDig at hcd
    simp only [Bool.and_eq_true, decide_eq_true_eq] at hcd
    have htk : numVal 0 (D.take (i + 1)) = 10 * numVal 0 (D.take i) + dval c := by
      rw [List.take_add_one, hc]
      exact numVal_snoc 0 (D.take i) c
    have hdv : (dval c : Int) = (c.toNat : Int) - 48 := by unfold dval; omega
    have w1 : IntKind.u8.wrap ((c.toNat : Int) - 48) = dval c := by rw [wrap_u8 (by omega) (by omega)]; omega
    have w2 : IntKind.i64.wrap (dval c : Int) = dval c := by
      have : dval c ≤ 9 := by unfold dval; omega
      exact wrap_i64 (by omega) (by omega)
    have hlt : ((f + i : Nat) : Int) < e0 := by omega
    have w3 : IntKind.i64.wrap (((f + i : Nat) : Int) + 1) = ((f + (i + 1) : Nat) : Int) := by rw [wrap_i64 (by omega) (by omega)]; omega
    have w4 : IntKind.i64.wrap (IntKind.i64.wrap (10 * IntKind.i64.wrap (-(numVal 0 (D.take i) : Int))) - dval c) = IntKind.i64.wrap (-(numVal 0 (D.take (i + 1)) : Int)) := by
      rw [htk]
      generalize numVal 0 (D.take i) = v
      generalize dval c = d
      rw [w64, w64, w64, w64]
      omega
    obtain ⟨P, hP⟩ : ∃ P, P = f + i := ⟨_, rfl⟩
    rw [← hP] at hsc hlt w3
    rw [← hP]
    generalize IntKind.i64.wrap (-(numVal 0 (D.take i) : Int)) = X at *
    simp [Fn.f_haulageref05_Number_b1, Fn.f_haulageref05_Number_s1, hlt, hsc, w1, w2, w3, w4]
    refine ⟨i + 1, by omega, by omega, rfl, ?_, rfl, rfl⟩
    simp [keep, Fn.f_haulageref05_Number_k1, Fn.f_haulageref05_Number_s1, w3]
  · have hi2 : i = D.length := by omega
    subst hi2
    rw [List.take_length, ← he]
    simp [Fn.f_haulageref05_Number_b1, Fn.f_haulageref05_Number_s1]
end Hx
