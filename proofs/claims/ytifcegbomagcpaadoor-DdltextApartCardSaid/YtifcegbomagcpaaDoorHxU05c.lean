/-
  HxU05c: the number that a text begins with, as both the program and the document read it.
-/
import Derived.Test.YtifcegbomagcpaaDoorHxFn06
import Derived.Test.YtifcegbomagcpaaDoorHxU05b
import Derived.Test.YtifcegbomagcpaaDoorHxU05b
import Derived.Test.YtifcegbomagcpaaDoorHxU05b
namespace Hx
open Go
set_option linter.unusedSimpArgs false
set_option linter.unusedVariables false
set_option maxHeartbeats 8000000
variable {E : Env}
attribute [-simp] List.getD_eq_getElem?_getD getElem?_pos
structure M05 (E : Env) : Prop where
  has : E.fn 48 = some Fn.f_strings_HasPrefix
  has' : E.fn 63 = some Fn.f_internal_stringslite_HasPrefix
  digit : E.fn 45 = some Fn.f_value_digit
  number : E.fn 37 = some Fn.f_value_Number
  rdigits : E.fn 40 = some Fn.f_haulageref05_Digits
theorem has_prefix1 (u : M05 E) (k : Nat) (s : List UInt8) (c : UInt8) (m : Mem) : denF E (k + 2) 48 [.p (.str s), .p (.str [c])] m = some (.ret (.p (.bool (s.head? == some c))), m) := by
  have h : ∀ m, denF E (k + 1) 63 [.p (.str s), .p (.str [c])] m = some (.ret (.p (.bool (s.head? == some c))), m) := by
    intro m
    refine denF_wp u.has' rfl (args' := [.p (.str s), .p (.str [c])]) rfl ?_
    cases s with
    | nil => simp [Fn.f_internal_stringslite_HasPrefix]
    | cons d r =>
      have h1 : (1 : Int) ≤ (r.length : Int) + 1 := by omega
      have h2 : 1 ≤ r.length + 1 := by omega
      have h3 : ([d] == [c]) = (d == c) := by rw [Bool.eq_iff_iff]; simp
      simp [Fn.f_internal_stringslite_HasPrefix, h1, h2, h3, bounds, asNat, asInt]
  refine denF_wp u.has rfl (args' := [.p (.str s), .p (.str [c])]) rfl ?_
  simp [Fn.f_strings_HasPrefix, h]
theorem value_digit (h : E.fn 45 = some Fn.f_value_digit) (k : Nat) (c : UInt8) (m : Mem) : denF E (k + 1) 45 [.p (.int .u8 c.toNat)] m = some (.ret (.p (.bool (isDig c))), m) := by
  refine denF_wp h rfl (args' := [.p (.int .u8 c.toNat)]) rfl ?_
  unfold isDig
  have e1 : decide (48 ≤ c.toNat) = decide ((48 : Int) ≤ c.toNat) := by simp; omega
  have e2 : decide (c.toNat ≤ 57) = decide ((c.toNat : Int) ≤ 57) := by simp; omega
  rw [e1, e2]
  generalize (c.toNat : Int) = x
  by_cases h1 : (48 : Int) ≤ x <;> simp [Fn.f_value_digit, h1]
def RunFar (s : List UInt8) (f i : Nat) : Prop := f ≤ i ∧ i ≤ s.length ∧ (s.drop f).takeWhile isDig = (s.drop f).take (i - f) ++ (s.drop i).takeWhile isDig
theorem run_0 {s : List UInt8} {f : Nat} (h : f ≤ s.length) : RunFar s f f := ⟨Nat.le_refl _, h, by simp⟩
theorem run_next {s : List UInt8} {f i : Nat} {c : UInt8} (h : RunFar s f i) (hc : s[i]? = some c) (hd : isDig c = true) : RunFar s f (i + 1) := by
  obtain ⟨h1, h2, h3⟩ := h
  have hlt : i < s.length := (List.getElem?_eq_some_iff.1 hc).1
  refine ⟨by omega, hlt, ?_⟩
  rw [h3, drop_at hc, List.takeWhile_cons, if_pos hd]
  have e : i + 1 - f = (i - f) + 1 := by omega
  rw [e, List.take_add_one, List.getElem?_drop]
  have : f + (i - f) = i := by omega
  rw [this, hc, List.append_assoc]
  rfl
theorem run_stop {s : List UInt8} {f i : Nat} (h : RunFar s f i) (hd : ∀ c, s[i]? = some c → isDig c = false) : (s.drop f).takeWhile isDig = (s.take i).drop f ∧ i = f + ((s.drop f).takeWhile isDig).length := by
  obtain ⟨h1, h2, h3⟩ := h
  have : (s.drop i).takeWhile isDig = [] := by
    cases hc : s[i]? with
    | none =>
      rw [List.getElem?_eq_none_iff] at hc
      rw [List.drop_eq_nil_of_le hc]
      rfl
    | some c =>
      rw [drop_at hc, List.takeWhile_cons, hd c hc]
      rfl
  rw [this, List.append_nil] at h3
  rw [h3]
  refine ⟨by rw [List.drop_take], ?_⟩
  rw [List.length_take, List.length_drop]
  omega
theorem u8_beq {c d : UInt8} : (c == d) = ((c.toNat : Int) == d.toNat) := by
  rw [Bool.eq_iff_iff]
  simp only [beq_iff_eq]
  constructor
  · intro h; rw [h]
  · intro h; exact UInt8.toNat_inj.1 (by omega)
def numT (n size e : Int) : AV := .tup [.p (.int .i64 n), .p (.int .i64 size), .p (.int .i64 e)]
def ahead (neg : Bool) : Nat := if neg then 1 else 0
def mostOf (neg : Bool) : Nat := if neg then 9223372036854775808 else 9223372036854775807
def bad0 (neg : Bool) (D : List UInt8) : Bool := D.isEmpty || (D.head? == some 48 && (neg || decide (1 < D.length)))
def numO (neg : Bool) (D : List UInt8) : AV :=
  if bad0 neg D then numT 0 0 5 else if numVal 0 D ≤ mostOf neg then numT (if neg then -(numVal 0 D : Int) else numVal 0 D) ((ahead neg + D.length : Nat) : Int) 0 else numT 0 0 10
def runD (neg : Bool) (s : List UInt8) : List UInt8 := (s.drop (ahead neg)).takeWhile isDig
def numS (s : List UInt8) : AV := numO (s.head? == some 45) (runD (s.head? == some 45) s)
theorem run_digs (neg : Bool) (s : List UInt8) : ∀ c ∈ runD neg s, isDig c = true := by
  intro c hc
  unfold runD at hc
  exact List.all_eq_true.1 (List.all_takeWhile) c hc
theorem number_run (h : E.fn 45 = some Fn.f_value_digit) (s : List UInt8) (hs : (s.length : Int) ≤ 1000000000000) (neg : Bool) (hf : ahead neg ≤ s.length) (K : Nat) (hK : s.length + 2 ≤ K) (st : St)
    (hst : Live Fn.f_value_Number_k0 (Fn.f_value_Number_s0 (.p (.str s)) (.p (.bool neg)) (.p (.int .i64 (ahead neg))) (.p (.int .i64 (ahead neg)))) [] st) :
    Wp (iter (loopF E (denF E K) K Fn.f_value_Number_k0 Fn.f_value_Number_b0) K st)
      (fun e st => e = .exit 0 ∧ st.ds = [] ∧ st.m = [] ∧ st.ts.length = 80 ∧ st.ts.getD 0 (.tup []) = .p (.str s) ∧ st.ts.getD 5 (.tup []) = .p (.bool neg) ∧ st.ts.getD 6 (.tup []) = .p (.int .i64 (ahead neg)) ∧
        st.ts.getD 7 (.tup []) = .p (.int .i64 ((ahead neg + (runD neg s).length : Nat) : Int)) ∧ ahead neg + (runD neg s).length ≤ s.length ∧ (s.take (ahead neg + (runD neg s).length)).drop (ahead neg) = runD neg s) := by
  obtain ⟨j, rfl⟩ : ∃ j, K = j + 1 := ⟨K - 1, by omega⟩
  generalize hfe : ahead neg = f at *
  refine loop_wp (α := Nat) (I := fun i st => RunFar s f i ∧ Live Fn.f_value_Number_k0 (Fn.f_value_Number_s0 (.p (.str s)) (.p (.bool neg)) (.p (.int .i64 f)) (.p (.int .i64 i))) [] st) (meas := fun i => s.length - i)
    ?_ (j + 1) f st ⟨run_0 hf, hst⟩ (by omega)
  rintro i st ⟨hr, hlive⟩
  rw [loopF_live hlive]
  have stop : (∀ c, s[i]? = some c → isDig c = false) → i = f + (runD neg s).length ∧ (s.take i).drop f = runD neg s := by
    intro h
    obtain ⟨h1, h2⟩ := run_stop hr h
    unfold runD
    rw [hfe]
    exact ⟨h2, h1.symm⟩
  by_cases hi : i < s.length
  · have hi' : (i : Int) < s.length := by omega
    obtain ⟨c, hc⟩ : ∃ c, s[i]? = some c := ⟨_, List.getElem?_eq_getElem hi⟩
    have hd := fun m => value_digit h j c m
    have hw : IntKind.i64.wrap ((i : Int) + 1) = i + 1 := wrap_i64 (by omega) (by omega)
    cases hq : isDig c with
    | true =>
      rw [hq] at hd
      have hn := run_next hr hc hq
      simp [Fn.f_value_Number_b0, Fn.f_value_Number_s0, hi, hi', hc, hd, hw]
      exact ⟨i + 1, by omega, hn, rfl, rfl, rfl, rfl⟩
    | false =>
      rw [hq] at hd
      obtain ⟨h1, h2⟩ := stop (fun d hd' => by rw [hc] at hd'; obtain rfl := Option.some.inj hd'; exact hq)
      rw [← h1]
      simp [Fn.f_value_Number_b0, Fn.f_value_Number_s0, hi, hi', hc, hd]
      exact ⟨by omega, h2⟩
  · have hi' : ¬ (i : Int) < s.length := by omega
    obtain ⟨h1, h2⟩ := stop (fun d hd' => by rw [List.getElem?_eq_none (by omega)] at hd'; cases hd')
    rw [← h1]
    have := hr.2.1
    simp [Fn.f_value_Number_b0, Fn.f_value_Number_s0, hi, hi']
    exact ⟨by omega, h2⟩
theorem number_val (K : Nat) (call : Caller) (neg : Bool) (D : List UInt8) (hD : ∀ c ∈ D, isDig c = true) (hl : (D.length : Int) ≤ 1000000000000) (hK : D.length < K) (end' : AV) (st : St)
    (hst : Live Fn.f_value_Number_k1 (Fn.f_value_Number_s1 (.p (.bool neg)) end' (.p (.int .u64 (mostOf neg))) (.p (.int .u64 0)) (.tv 1 (byteRows D) 0) (.p (.int .i64 D.length)) (.p (.int .i64 0))) [.tok 1 D.length] st) :
    Wp (iter (loopF E call K Fn.f_value_Number_k1 Fn.f_value_Number_b1) K st)
      (fun e st => st.ds = [] ∧ st.ts.length = 80 ∧ ((e = .exit 2 ∧ numVal 0 D ≤ mostOf neg ∧ st.ts.getD 5 (.tup []) = .p (.bool neg) ∧ st.ts.getD 7 (.tup []) = end' ∧ st.ts.getD 9 (.tup []) = .p (.int .u64 (numVal 0 D))) ∨
        (e = .ret ∧ mostOf neg < numVal 0 D ∧ st.ts.getD 2 (.tup []) = .p (.int .i64 0) ∧ st.ts.getD 3 (.tup []) = .p (.int .i64 0) ∧ st.ts.getD 4 (.tup []) = .p (.int .i64 10)))) := by
  refine loop_wp (α := Nat) (I := fun i st => ∃ u : Nat, i ≤ D.length ∧ numVal 0 D = numVal u (D.drop i) ∧ u ≤ mostOf neg ∧
      Live Fn.f_value_Number_k1 (Fn.f_value_Number_s1 (.p (.bool neg)) end' (.p (.int .u64 (mostOf neg))) (.p (.int .u64 u)) (.tv 1 (byteRows D) 0) (.p (.int .i64 D.length)) (.p (.int .i64 i))) [.tok 1 D.length] st) (meas := fun i => D.length - i)
    ?_ K 0 st ⟨0, Nat.zero_le _, rfl, Nat.zero_le _, hst⟩ (by omega)
  rintro i st ⟨u, hi0, hv, hu, hlive⟩
  rw [loopF_live hlive]
  have hM : mostOf neg ≤ 9223372036854775808 ∧ 9223372036854775807 ≤ mostOf neg := by unfold mostOf; split <;> omega
  generalize mostOf neg = M at *
  by_cases hi : i < D.length
  · have hi' : (i : Int) < D.length := by omega
    obtain ⟨c, hc⟩ : ∃ c, D[i]? = some c := ⟨_, List.getElem?_eq_getElem hi⟩
    have hrow : (byteRows D)[i]? = some [.int .u8 c.toNat] := by unfold byteRows; rw [List.getElem?_map, hc]; rfl
    have hw : IntKind.i64.wrap ((i : Int) + 1) = i + 1 := wrap_i64 (by omega) (by omega)
    have hcd := hD c (List.mem_of_getElem? hc)
    unfold isDig at hcd
    simp only [Bool.and_eq_true, decide_eq_true_eq] at hcd
    have hdv : (dval c : Int) = (c.toNat : Int) - 48 := by unfold dval; omega
    have hd9 : dval c ≤ 9 := by unfold dval; omega
    have w1 : IntKind.u8.wrap ((c.toNat : Int) - 48) = dval c := by rw [wrap_u8 (by omega) (by omega)]; omega
    have hu64 : ∀ x : Int, 0 ≤ x → x < 18446744073709551616 → IntKind.u64.wrap x = x := by
      intro x h1 h2
      simp only [IntKind.wrap, IntKind.signed, IntKind.bits]
      simp
      omega
    rw [drop_at hc, numVal_cons] at hv
    generalize dval c = d at *
    have w2 : IntKind.u64.wrap (d : Int) = d := hu64 _ (by omega) (by omega)
    have w3 : IntKind.u64.wrap ((M : Int) - d) = M - d := hu64 _ (by omega) (by omega)
    have w4 : IntKind.u64.wrap (((M : Int) - d).tdiv 10) = ((M - d) / 10 : Nat) := by
      rw [Int.tdiv_eq_ediv_of_nonneg (by omega), hu64 _ (by omega) (by omega)]
      omega
    obtain ⟨q, hq⟩ : ∃ q : Nat, q = (M - d) / 10 := ⟨_, rfl⟩
    rw [← hq] at w4
    by_cases hg : q < u
    · have hbig : M < numVal 0 D := by
        have := numVal_ge (10 * u + d) (D.drop (i + 1))
        omega
      have hg' : (q : Int) < u := by omega
      simp [Fn.f_value_Number_b1, Fn.f_value_Number_s1, hi, hi', hrow, hw, w1, w2, w3, w4, hg, hg', hbig]
    · have hg' : ¬ (q : Int) < u := by omega
      have w5 : IntKind.u64.wrap ((u : Int) * 10) = u * 10 := hu64 _ (by omega) (by omega)
      have w6 : IntKind.u64.wrap ((u : Int) * 10 + d) = ((10 * u + d : Nat) : Int) := by rw [hu64 _ (by omega) (by omega)]; omega
      simp [Fn.f_value_Number_b1, Fn.f_value_Number_s1, hi, hi', hrow, hw, w1, w2, w3, w4, w5, hg, hg']
      refine ⟨i + 1, by omega, by omega, 10 * u + d, hv, by omega, rfl, ?_, rfl, rfl⟩
      simp [keep, Fn.f_value_Number_k1, Fn.f_value_Number_s1, w6]
  · have hi2 : i = D.length := by omega
    subst hi2
    rw [List.drop_length, numVal_nil] at hv
    subst hv
    simp [Fn.f_value_Number_b1, Fn.f_value_Number_s1, hu]
end Hx
