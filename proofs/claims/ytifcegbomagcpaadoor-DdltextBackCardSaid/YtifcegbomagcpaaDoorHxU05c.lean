/-
  HxU05c: the number that a text begins with, as both the program and the document read it.
-/
import Derived.Test.YtifcegbomagcpaaDoorHxU06
import Derived.Test.YtifcegbomagcpaaDoorHxFn06
namespace Hx
open Go
set_option linter.unusedSimpArgs false
set_option linter.unusedVariables false
set_option maxHeartbeats 4000000
variable {E : Env}
attribute [-simp] List.getD_eq_getElem?_getD getElem?_pos
attribute [local simp] intBeq
def bcell (c : UInt8) : AV := .p (.int .u8 c.toNat)
theorem toPs_bytes : ∀ t : List UInt8, toPs (t.map bcell) = some (t.map fun c => .int .u8 c.toNat)
  | [] => rfl
  | c :: t => by simp only [List.map_cons, toPs, bcell, toP, toPs_bytes t]
theorem chunks_bytes : ∀ t : List UInt8, chunks 1 t.length (t.map fun c => PV.int .u8 c.toNat) = byteRows t
  | [] => rfl
  | c :: t => by
    simp only [List.length_cons, List.map_cons, chunks, List.take_succ_cons, List.take_zero, List.drop_succ_cons, List.drop_zero, chunks_bytes t]
    rfl
theorem own_bytes {m : Mem} {id : Nat} {pre : List AV} {t : List UInt8} (h : m[id]? = some (.cells (pre ++ t.map bcell))) : rowsOf 1 m (.own 1 id pre.length t.length) = some (byteRows t) := by
  have h2 : ((pre ++ t.map bcell).drop pre.length).take (t.length * 1) = t.map bcell := by
    rw [List.drop_left, Nat.mul_one, List.take_of_length_le (by simp)]
  simp only [rowsOf, if_true, h, h2]
  rw [if_pos (by simp), toPs_bytes]
  simp only [chunks_bytes]
def zcell : AV := .p (.int .u8 0)
theorem set_digit (a : Nat) (t : List UInt8) (c : UInt8) : setAt (List.replicate (a + 1) zcell ++ t.map bcell) a [bcell c] = List.replicate a zcell ++ (c :: t).map bcell := by
  unfold setAt
  rw [List.take_append_of_le_length (by simp), List.drop_append_of_le_length (by simp)]
  simp [List.take_replicate, List.drop_replicate]
theorem digits_loop (K : Nat) (hK : 20 < K) (call : Caller) (n : Int) (N : Nat) (hN : N < 18446744073709551616) (st : St)
    (hst : Live Fn.f_value_Digits_k0 (Fn.f_value_Digits_s0 (.p (.int .i64 n)) (.ptr 0 0) (.p (.int .i64 20)) (.p (.int .u64 N))) [.cells (List.replicate 20 zcell)] st) :
    Wp (iter (loopF E call K Fn.f_value_Digits_k0 Fn.f_value_Digits_b0) K st)
      (fun e st => ∃ (a : Nat) (t : List UInt8), e = .exit 0 ∧ st.ds = [] ∧ digs N = t ∧ a + t.length = 20 ∧ st.m = [.cells (List.replicate a zcell ++ t.map bcell)] ∧ st.ts.length = 33 ∧ st.ts.getD 0 (.tup []) = .p (.int .i64 n) ∧ st.ts.getD 3 (.tup []) = .ptr 0 0 ∧ st.ts.getD 4 (.tup []) = .p (.int .i64 a)) := by
  have h20 := digs_len 19 N (by omega)
  refine loop_wp (α := Nat) (I := fun a st => ∃ (u : Nat) (t : List UInt8), digs N = digs u ++ t ∧ (digs u).length ≤ a ∧ a + t.length = 20 ∧ u < 18446744073709551616 ∧
      Live Fn.f_value_Digits_k0 (Fn.f_value_Digits_s0 (.p (.int .i64 n)) (.ptr 0 0) (.p (.int .i64 a)) (.p (.int .u64 u))) [.cells (List.replicate a zcell ++ t.map bcell)] st) (meas := fun a => a) ?_ K 20 st
    ⟨N, [], by simp, h20, rfl, hN, by simpa using hst⟩ hK
  rintro a st ⟨u, t, hd, hl, hat, hu, hlive⟩
  rw [loopF_live hlive]
  have hpos := digs_pos u
  obtain ⟨b, rfl⟩ : ∃ b, a = b + 1 := ⟨a - 1, by omega⟩
  have w1 : IntKind.i64.wrap (b : Int) = b := by rw [wrap_i64] <;> omega
  have w2 : IntKind.u8.wrap (48 + IntKind.u8.wrap ((u : Int).tmod 10)) = ((dgt (u % 10)).toNat : Int) := by
    rw [dgt_toNat (by omega), wrap_u8_mod, wrap_u8_mod]
    have : (u : Int).tmod 10 = ((u % 10 : Nat) : Int) := by rw [Int.tmod_eq_emod_of_nonneg (by omega)]; omega
    omega
  obtain ⟨q, hq⟩ : ∃ q, q = u / 10 := ⟨_, rfl⟩
  have w3 : IntKind.u64.wrap ((u : Int) / 10) = (q : Int) := by
    simp only [IntKind.wrap, IntKind.signed, IntKind.bits]
    simp
    omega
  have hb : b < 20 := by omega
  have hb' : b ≤ 19 := by omega
  have hset : setAt (List.replicate (b + 1) zcell ++ t.map bcell) b [.p (.int .u8 (dgt (u % 10)).toNat)] = _ := set_digit b t (dgt (u % 10))
  have hlen : (List.replicate (b + 1) zcell ++ t.map bcell).length = 20 := by simp; omega
  simp only [setAt, List.length_cons, List.length_nil, List.singleton_append, List.append_assoc, Nat.zero_add] at hset
  generalize hcs : List.replicate (b + 1) zcell ++ t.map bcell = cs at *
  generalize hc : dgt (u % 10) = c at *
  by_cases h10 : u < 10
  · have hz : q = 0 := by omega
    rw [digs_small h10] at hd
    have hm : u % 10 = u := by omega
    rw [hm] at hc
    rw [hc] at hd
    subst hz
    simp [Fn.f_value_Digits_b0, Fn.f_value_Digits_s0, w1, w2, w3, hb, hb', hlen, hset]
    refine ⟨b, ?_⟩
    simp [hd]
    omega
  · have hz : ¬ q = 0 := by omega
    simp [Fn.f_value_Digits_b0, Fn.f_value_Digits_s0, w1, w2, w3, hb, hb', hlen, hset, hz]
    rw [digs_big h10, hc, ← hq] at hd
    rw [digs_big h10, ← hq] at hl
    refine ⟨b, by omega, q, c :: t, by rw [hd]; simp, by simp at hl; omega, by simp; omega, by omega, ?_⟩
    exact ⟨rfl, rfl, by simp, rfl⟩
theorem cut_digits (a : Nat) (t : List UInt8) (h : a + t.length = 20) : rowsOf 1 [Blk.cells (List.replicate a zcell ++ t.map bcell)] (.own 1 0 a (20 - a)) = some (byteRows t) := by
  have := own_bytes (m := [Blk.cells (List.replicate a zcell ++ t.map bcell)]) (id := 0) (pre := List.replicate a zcell) (t := t) rfl
  rw [List.length_replicate] at this
  rw [← this]
  congr 2
  omega
theorem own_nil {n n' id off len : Nat} : rowsOf n [] (.own n' id off len) = none := by
  simp only [rowsOf]
  split <;> simp
theorem value_Digits (h : E.fn 39 = some Fn.f_value_Digits) (k : Nat) (n : Int) (h1 : -9223372036854775808 ≤ n) (h2 : n ≤ 9223372036854775807) (m : Mem) :
    denF E (k + 25) 39 [.p (.int .i64 n)] m = some (.ret (.p (.str (digits n))), m) := by
  refine denF_wp h rfl (args' := [.p (.int .i64 n)]) rfl ?_
  have hz : (List.replicate 20 zcell) = [zcell, zcell, zcell, zcell, zcell, zcell, zcell, zcell, zcell, zcell, zcell, zcell, zcell, zcell, zcell, zcell, zcell, zcell, zcell, zcell] := rfl
  by_cases hn : n < 0
  · have w1 : IntKind.u64.wrap (0 - IntKind.u64.wrap n) = (n.natAbs : Int) := by
      simp only [IntKind.wrap, IntKind.signed, IntKind.bits]
      simp
      omega
    have w1' : IntKind.u64.wrap (-IntKind.u64.wrap n) = (n.natAbs : Int) := by rw [← w1]; simp
    simp [Fn.f_value_Digits, hn, w1, w1']
    refine (digits_loop (k + 24) (by omega) _ n n.natAbs (by omega) _ ⟨rfl, rfl, rfl, rfl⟩).mono ?_
    rintro e st ⟨a, t, rfl, h3, h4, h5, h6, h7, h8, h9, h10⟩
    obtain ⟨ts, m', ds⟩ := st
    simp only at h3 h6 h7 h8 h9 h10
    subst h3 h6
    have hl := digs_len 18 n.natAbs (by omega)
    rw [h4] at hl
    obtain ⟨b, rfl⟩ : ∃ b, a = b + 1 := ⟨a - 1, by omega⟩
    have hb : b < 20 := by omega
    have hb' : b ≤ 19 := by omega
    have w2 : IntKind.i64.wrap (b : Int) = b := by rw [wrap_i64] <;> omega
    have hset : setAt (List.replicate (b + 1) zcell ++ t.map bcell) b [.p (.int .u8 45)] = _ := set_digit b t 45
    have hlen : (List.replicate (b + 1) zcell ++ t.map bcell).length = 20 := by simp; omega
    simp only [setAt, List.length_cons, List.length_nil, List.singleton_append, List.append_assoc, Nat.zero_add] at hset
    have hcut := cut_digits b (45 :: t) (by simp; omega)
    have hub := unBytes_rows (45 :: t)
    simp only [List.map_cons] at hcut
    have hb20 : b ≤ 20 := by omega
    have ht20 : 20 ≤ b + (t.length + 1) := by omega
    have hd : digits n = 45 :: t := by unfold digits; rw [if_pos hn, h4]
    rw [hd]
    generalize hcs : List.replicate (b + 1) zcell ++ t.map bcell = cs at *
    match ts, h7, h8, h9, h10 with
    | t0 :: t1 :: t2 :: t3 :: t4 :: t5 :: t6 :: t7 :: t8 :: t9 :: t10 :: t11 :: t12 :: t13 :: t14 :: t15 :: t16 :: t17 :: t18 :: t19 :: t20 :: t21 :: t22 :: t23 :: t24 :: t25 :: t26 :: t27 :: t28 :: t29 :: t30 :: t31 :: t32 :: [], h7, h8, h9, h10 =>
      simp at h8 h9 h10
      simp [h8, h9, h10, hn, w2, hb, hb', hb20, ht20, hlen, hset, hcut, hub, own_nil]
  · have w1 : IntKind.u64.wrap n = (n.natAbs : Int) := by
      simp only [IntKind.wrap, IntKind.signed, IntKind.bits]
      simp
      omega
    simp [Fn.f_value_Digits, hn, w1]
    refine (digits_loop (k + 24) (by omega) _ n n.natAbs (by omega) _ ⟨rfl, rfl, rfl, rfl⟩).mono ?_
    rintro e st ⟨a, t, rfl, h3, h4, h5, h6, h7, h8, h9, h10⟩
    obtain ⟨ts, m', ds⟩ := st
    simp only at h3 h6 h7 h8 h9 h10
    subst h3 h6
    have hcut := cut_digits a t h5
    have hub := unBytes_rows t
    have hb20 : a ≤ 20 := by omega
    have ht20 : 20 ≤ a + t.length := by omega
    have hd : digits n = t := by unfold digits; rw [if_neg hn, h4]
    rw [hd]
    match ts, h7, h8, h9, h10 with
    | t0 :: t1 :: t2 :: t3 :: t4 :: t5 :: t6 :: t7 :: t8 :: t9 :: t10 :: t11 :: t12 :: t13 :: t14 :: t15 :: t16 :: t17 :: t18 :: t19 :: t20 :: t21 :: t22 :: t23 :: t24 :: t25 :: t26 :: t27 :: t28 :: t29 :: t30 :: t31 :: t32 :: [], h7, h8, h9, h10 =>
      simp at h8 h9 h10
      simp [h8, h9, h10, hn, hb20, ht20, hcut, hub, own_nil]
end Hx

namespace Hx
open Go
set_option linter.unusedSimpArgs false
set_option linter.unusedVariables false
set_option maxHeartbeats 4000000
variable {E : Env}
attribute [-simp] List.getD_eq_getElem?_getD getElem?_pos
end Hx

namespace Hx
open Go
set_option linter.unusedSimpArgs false
set_option linter.unusedVariables false
set_option maxHeartbeats 8000000
variable {E : Env}
attribute [-simp] List.getD_eq_getElem?_getD getElem?_pos
structure M05 (E : Env) : Prop where
  has : E.fn 48 = some Fn.f_strings_HasPrefix
  has' : E.fn 63 = some Fn.f_internal_stringslite_HasPrefix
  digit : E.fn 45 = some Fn.f_value_digit
  number : E.fn 37 = some Fn.f_value_Number
  rdigits : E.fn 40 = some Fn.f_haulageref05_Digits
theorem has_prefix1 (u : M05 E) (k : Nat) (s : List UInt8) (c : UInt8) (m : Mem) : denF E (k + 2) 48 [.p (.str s), .p (.str [c])] m = some (.ret (.p (.bool (s.head? == some c))), m) := by
  have h : ∀ m, denF E (k + 1) 63 [.p (.str s), .p (.str [c])] m = some (.ret (.p (.bool (s.head? == some c))), m) := by
    intro m
    refine denF_wp u.has' rfl (args' := [.p (.str s), .p (.str [c])]) rfl ?_
    cases s with
    | nil => simp [Fn.f_internal_stringslite_HasPrefix]
    | cons d r =>
      have h1 : (1 : Int) ≤ (r.length : Int) + 1 := by omega
      have h2 : 1 ≤ r.length + 1 := by omega
      have h3 : ([d] == [c]) = (d == c) := by rw [Bool.eq_iff_iff]; simp
      simp [Fn.f_internal_stringslite_HasPrefix, h1, h2, h3, bounds, asNat, asInt]
  refine denF_wp u.has rfl (args' := [.p (.str s), .p (.str [c])]) rfl ?_
  simp [Fn.f_strings_HasPrefix, h]
theorem value_digit (h : E.fn 45 = some Fn.f_value_digit) (k : Nat) (c : UInt8) (m : Mem) : denF E (k + 1) 45 [.p (.int .u8 c.toNat)] m = some (.ret (.p (.bool (isDig c))), m) := by
  refine denF_wp h rfl (args' := [.p (.int .u8 c.toNat)]) rfl ?_
  unfold isDig
  have e1 : decide (48 ≤ c.toNat) = decide ((48 : Int) ≤ c.toNat) := by simp; omega
  have e2 : decide (c.toNat ≤ 57) = decide ((c.toNat : Int) ≤ 57) := by simp; omega
  rw [e1, e2]
  generalize (c.toNat : Int) = x
  by_cases h1 : (48 : Int) ≤ x <;> simp [Fn.f_value_digit, h1]
def RunFar (s : List UInt8) (f i : Nat) : Prop := f ≤ i ∧ i ≤ s.length ∧ (s.drop f).takeWhile isDig = (s.drop f).take (i - f) ++ (s.drop i).takeWhile isDig
theorem run_0 {s : List UInt8} {f : Nat} (h : f ≤ s.length) : RunFar s f f := ⟨Nat.le_refl _, h, by simp⟩
theorem run_next {s : List UInt8} {f i : Nat} {c : UInt8} (h : RunFar s f i) (hc : s[i]? = some c) (hd : isDig c = true) : RunFar s f (i + 1) := by
  obtain ⟨h1, h2, h3⟩ := h
  have hlt : i < s.length := (List.getElem?_eq_some_iff.1 hc).1
  refine ⟨by omega, hlt, ?_⟩
  rw [h3, drop_at hc, List.takeWhile_cons, if_pos hd]
  have e : i + 1 - f = (i - f) + 1 := by omega
  rw [e, List.take_add_one, List.getElem?_drop]
  have : f + (i - f) = i := by omega
  rw [this, hc, List.append_assoc]
  rfl
theorem run_stop {s : List UInt8} {f i : Nat} (h : RunFar s f i) (hd : ∀ c, s[i]? = some c → isDig c = false) : (s.drop f).takeWhile isDig = (s.take i).drop f ∧ i = f + ((s.drop f).takeWhile isDig).length := by
  obtain ⟨h1, h2, h3⟩ := h
  have : (s.drop i).takeWhile isDig = [] := by
    cases hc : s[i]? with
    | none =>
      rw [List.getElem?_eq_none_iff] at hc
      rw [List.drop_eq_nil_of_le hc]
      rfl
    | some c =>
      rw [drop_at hc, List.takeWhile_cons, hd c hc]
      rfl
  rw [this, List.append_nil] at h3
  rw [h3]
  refine ⟨by rw [List.drop_take], ?_⟩
  rw [List.length_take, List.length_drop]
  omega
theorem u8_beq {c d : UInt8} : (c == d) = ((c.toNat : Int) == d.toNat) := by
  rw [Bool.eq_iff_iff]
  simp only [beq_iff_eq]
  constructor
  · intro h; rw [h]
  · intro h; exact UInt8.toNat_inj.1 (by omega)
def numT (n size e : Int) : AV := .tup [.p (.int .i64 n), .p (.int .i64 size), .p (.int .i64 e)]
def ahead (neg : Bool) : Nat := if neg then 1 else 0
def mostOf (neg : Bool) : Nat := if neg then 9223372036854775808 else 9223372036854775807
def bad0 (neg : Bool) (D : List UInt8) : Bool := D.isEmpty || (D.head? == some 48 && (neg || decide (1 < D.length)))
def numO (neg : Bool) (D : List UInt8) : AV :=
  if bad0 neg D then numT 0 0 5 else if numVal 0 D ≤ mostOf neg then numT (if neg then -(numVal 0 D : Int) else numVal 0 D) ((ahead neg + D.length : Nat) : Int) 0 else numT 0 0 10
def runD (neg : Bool) (s : List UInt8) : List UInt8 := (s.drop (ahead neg)).takeWhile isDig
def numS (s : List UInt8) : AV := numO (s.head? == some 45) (runD (s.head? == some 45) s)
theorem run_digs (neg : Bool) (s : List UInt8) : ∀ c ∈ runD neg s, isDig c = true := by
  intro c hc
  unfold runD at hc
  exact List.all_eq_true.1 (List.all_takeWhile) c hc
theorem number_run (h : E.fn 45 = some Fn.f_value_digit) (s : List UInt8) (hs : (s.length : Int) ≤ 1000000000000) (neg : Bool) (hf : ahead neg ≤ s.length) (K : Nat) (hK : s.length + 2 ≤ K) (st : St)
    (hst : Live Fn.f_value_Number_k0 (Fn.f_value_Number_s0 (.p (.str s)) (.p (.bool neg)) (.p (.int .i64 (ahead neg))) (.p (.int .i64 (ahead neg)))) [] st) :
    Wp (iter (loopF E (denF E K) K Fn.f_value_Number_k0 Fn.f_value_Number_b0) K st)
      (fun e st => e = .exit 0 ∧ st.ds = [] ∧ st.m = [] ∧ st.ts.length = 80 ∧ st.ts.getD 0 (.tup []) = .p (.str s) ∧ st.ts.getD 5 (.tup []) = .p (.bool neg) ∧ st.ts.getD 6 (.tup []) = .p (.int .i64 (ahead neg)) ∧
        st.ts.getD 7 (.tup []) = .p (.int .i64 ((ahead neg + (runD neg s).length : Nat) : Int)) ∧ ahead neg + (runD neg s).length ≤ s.length ∧ (s.take (ahead neg + (runD neg s).length)).drop (ahead neg) = runD neg s) := by
  obtain ⟨j, rfl⟩ : ∃ j, K = j + 1 := ⟨K - 1, by omega⟩
  generalize hfe : ahead neg = f at *
  refine loop_wp (α := Nat) (I := fun i st => RunFar s f i ∧ Live Fn.f_value_Number_k0 (Fn.f_value_Number_s0 (.p (.str s)) (.p (.bool neg)) (.p (.int .i64 f)) (.p (.int .i64 i))) [] st) (meas := fun i => s.length - i)
    ?_ (j + 1) f st ⟨run_0 hf, hst⟩ (by omega)
  rintro i st ⟨hr, hlive⟩
  rw [loopF_live hlive]
  have stop : (∀ c, s[i]? = some c → isDig c = false) → i = f + (runD neg s).length ∧ (s.take i).drop f = runD neg s := by
    intro h
    obtain ⟨h1, h2⟩ := run_stop hr h
    unfold runD
    rw [hfe]
    exact ⟨h2, h1.symm⟩
  by_cases hi : i < s.length
  · have hi' : (i : Int) < s.length := by omega
    obtain ⟨c, hc⟩ : ∃ c, s[i]? = some c := ⟨_, List.getElem?_eq_getElem hi⟩
    have hd := fun m => value_digit h j c m
    have hw : IntKind.i64.wrap ((i : Int) + 1) = i + 1 := wrap_i64 (by omega) (by omega)
    cases hq : isDig c with
    | true =>
      rw [hq] at hd
      have hn := run_next hr hc hq
      simp [Fn.f_value_Number_b0, Fn.f_value_Number_s0, hi, hi', hc, hd, hw]
      exact ⟨i + 1, by omega, hn, rfl, rfl, rfl, rfl⟩
    | false =>
      rw [hq] at hd
      obtain ⟨h1, h2⟩ := stop (fun d hd' => by rw [hc] at hd'; obtain rfl := Option.some.inj hd'; exact hq)
      rw [← h1]
      simp [Fn.f_value_Number_b0, Fn.f_value_Number_s0, hi, hi', hc, hd]
      exact ⟨by omega, h2⟩
  · have hi' : ¬ (i : Int) < s.length := by omega
    obtain ⟨h1, h2⟩ := stop (fun d hd' => by rw [List.getElem?_eq_none (by omega)] at hd'; cases hd')
    rw [← h1]
    have := hr.2.1
    simp [Fn.f_value_Number_b0, Fn.f_value_Number_s0, hi, hi']
    exact ⟨by omega, h2⟩
theorem number_val (K : Nat) (call : Caller) (neg : Bool) (D : List UInt8) (hD : ∀ c ∈ D, isDig c = true) (hl : (D.length : Int) ≤ 1000000000000) (hK : D.length < K) (end' : AV) (st : St)
    (hst : Live Fn.f_value_Number_k1 (Fn.f_value_Number_s1 (.p (.bool neg)) end' (.p (.int .u64 (mostOf neg))) (.p (.int .u64 0)) (.tv 1 (byteRows D) 0) (.p (.int .i64 D.length)) (.p (.int .i64 0))) [.tok 1 D.length] st) :
    Wp (iter (loopF E call K Fn.f_value_Number_k1 Fn.f_value_Number_b1) K st)
      (fun e st => st.ds = [] ∧ st.ts.length = 80 ∧ ((e = .exit 2 ∧ numVal 0 D ≤ mostOf neg ∧ st.ts.getD 5 (.tup []) = .p (.bool neg) ∧ st.ts.getD 7 (.tup []) = end' ∧ st.ts.getD 9 (.tup []) = .p (.int .u64 (numVal 0 D))) ∨
        (e = .ret ∧ mostOf neg < numVal 0 D ∧ st.ts.getD 2 (.tup []) = .p (.int .i64 0) ∧ st.ts.getD 3 (.tup []) = .p (.int .i64 0) ∧ st.ts.getD 4 (.tup []) = .p (.int .i64 10)))) := by
  refine loop_wp (α := Nat) (I := fun i st => ∃ u : Nat, i ≤ D.length ∧ numVal 0 D = numVal u (D.drop i) ∧ u ≤ mostOf neg ∧
      Live Fn.f_value_Number_k1 (Fn.f_value_Number_s1 (.p (.bool neg)) end' (.p (.int .u64 (mostOf neg))) (.p (.int .u64 u)) (.tv 1 (byteRows D) 0) (.p (.int .i64 D.length)) (.p (.int .i64 i))) [.tok 1 D.length] st) (meas := fun i => D.length - i)
    ?_ K 0 st ⟨0, Nat.zero_le _, rfl, Nat.zero_le _, hst⟩ (by omega)
  rintro i st ⟨u, hi0, hv, hu, hlive⟩
  rw [loopF_live hlive]
  have hM : mostOf neg ≤ 9223372036854775808 ∧ 9223372036854775807 ≤ mostOf neg := by unfold mostOf; split <;> omega
  generalize mostOf neg = M at *
  by_cases hi : i < D.length
  · have hi' : (i : Int) < D.length := by omega
    obtain ⟨c, hc⟩ : ∃ c, D[i]? = some c := ⟨_, List.getElem?_eq_getElem hi⟩
    have hrow : (byteRows D)[i]? = some [.int .u8 c.toNat] := by unfold byteRows; rw [List.getElem?_map, hc]; rfl
    have hw : IntKind.i64.wrap ((i : Int) + 1) = i + 1 := wrap_i64 (by omega) (by omega)
    have hcd := hD c (List.mem_of_getElem? hc)
    unfold isDig at hcd
    simp only [Bool.and_eq_true, decide_eq_true_eq] at hcd
    have hdv : (dval c : Int) = (c.toNat : Int) - 48 := by unfold dval; omega
    have hd9 : dval c ≤ 9 := by unfold dval; omega
    have w1 : IntKind.u8.wrap ((c.toNat : Int) - 48) = dval c := by rw [wrap_u8 (by omega) (by omega)]; omega
    have hu64 : ∀ x : Int, 0 ≤ x → x < 18446744073709551616 → IntKind.u64.wrap x = x := by
      intro x h1 h2
      simp only [IntKind.wrap, IntKind.signed, IntKind.bits]
      simp
      omega
    rw [drop_at hc, numVal_cons] at hv
    generalize dval c = d at *
    have w2 : IntKind.u64.wrap (d : Int) = d := hu64 _ (by omega) (by omega)
    have w3 : IntKind.u64.wrap ((M : Int) - d) = M - d := hu64 _ (by omega) (by omega)
    have w4 : IntKind.u64.wrap (((M : Int) - d).tdiv 10) = ((M - d) / 10 : Nat) := by
      rw [Int.tdiv_eq_ediv_of_nonneg (by omega), hu64 _ (by omega) (by omega)]
      omega
    obtain ⟨q, hq⟩ : ∃ q : Nat, q = (M - d) / 10 := ⟨_, rfl⟩
    rw [← hq] at w4
    by_cases hg : q < u
    · have hbig : M < numVal 0 D := by
        have := numVal_ge (10 * u + d) (D.drop (i + 1))
        omega
      have hg' : (q : Int) < u := by omega
      simp [Fn.f_value_Number_b1, Fn.f_value_Number_s1, hi, hi', hrow, hw, w1, w2, w3, w4, hg, hg', hbig]
    · have hg' : ¬ (q : Int) < u := by omega
      have w5 : IntKind.u64.wrap ((u : Int) * 10) = u * 10 := hu64 _ (by omega) (by omega)
      have w6 : IntKind.u64.wrap ((u : Int) * 10 + d) = ((10 * u + d : Nat) : Int) := by rw [hu64 _ (by omega) (by omega)]; omega
      simp [Fn.f_value_Number_b1, Fn.f_value_Number_s1, hi, hi', hrow, hw, w1, w2, w3, w4, w5, hg, hg']
      refine ⟨i + 1, by omega, by omega, 10 * u + d, hv, by omega, rfl, ?_, rfl, rfl⟩
      simp [keep, Fn.f_value_Number_k1, Fn.f_value_Number_s1, w6]
  · have hi2 : i = D.length := by omega
    subst hi2
    rw [List.drop_length, numVal_nil] at hv
    subst hv
    simp [Fn.f_value_Number_b1, Fn.f_value_Number_s1, hu]
end Hx
