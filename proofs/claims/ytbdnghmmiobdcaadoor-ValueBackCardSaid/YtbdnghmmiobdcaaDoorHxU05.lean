/-
  HxU05: the digits of a number, as both the program and the document write them.
-/
import Derived.Test.YtbdnghmmiobdcaaDoorHxU06
import Derived.Test.YtbdnghmmiobdcaaDoorHxM05
import Derived.Test.YtbdnghmmiobdcaaDoorHxU03j
namespace Hx
open Go
set_option linter.unusedSimpArgs false
set_option linter.unusedVariables false
set_option maxHeartbeats 4000000
variable {E : Env}
attribute [-simp] List.getD_eq_getElem?_getD getElem?_pos
attribute [local simp] intBeq
def bcell (c : UInt8) : AV := .p (.int .u8 c.toNat)
theorem toPs_bytes : ∀ t : List UInt8, toPs (t.map bcell) = some (t.map fun c => .int .u8 c.toNat)
  | [] => rfl
  | c :: t => by simp only [List.map_cons, toPs, bcell, toP, toPs_bytes t]
theorem chunks_bytes : ∀ t : List UInt8, chunks 1 t.length (t.map fun c => PV.int .u8 c.toNat) = byteRows t
  | [] => rfl
  | c :: t => by
    simp only [List.length_cons, List.map_cons, chunks, List.take_succ_cons, List.take_zero, List.drop_succ_cons, List.drop_zero, chunks_bytes t]
    rfl
theorem own_bytes {m : Mem} {id : Nat} {pre : List AV} {t : List UInt8} (h : m[id]? = some (.cells (pre ++ t.map bcell))) : rowsOf 1 m (.own 1 id pre.length t.length) = some (byteRows t) := by
  have h2 : ((pre ++ t.map bcell).drop pre.length).take (t.length * 1) = t.map bcell := by
    rw [List.drop_left, Nat.mul_one, List.take_of_length_le (by simp)]
  simp only [rowsOf, if_true, h, h2]
  rw [if_pos (by simp), toPs_bytes]
  simp only [chunks_bytes]
def zcell : AV := .p (.int .u8 0)
theorem set_digit (a : Nat) (t : List UInt8) (c : UInt8) : setAt (List.replicate (a + 1) zcell ++ t.map bcell) a [bcell c] = List.replicate a zcell ++ (c :: t).map bcell := by
  unfold setAt
  rw [List.take_append_of_le_length (by simp), List.drop_append_of_le_length (by simp)]
  simp [List.take_replicate, List.drop_replicate]
theorem digits_loop (K : Nat) (hK : 20 < K) (call : Caller) (n : Int) (N : Nat) (hN : N < 18446744073709551616) (st : St)
    (hst : Live Fn.f_value_Digits_k0 (Fn.f_value_Digits_s0 (.p (.int .i64 n)) (.ptr 0 0) (.p (.int .i64 20)) (.p (.int .u64 N))) [.cells (List.replicate 20 zcell)] st) :
    Wp (iter (loopF E call K Fn.f_value_Digits_k0 Fn.f_value_Digits_b0) K st)
      (fun e st => ∃ (a : Nat) (t : List UInt8), e = .exit 0 ∧ st.ds = [] ∧ digs N = t ∧ a + t.length = 20 ∧ st.m = [.cells (List.replicate a zcell ++ t.map bcell)] ∧ st.ts.length = 33 ∧ st.ts.getD 0 (.tup []) = .p (.int .i64 n) ∧ st.ts.getD 3 (.tup []) = .ptr 0 0 ∧ st.ts.getD 4 (.tup []) = .p (.int .i64 a)) := by
  have h20 := digs_len 19 N (by omega)
  refine loop_wp (α := Nat) (I := fun a st => ∃ (u : Nat) (t : List UInt8), digs N = digs u ++ t ∧ (digs u).length ≤ a ∧ a + t.length = 20 ∧ u < 18446744073709551616 ∧
      Live Fn.f_value_Digits_k0 (Fn.f_value_Digits_s0 (.p (.int .i64 n)) (.ptr 0 0) (.p (.int .i64 a)) (.p (.int .u64 u))) [.cells (List.replicate a zcell ++ t.map bcell)] st) (meas := fun a => a) ?_ K 20 st
    ⟨N, [], by simp, h20, rfl, hN, by simpa using hst⟩ hK
  rintro a st ⟨u, t, hd, hl, hat, hu, hlive⟩
  rw [loopF_live hlive]
  have hpos := digs_pos u
  obtain ⟨b, rfl⟩ : ∃ b, a = b + 1 := ⟨a - 1, by omega⟩
  have w1 : IntKind.i64.wrap (b : Int) = b := by rw [wrap_i64] <;> omega
  have w2 : IntKind.u8.wrap (48 + IntKind.u8.wrap ((u : Int).tmod 10)) = ((dgt (u % 10)).toNat : Int) := by
    rw [dgt_toNat (by omega), wrap_u8_mod, wrap_u8_mod]
    have : (u : Int).tmod 10 = ((u % 10 : Nat) : Int) := by rw [Int.tmod_eq_emod_of_nonneg (by omega)]; omega
    omega
  obtain ⟨q, hq⟩ : ∃ q, q = u / 10 := ⟨_, rfl⟩
  have w3 : IntKind.u64.wrap ((u : Int) / 10) = (q : Int) := by
    simp only [IntKind.wrap, IntKind.signed, IntKind.bits]
    simp
    omega
  have hb : b < 20 := by omega
  have hb' : b ≤ 19 := by omega
  have hset : setAt (List.replicate (b + 1) zcell ++ t.map bcell) b [.p (.int .u8 (dgt (u % 10)).toNat)] = _ := set_digit b t (dgt (u % 10))
  have hlen : (List.replicate (b + 1) zcell ++ t.map bcell).length = 20 := by simp; omega
  simp only [setAt, List.length_cons, List.length_nil, List.singleton_append, List.append_assoc, Nat.zero_add] at hset
  generalize hcs : List.replicate (b + 1) zcell ++ t.map bcell = cs at *
  generalize hc : dgt (u % 10) = c at *
  by_cases h10 : u < 10
  · have hz : q = 0 := by omega
    rw [digs_small h10] at hd
    have hm : u % 10 = u := by omega
    rw [hm] at hc
    rw [hc] at hd
    subst hz
    simp [Fn.f_value_Digits_b0, Fn.f_value_Digits_s0, w1, w2, w3, hb, hb', hlen, hset]
    refine ⟨b, ?_⟩
    simp [hd]
    omega
  · have hz : ¬ q = 0 := by omega
    simp [Fn.f_value_Digits_b0, Fn.f_value_Digits_s0, w1, w2, w3, hb, hb', hlen, hset, hz]
    rw [digs_big h10, hc, ← hq] at hd
    rw [digs_big h10, ← hq] at hl
    refine ⟨b, by omega, q, c :: t, by rw [hd]; simp, by simp at hl; omega, by simp; omega, by omega, ?_⟩
    exact ⟨rfl, rfl, by simp, rfl⟩
theorem cut_digits (a : Nat) (t : List UInt8) (h : a + t.length = 20) : rowsOf 1 [Blk.cells (List.replicate a zcell ++ t.map bcell)] (.own 1 0 a (20 - a)) = some (byteRows t) := by
  have := own_bytes (m := [Blk.cells (List.replicate a zcell ++ t.map bcell)]) (id := 0) (pre := List.replicate a zcell) (t := t) rfl
  rw [List.length_replicate] at this
  rw [← this]
  congr 2
  omega
theorem own_nil {n n' id off len : Nat} : rowsOf n [] (.own n' id off len) = none := by
  simp only [rowsOf]
  split <;> simp
theorem value_Digits (h : E.fn 39 = some Fn.f_value_Digits) (k : Nat) (n : Int) (h1 : -9223372036854775808 ≤ n) (h2 : n ≤ 9223372036854775807) (m : Mem) :
    denF E (k + 25) 39 [.p (.int .i64 n)] m = some (.ret (.p (.str (digits n))), m) := by
  refine denF_wp h rfl (args' := [.p (.int .i64 n)]) rfl ?_
  have hz : (List.replicate 20 zcell) = [zcell, zcell, zcell, zcell, zcell, zcell, zcell, zcell, zcell, zcell, zcell, zcell, zcell, zcell, zcell, zcell, zcell, zcell, zcell, zcell] := rfl
  by_cases hn : n < 0
  · have w1 : IntKind.u64.wrap (0 - IntKind.u64.wrap n) = (n.natAbs : Int) := by
      simp only [IntKind.wrap, IntKind.signed, IntKind.bits]
      simp
      omega
    have w1' : IntKind.u64.wrap (-IntKind.u64.wrap n) = (n.natAbs : Int) := by rw [← w1]; simp
    simp [Fn.f_value_Digits, hn, w1, w1']
    refine (digits_loop (k + 24) (by omega) _ n n.natAbs (by omega) _ ⟨rfl, rfl, rfl, rfl⟩).mono ?_
    rintro e st ⟨a, t, rfl, h3, h4, h5, h6, h7, h8, h9, h10⟩
    obtain ⟨ts, m', ds⟩ := st
    simp only at h3 h6 h7 h8 h9 h10
    subst h3 h6
    have hl := digs_len 18 n.natAbs (by omega)
    rw [h4] at hl
    obtain ⟨b, rfl⟩ : ∃ b, a = b + 1 := ⟨a - 1, by omega⟩
    have hb : b < 20 := by omega
    have hb' : b ≤ 19 := by omega
    have w2 : IntKind.i64.wrap (b : Int) = b := by rw [wrap_i64] <;> omega
    have hset : setAt (List.replicate (b + 1) zcell ++ t.map bcell) b [.p (.int .u8 45)] = _ := set_digit b t 45
    have hlen : (List.replicate (b + 1) zcell ++ t.map bcell).length = 20 := by simp; omega
    simp only [setAt, List.length_cons, List.length_nil, List.singleton_append, List.append_assoc, Nat.zero_add] at hset
    have hcut := cut_digits b (45 :: t) (by simp; omega)
    have hub := unBytes_rows (45 :: t)
    simp only [List.map_cons] at hcut
    have hb20 : b ≤ 20 := by omega
    have ht20 : 20 ≤ b + (t.length + 1) := by omega
    have hd : digits n = 45 :: t := by unfold digits; rw [if_pos hn, h4]
    rw [hd]
    generalize hcs : List.replicate (b + 1) zcell ++ t.map bcell = cs at *
    match ts, h7, h8, h9, h10 with
    | t0 :: t1 :: t2 :: t3 :: t4 :: t5 :: t6 :: t7 :: t8 :: t9 :: t10 :: t11 :: t12 :: t13 :: t14 :: t15 :: t16 :: t17 :: t18 :: t19 :: t20 :: t21 :: t22 :: t23 :: t24 :: t25 :: t26 :: t27 :: t28 :: t29 :: t30 :: t31 :: t32 :: [], h7, h8, h9, h10 =>
      simp at h8 h9 h10
      simp [h8, h9, h10, hn, w2, hb, hb', hb20, ht20, hlen, hset, hcut, hub, own_nil]
  · have w1 : IntKind.u64.wrap n = (n.natAbs : Int) := by
      simp only [IntKind.wrap, IntKind.signed, IntKind.bits]
      simp
      omega
    simp [Fn.f_value_Digits, hn, w1]
    refine (digits_loop (k + 24) (by omega) _ n n.natAbs (by omega) _ ⟨rfl, rfl, rfl, rfl⟩).mono ?_
    rintro e st ⟨a, t, rfl, h3, h4, h5, h6, h7, h8, h9, h10⟩
    obtain ⟨ts, m', ds⟩ := st
    simp only at h3 h6 h7 h8 h9 h10
    subst h3 h6
    have hcut := cut_digits a t h5
    have hub := unBytes_rows t
    have hb20 : a ≤ 20 := by omega
    have ht20 : 20 ≤ a + t.length := by omega
    have hd : digits n = t := by unfold digits; rw [if_neg hn, h4]
    rw [hd]
    match ts, h7, h8, h9, h10 with
    | t0 :: t1 :: t2 :: t3 :: t4 :: t5 :: t6 :: t7 :: t8 :: t9 :: t10 :: t11 :: t12 :: t13 :: t14 :: t15 :: t16 :: t17 :: t18 :: t19 :: t20 :: t21 :: t22 :: t23 :: t24 :: t25 :: t26 :: t27 :: t28 :: t29 :: t30 :: t31 :: t32 :: [], h7, h8, h9, h10 =>
      simp at h8 h9 h10
      simp [h8, h9, h10, hn, hb20, ht20, hcut, hub, own_nil]
end Hx
