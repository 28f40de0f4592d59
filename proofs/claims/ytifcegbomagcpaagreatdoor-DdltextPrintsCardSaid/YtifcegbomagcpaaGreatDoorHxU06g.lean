/-
  HxU06g: types as texts.
-/
import Derived.Test.YtifcegbomagcpaaGreatDoorHxU06
import Derived.Test.YtifcegbomagcpaaGreatDoorHxM05b
import Derived.Test.YtifcegbomagcpaaGreatDoorHxFn06
namespace Hx
open Go
set_option linter.unusedSimpArgs false
set_option linter.unusedVariables false
set_option maxHeartbeats 4000000
variable {E : Env}
attribute [-simp] List.getD_eq_getElem?_getD getElem?_pos
attribute [local simp] intBeq
def bcell (c : UInt8) : AV := .p (.int .u8 c.toNat)
theorem toPs_bytes : ∀ t : List UInt8, toPs (t.map bcell) = some (t.map fun c => .int .u8 c.toNat)
  | [] => rfl
  | c :: t => by simp only [List.map_cons, toPs, bcell, toP, toPs_bytes t]
theorem chunks_bytes : ∀ t : List UInt8, chunks 1 t.length (t.map fun c => PV.int .u8 c.toNat) = byteRows t
  | [] => rfl
  | c :: t => by
    simp only [List.length_cons, List.map_cons, chunks, List.take_succ_cons, List.take_zero, List.drop_succ_cons, List.drop_zero, chunks_bytes t]
    rfl
theorem own_bytes {m : Mem} {id : Nat} {pre : List AV} {t : List UInt8} (h : m[id]? = some (.cells (pre ++ t.map bcell))) : rowsOf 1 m (.own 1 id pre.length t.length) = some (byteRows t) := by
  have h2 : ((pre ++ t.map bcell).drop pre.length).take (t.length * 1) = t.map bcell := by
    rw [List.drop_left, Nat.mul_one, List.take_of_length_le (by simp)]
  simp only [rowsOf, if_true, h, h2]
  rw [if_pos (by simp), toPs_bytes]
  simp only [chunks_bytes]
def zcell : AV := .p (.int .u8 0)
theorem set_digit (a : Nat) (t : List UInt8) (c : UInt8) : setAt (List.replicate (a + 1) zcell ++ t.map bcell) a [bcell c] = List.replicate a zcell ++ (c :: t).map bcell := by
  unfold setAt
  rw [List.take_append_of_le_length (by simp), List.drop_append_of_le_length (by simp)]
  simp [List.take_replicate, List.drop_replicate]
theorem digits_loop (K : Nat) (hK : 20 < K) (call : Caller) (n : Int) (N : Nat) (hN : N < 18446744073709551616) (st : St)
    (hst : Live Fn.f_value_Digits_k0 (Fn.f_value_Digits_s0 (.p (.int .i64 n)) (.ptr 0 0) (.p (.int .i64 20)) (.p (.int .u64 N))) [.cells (List.replicate 20 zcell)] st) :
    Wp (iter (loopF E call K Fn.f_value_Digits_k0 Fn.f_value_Digits_b0) K st)
      (fun e st => ∃ (a : Nat) (t : List UInt8), e = .exit 0 ∧ st.ds = [] ∧ digs N = t ∧ a + t.length = 20 ∧ st.m = [.cells (List.replicate a zcell ++ t.map bcell)] ∧ st.ts.length = 33 ∧ st.ts.getD 0 (.tup []) = .p (.int .i64 n) ∧ st.ts.getD 3 (.tup []) = .ptr 0 0 ∧ st.ts.getD 4 (.tup []) = .p (.int .i64 a)) := by
  have h20 := digs_len 19 N (by omega)
  refine loop_wp (α := Nat) (I := fun a st => ∃ (u : Nat) (t : List UInt8), digs N = digs u ++ t ∧ (digs u).length ≤ a ∧ a + t.length = 20 ∧ u < 18446744073709551616 ∧
      Live Fn.f_value_Digits_k0 (Fn.f_value_Digits_s0 (.p (.int .i64 n)) (.ptr 0 0) (.p (.int .i64 a)) (.p (.int .u64 u))) [.cells (List.replicate a zcell ++ t.map bcell)] st) (meas := fun a => a) ?_ K 20 st
    ⟨N, [], by simp, h20, rfl, hN, by simpa using hst⟩ hK
  rintro a st ⟨u, t, hd, hl, hat, hu, hlive⟩
  rw [loopF_live hlive]
  have hpos := digs_pos u
  obtain ⟨b, rfl⟩ : ∃ b, a = b + 1 := ⟨a - 1, by omega⟩
  have w1 : IntKind.i64.wrap (b : Int) = b := by rw [wrap_i64] <;> omega
  have w2 : IntKind.u8.wrap (48 + IntKind.u8.wrap ((u : Int).tmod 10)) = ((dgt (u % 10)).toNat : Int) := by
    rw [dgt_toNat (by omega), wrap_u8_mod, wrap_u8_mod]
    have : (u : Int).tmod 10 = ((u % 10 : Nat) : Int) := by rw [Int.tmod_eq_emod_of_nonneg (by omega)]; omega
    omega
  obtain ⟨q, hq⟩ : ∃ q, q = u / 10 := ⟨_, rfl⟩
  have w3 : IntKind.u64.wrap ((u : Int) / 10) = (q : Int) := by
    simp only [IntKind.wrap, IntKind.signed, IntKind.bits]
    simp
    omega
  have hb : b < 20 := by omega
  have hb' : b ≤ 19 := by omega
  have hset : setAt (List.replicate (b + 1) zcell ++ t.map bcell) b [.p (.int .u8 (dgt (u % 10)).toNat)] = _ := set_digit b t (dgt (u % 10))
  have hlen : (List.replicate (b + 1) zcell ++ t.map bcell).length = 20 := by simp; omega
  simp only [setAt, List.length_cons, List.length_nil, List.singleton_append, List.append_assoc, Nat.zero_add] at hset
  generalize hcs : List.replicate (b + 1) zcell ++ t.map bcell = cs at *
  generalize hc : dgt (u % 10) = c at *
  by_cases h10 : u < 10
  · have hz : q = 0 := by omega
    rw [digs_small h10] at hd
    have hm : u % 10 = u := by omega
    rw [hm] at hc
    rw [hc] at hd
    subst hz
    simp [Fn.f_value_Digits_b0, Fn.f_value_Digits_s0, w1, w2, w3, hb, hb', hlen, hset]
    refine ⟨b, ?_⟩
    simp [hd]
    omega
  · have hz : ¬ q = 0 := by omega
    simp [Fn.f_value_Digits_b0, Fn.f_value_Digits_s0, w1, w2, w3, hb, hb', hlen, hset, hz]
    rw [digs_big h10, hc, ← hq] at hd
    rw [digs_big h10, ← hq] at hl
    refine ⟨b, by omega, q, c :: t, by rw [hd]; simp, by simp at hl; omega, by simp; omega, by omega, ?_⟩
    exact ⟨rfl, rfl, by simp, rfl⟩
theorem cut_digits (a : Nat) (t : List UInt8) (h : a + t.length = 20) : rowsOf 1 [Blk.cells (List.replicate a zcell ++ t.map bcell)] (.own 1 0 a (20 - a)) = some (byteRows t) := by
  have := own_bytes (m := [Blk.cells (List.replicate a zcell ++ t.map bcell)]) (id := 0) (pre := List.replicate a zcell) (t := t) rfl
  rw [List.length_replicate] at this
  rw [← this]
  congr 2
  omega
theorem own_nil {n n' id off len : Nat} : rowsOf n [] (.own n' id off len) = none := by
  simp only [rowsOf]
  split <;> simp
theorem value_Digits (h : E.fn 39 = some Fn.f_value_Digits) (k : Nat) (n : Int) (h1 : -9223372036854775808 ≤ n) (h2 : n ≤ 9223372036854775807) (m : Mem) :
    denF E (k + 25) 39 [.p (.int .i64 n)] m = some (.ret (.p (.str (digits n))), m) := by
  refine denF_wp h rfl (args' := [.p (.int .i64 n)]) rfl ?_
  have hz : (List.replicate 20 zcell) = [zcell, zcell, zcell, zcell, zcell, zcell, zcell, zcell, zcell, zcell, zcell, zcell, zcell, zcell, zcell, zcell, zcell, zcell, zcell, zcell] := rfl
  by_cases hn : n < 0
  · have w1 : IntKind.u64.wrap (0 - IntKind.u64.wrap n) = (n.natAbs : Int) := by
      simp only [IntKind.wrap, IntKind.signed, IntKind.bits]
      simp
      omega
    have w1' : IntKind.u64.wrap (-IntKind.u64.wrap n) = (n.natAbs : Int) := by rw [← w1]; simp
    simp [Fn.f_value_Digits, hn, w1, w1']
    refine (digits_loop (k + 24) (by omega) _ n n.natAbs (by omega) _ ⟨rfl, rfl, rfl, rfl⟩).mono ?_
    rintro e st ⟨a, t, rfl, h3, h4, h5, h6, h7, h8, h9, h10⟩
    obtain ⟨ts, m', ds⟩ := st
    simp only at h3 h6 h7 h8 h9 h10
    subst h3 h6
    have hl := digs_len 18 n.natAbs (by omega)
    rw [h4] at hl
    obtain ⟨b, rfl⟩ : ∃ b, a = b + 1 := ⟨a - 1, by omega⟩
    have hb : b < 20 := by omega
    have hb' : b ≤ 19 := by omega
    have w2 : IntKind.i64.wrap (b : Int) = b := by rw [wrap_i64] <;> omega
    have hset : setAt (List.replicate (b + 1) zcell ++ t.map bcell) b [.p (.int .u8 45)] = _ := set_digit b t 45
    have hlen : (List.replicate (b + 1) zcell ++ t.map bcell).length = 20 := by simp; omega
    simp only [setAt, List.length_cons, List.length_nil, List.singleton_append, List.append_assoc, Nat.zero_add] at hset
    have hcut := cut_digits b (45 :: t) (by simp; omega)
    have hub := unBytes_rows (45 :: t)
    simp only [List.map_cons] at hcut
    have hb20 : b ≤ 20 := by omega
    have ht20 : 20 ≤ b + (t.length + 1) := by omega
    have hd : digits n = 45 :: t := by unfold digits; rw [if_pos hn, h4]
    rw [hd]
    generalize hcs : List.replicate (b + 1) zcell ++ t.map bcell = cs at *
    match ts, h7, h8, h9, h10 with
    | t0 :: t1 :: t2 :: t3 :: t4 :: t5 :: t6 :: t7 :: t8 :: t9 :: t10 :: t11 :: t12 :: t13 :: t14 :: t15 :: t16 :: t17 :: t18 :: t19 :: t20 :: t21 :: t22 :: t23 :: t24 :: t25 :: t26 :: t27 :: t28 :: t29 :: t30 :: t31 :: t32 :: [], h7, h8, h9, h10 =>
      simp at h8 h9 h10
      simp [h8, h9, h10, hn, w2, hb, hb', hb20, ht20, hlen, hset, hcut, hub, own_nil]
  · have w1 : IntKind.u64.wrap n = (n.natAbs : Int) := by
      simp only [IntKind.wrap, IntKind.signed, IntKind.bits]
      simp
      omega
    simp [Fn.f_value_Digits, hn, w1]
    refine (digits_loop (k + 24) (by omega) _ n n.natAbs (by omega) _ ⟨rfl, rfl, rfl, rfl⟩).mono ?_
    rintro e st ⟨a, t, rfl, h3, h4, h5, h6, h7, h8, h9, h10⟩
    obtain ⟨ts, m', ds⟩ := st
    simp only at h3 h6 h7 h8 h9 h10
    subst h3 h6
    have hcut := cut_digits a t h5
    have hub := unBytes_rows t
    have hb20 : a ≤ 20 := by omega
    have ht20 : 20 ≤ a + t.length := by omega
    have hd : digits n = t := by unfold digits; rw [if_neg hn, h4]
    rw [hd]
    match ts, h7, h8, h9, h10 with
    | t0 :: t1 :: t2 :: t3 :: t4 :: t5 :: t6 :: t7 :: t8 :: t9 :: t10 :: t11 :: t12 :: t13 :: t14 :: t15 :: t16 :: t17 :: t18 :: t19 :: t20 :: t21 :: t22 :: t23 :: t24 :: t25 :: t26 :: t27 :: t28 :: t29 :: t30 :: t31 :: t32 :: [], h7, h8, h9, h10 =>
      simp at h8 h9 h10
      simp [h8, h9, h10, hn, hb20, ht20, hcut, hub, own_nil]
end Hx

namespace Hx
open Go
set_option linter.unusedSimpArgs false
set_option linter.unusedVariables false
set_option maxHeartbeats 4000000
variable {E : Env}
attribute [-simp] List.getD_eq_getElem?_getD getElem?_pos
theorem ref_Dig1 (h : E.fn 40 = some Fn.f_haulageref05_Digits) (k : Nat) (n : Int) (h1 : 0 ≤ n) (h2 : n < 10) (m : Mem) : denF E (k + 1) 40 [.p (.int .i64 n)] m = some (.ret (.p (.str (digits n))), m) := by
  refine denF_wp h rfl (args' := [.p (.int .i64 n)]) rfl ?_
  have hd : digits n = [dgt n.toNat] := by
    unfold digits
    rw [if_neg (by omega), digs_small (by omega)]
    congr 2
    omega
  rw [hd]
  have : n = 0 ∨ n = 1 ∨ n = 2 ∨ n = 3 ∨ n = 4 ∨ n = 5 ∨ n = 6 ∨ n = 7 ∨ n = 8 ∨ n = 9 := by omega
  have w : ∀ n : Int, 0 ≤ n → n < 11 → IntKind.i64.wrap n = n := fun n a b => wrap_i64 (by omega) (by omega)
  rcases this with rfl | rfl | rfl | rfl | rfl | rfl | rfl | rfl | rfl | rfl <;> simp [Fn.f_haulageref05_Digits, w, dgt, bounds, asNat, asInt]
theorem ref_Dig2 (h : E.fn 40 = some Fn.f_haulageref05_Digits) (k : Nat) (n : Int) (h1 : n < 0) (h2 : -10 < n) (m : Mem) : denF E (k + 2) 40 [.p (.int .i64 n)] m = some (.ret (.p (.str (digits n))), m) := by
  refine denF_wp h rfl (args' := [.p (.int .i64 n)]) rfl ?_
  have hd : digits n = 45 :: digits (-n) := by
    unfold digits
    rw [if_pos h1, if_neg (by omega), Int.natAbs_neg]
  rw [hd]
  have hr := fun m => ref_Dig1 h k (-n) (by omega) (by omega) m
  have w : IntKind.i64.wrap (0 - n) = -n := by rw [wrap_i64] <;> omega
  have w' : IntKind.i64.wrap (- n) = -n := by rw [wrap_i64] <;> omega
  have hl := digits_64 (n := -n) (by omega) (by omega)
  have hb : 1 + (digits (-n)).length ≤ strLim := by unfold strLim; omega
  simp [Fn.f_haulageref05_Digits, h1, h2, w, w', hr, hb]
  try omega
theorem digits_step {n : Int} (h : n ≤ -10 ∨ 10 ≤ n) : digits n = digits (n.tdiv 10) ++ digits ((n.natAbs % 10 : Nat) : Int) := by
  have e2 : digits ((n.natAbs % 10 : Nat) : Int) = [dgt (n.natAbs % 10)] := by
    unfold digits
    rw [if_neg (by omega), Int.natAbs_natCast, digs_small (by omega)]
  rw [e2]
  have e1 : (n.tdiv 10).natAbs = n.natAbs / 10 := by rw [Int.natAbs_tdiv]; rfl
  unfold digits
  rw [digs_big (by omega : ¬ n.natAbs < 10), e1]
  by_cases hn : n < 0
  · have : n.tdiv 10 < 0 := by
      have : n.tdiv 10 = -((-n) / 10) := by
        rw [← Int.tdiv_eq_ediv_of_nonneg (by omega : 0 ≤ -n), Int.neg_tdiv, Int.neg_neg]
      omega
    rw [if_pos hn, if_pos this, List.cons_append]
  · have : ¬ n.tdiv 10 < 0 := by
      rw [Int.tdiv_eq_ediv_of_nonneg (by omega)]
      omega
    rw [if_neg hn, if_neg this]
theorem ref_Digits (h : E.fn 40 = some Fn.f_haulageref05_Digits) : ∀ (j : Nat) (n : Int), n.natAbs < 10 ^ (j + 1) → -9223372036854775808 ≤ n → n ≤ 9223372036854775807 → ∀ (k : Nat) (m : Mem),
    denF E (k + j + 2) 40 [.p (.int .i64 n)] m = some (.ret (.p (.str (digits n))), m) := by
  intro j
  induction j with
  | zero =>
    intro n hn _ _ k m
    by_cases h0 : n < 0
    · exact ref_Dig2 h k n h0 (by omega) m
    · exact ref_Dig1 h (k + 1) n (by omega) (by omega) m
  | succ j ih =>
    intro n hn hlo hhi k m
    by_cases hs : -10 < n ∧ n < 10
    · by_cases h0 : n < 0
      · have := ref_Dig2 h (k + j + 1) n h0 hs.1 m
        exact this
      · have := ref_Dig1 h (k + j + 2) n (by omega) hs.2 m
        exact this
    · have hb : n ≤ -10 ∨ 10 ≤ n := by omega
      have e1 : (n.tdiv 10).natAbs = n.natAbs / 10 := by rw [Int.natAbs_tdiv]; rfl
      have hlt : (n.tdiv 10).natAbs < 10 ^ (j + 1) := by
        rw [e1]
        have e : 10 ^ (j + 1 + 1) = 10 * 10 ^ (j + 1) := by rw [Nat.pow_succ, Nat.mul_comm]
        rw [e] at hn
        exact Nat.div_lt_of_lt_mul hn
      have hA : ∀ m, denF E (k + (j + 1) + 1) 40 [.p (.int .i64 (n.tdiv 10))] m = some (.ret (.p (.str (digits (n.tdiv 10)))), m) := fun m => ih (n.tdiv 10) hlt (by omega) (by omega) k m
      have hB : ∀ m, denF E (k + (j + 1) + 1) 40 [.p (.int .i64 ((n.natAbs % 10 : Nat) : Int))] m = some (.ret (.p (.str (digits ((n.natAbs % 10 : Nat) : Int)))), m) := fun m => ref_Dig1 h (k + j + 1) ((n.natAbs % 10 : Nat) : Int) (by omega) (by omega) m
      have hl1 := digits_64 (n := n) hlo hhi
      have hst := digits_step hb
      have hl : (digits (n.tdiv 10)).length + (digits ((n.natAbs % 10 : Nat) : Int)).length ≤ strLim := by
        have := congrArg List.length hst
        simp only [List.length_append] at this
        unfold strLim
        omega
      rw [hst]
      refine denF_wp h rfl (args' := [.p (.int .i64 n)]) rfl ?_
      have w1 : IntKind.i64.wrap (n.tdiv 10) = n.tdiv 10 := wrap_i64 (by omega) (by omega)
      have n1 : ¬ (-10 < n ∧ n < 0) := by omega
      have n2 : ¬ (0 ≤ n ∧ n < 10) := by omega
      by_cases h0 : n < 0
      · have t1 : n.tmod 10 = -((n.natAbs % 10 : Nat) : Int) := by
          have : n.tmod 10 = -((-n) % 10) := by
            rw [← Int.tmod_eq_emod_of_nonneg (by omega : 0 ≤ -n), Int.neg_tmod, Int.neg_neg]
          omega
        obtain ⟨l, hl0⟩ : ∃ l : Int, l = ((n.natAbs % 10 : Nat) : Int) := ⟨_, rfl⟩
        rw [← hl0] at t1 hB hl ⊢
        have hlr : 0 ≤ l ∧ l < 10 := by omega
        have w2 : IntKind.i64.wrap (0 - -l) = l := by rw [wrap_i64] <;> omega
        have w3 : IntKind.i64.wrap l = l := by rw [wrap_i64] <;> omega
        have g1 : ¬ -10 < n := by omega
        have g2 : ¬ 0 ≤ n := by omega
        by_cases hl1 : l = 0
        · subst hl1
          simp [Fn.f_haulageref05_Digits, g1, g2, w1, w2, w3, t1, hA, hB, hl]
        · have hl2 : 0 < l := by omega
          simp [Fn.f_haulageref05_Digits, g1, g2, w1, w2, w3, t1, hA, hB, hl, hl2]
      · have t1 : n.tmod 10 = ((n.natAbs % 10 : Nat) : Int) := by
          rw [Int.tmod_eq_emod_of_nonneg (by omega)]; omega
        obtain ⟨l, hl0⟩ : ∃ l : Int, l = ((n.natAbs % 10 : Nat) : Int) := ⟨_, rfl⟩
        rw [← hl0] at t1 hB hl ⊢
        have hlr : ¬ l < 0 := by omega
        have g1 : -10 < n := by omega
        have g2 : 0 ≤ n := by omega
        have g3 : ¬ n < 10 := by omega
        simp [Fn.f_haulageref05_Digits, g1, g2, g3, h0, w1, t1, hA, hB, hl, hlr]
theorem ref_Digits' (h : E.fn 40 = some Fn.f_haulageref05_Digits) (n : Int) (h1 : -9223372036854775808 ≤ n) (h2 : n ≤ 9223372036854775807) (k : Nat) (m : Mem) :
    denF E (k + 22) 40 [.p (.int .i64 n)] m = some (.ret (.p (.str (digits n))), m) := by
  have := ref_Digits h 20 n (by omega) h1 h2 k m
  exact this
end Hx

namespace Hx
open Go
set_option linter.unusedSimpArgs false
set_option linter.unusedVariables false
set_option maxHeartbeats 8000000
variable {E : Env}
attribute [-simp] List.getD_eq_getElem?_getD getElem?_pos
structure M05 (E : Env) : Prop where
  has : E.fn 48 = some Fn.f_strings_HasPrefix
  has' : E.fn 63 = some Fn.f_internal_stringslite_HasPrefix
  digit : E.fn 45 = some Fn.f_value_digit
  number : E.fn 37 = some Fn.f_value_Number
  rdigits : E.fn 40 = some Fn.f_haulageref05_Digits
def numT (n size e : Int) : AV := .tup [.p (.int .i64 n), .p (.int .i64 size), .p (.int .i64 e)]
def ahead (neg : Bool) : Nat := if neg then 1 else 0
def mostOf (neg : Bool) : Nat := if neg then 9223372036854775808 else 9223372036854775807
def bad0 (neg : Bool) (D : List UInt8) : Bool := D.isEmpty || (D.head? == some 48 && (neg || decide (1 < D.length)))
def numO (neg : Bool) (D : List UInt8) : AV :=
  if bad0 neg D then numT 0 0 5 else if numVal 0 D ≤ mostOf neg then numT (if neg then -(numVal 0 D : Int) else numVal 0 D) ((ahead neg + D.length : Nat) : Int) 0 else numT 0 0 10
def runD (neg : Bool) (s : List UInt8) : List UInt8 := (s.drop (ahead neg)).takeWhile isDig
def numS (s : List UInt8) : AV := numO (s.head? == some 45) (runD (s.head? == some 45) s)
end Hx

namespace Hx
open Go
set_option linter.unusedSimpArgs false
set_option linter.unusedVariables false
set_option maxHeartbeats 8000000
variable {E : Env}
attribute [-simp] List.getD_eq_getElem?_getD getElem?_pos
def wInt : List UInt8 := [105, 110, 116]
def wLong : List UInt8 := [108, 111, 110, 103]
def wText : List UInt8 := [116, 101, 120, 116]
def wBytes : List UInt8 := [98, 121, 116, 101, 115]
def kindW (s : List UInt8) : Int := if wInt == s then 1 else if wLong == s then 2 else if wText == s then 3 else if wBytes == s then 4 else 0
structure T06s (E : Env) : Prop where
  right : E.fn 84 = some Fn.f_typ_Right
  long : E.fn 95 = some Fn.f_typ_long
structure X06 (E : Env) : Prop where
  n04 : N04 E
  m05 : M05 E
  t06 : T06s E
  words : E.gl 2 = [.str [], .str [105, 110, 116], .str [108, 111, 110, 103], .str [116, 101, 120, 116], .str [98, 121, 116, 101, 115]]
  kindOf : E.fn 98 = some Fn.f_typ_kindOf
  read : E.fn 89 = some Fn.f_typ_Read
  print : E.fn 93 = some Fn.f_typ_Print
  vdigits : E.fn 39 = some Fn.f_value_Digits
def KInv (s : List UInt8) (i : Nat) (st : St) : Prop := (1 ≤ i ∧ i ≤ 5 ∧ (1 < i → (wInt == s) = false) ∧ (2 < i → (wLong == s) = false) ∧ (3 < i → (wText == s) = false) ∧ (4 < i → (wBytes == s) = false)) ∧ Live Fn.f_typ_kindOf_k0 (Fn.f_typ_kindOf_s0 (.p (.str s)) (.p (.int .i64 i))) [] st
theorem KInv.mk {s : List UInt8} {i : Nat} {st : St} (h : 1 ≤ i ∧ i ≤ 5 ∧ (1 < i → (wInt == s) = false) ∧ (2 < i → (wLong == s) = false) ∧ (3 < i → (wText == s) = false) ∧ (4 < i → (wBytes == s) = false)) (l : Live Fn.f_typ_kindOf_k0 (Fn.f_typ_kindOf_s0 (.p (.str s)) (.p (.int .i64 i))) [] st) : KInv s i st := ⟨h, l⟩
def rT (k m size e : Int) : AV := .tup [.p (tP k m), .p (.int .i64 size), .p (.int .i64 e)]
def nN : AV → Int
  | .tup [.p (.int _ n), _, _] => n
  | _ => 0
def nS : AV → Int
  | .tup [_, .p (.int _ n), _] => n
  | _ => 0
def nE : AV → Int
  | .tup [_, _, .p (.int _ n)] => n
  | _ => 0
def readT (s : List UInt8) : AV :=
  if kindW (s.take (nameLen s)) = 1 ∨ kindW (s.take (nameLen s)) = 2 then rT (kindW (s.take (nameLen s))) 0 (nameLen s) 0
  else if kindW (s.take (nameLen s)) = 0 ∨ s[nameLen s]? ≠ some 40 then rT 0 0 0 5
  else if nE (numS (s.drop (nameLen s + 1))) ≠ 0 then rT 0 0 0 (nE (numS (s.drop (nameLen s + 1))))
  else if s[nameLen s + 1 + (nS (numS (s.drop (nameLen s + 1)))).toNat]? ≠ some 41 then rT 0 0 0 5
  else if nN (numS (s.drop (nameLen s + 1))) < 1 ∨ 120 < nN (numS (s.drop (nameLen s + 1))) then rT 0 0 0 10
  else rT (kindW (s.take (nameLen s))) (nN (numS (s.drop (nameLen s + 1)))) ((nameLen s : Int) + 1 + nS (numS (s.drop (nameLen s + 1))) + 1) 0
end Hx
