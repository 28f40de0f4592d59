/-
  HxU03c: 'Put' and 'Read' of chapter 03, the program's and the document's.
-/
import Derived.Test.YtifcegbomagcpaaDoorHxU10l
import Derived.Test.YtifcegbomagcpaaDoorHxFn03
import Derived.Test.YtifcegbomagcpaaDoorHxSimp
namespace Hx
open Go
set_option linter.unusedSimpArgs false
set_option linter.unusedVariables false
set_option maxHeartbeats 8000000
set_option maxRecDepth 20000
variable {E : Env}
attribute [-simp] List.getD_eq_getElem?_getD getElem?_pos
theorem P_blanks' (h : E.fn 242 = some Fn.f_haulageref10_P_blanks) (s : List UInt8) (hs : (s.length : Int) ≤ 1000000000) (i : Nat) (hi : i ≤ s.length) (k : Nat) (hk : s.length + 4 ≤ k) (id : Nat) (m : Mem) (hm : m[id]? = some (pCells s i)) :
    denF E (k + 1) 242 [.ptr id 0] m = some (.ret (.tup []), m.set id (pCells s (placeOf10 s (skipB (s.drop i))))) := by
  refine denF_wp_own h rfl ?_
  have hid := own_id hm
  have hself : ∀ x : Blk, (m.set id x)[id]? = some x := fun x => List.getElem?_set_self hid
  have hset : ∀ x y : Blk, (m.set id x).set id y = m.set id y := fun x y => List.set_set ..
  have hm0 : m = m.set id (pCells s i) := by
    obtain ⟨h1, h2⟩ := List.getElem?_eq_some_iff.1 hm
    rw [← h2, List.set_getElem_self]
  simp [Fn.f_haulageref10_P_blanks]
  refine (loop_wp (α := Nat) (I := fun j st => j ≤ s.length ∧ skipB (s.drop j) = skipB (s.drop i) ∧ Live Fn.f_haulageref10_P_blanks_k0 (Fn.f_haulageref10_P_blanks_s0 (.ptr id 0)) (m.set id (pCells s j)) st) (meas := fun j => s.length - j)
    (Q := fun e st => e = .exit 0 ∧ st.ds = [] ∧ st.m = m.set id (pCells s (placeOf10 s (skipB (s.drop i))))) ?_ k i _ ⟨hi, rfl, rfl, rfl, hm0, rfl⟩ (by omega)).mono ?_
  · rintro j st ⟨hj, hsk, hlive⟩
    rw [loopF_live hlive]
    unfold pCells at *
    by_cases hlt : j < s.length
    · have hlt' : (j : Int) < s.length := by omega
      obtain ⟨c, hc⟩ : ∃ c, s[j]? = some c := ⟨_, List.getElem?_eq_getElem hlt⟩
      rw [drop_at hc, skipB_cons] at hsk
      have hw : IntKind.i64.wrap ((j : Int) + 1) = ((j + 1 : Nat) : Int) := by rw [wrap_i64 (by omega) (by omega)]; omega
      unfold isBl at hsk
      have hstop : c :: s.drop (j + 1) = skipB (s.drop i) → j = placeOf10 s (skipB (s.drop i)) := by
        intro h
        unfold placeOf10
        rw [← h, ← drop_at hc, List.length_drop]
        omega
      cases h32 : ((c.toNat : Int) == 32) with
      | true =>
        rw [h32] at hsk
        simp only [Bool.true_or, if_true] at hsk
        simp (maxSteps := 4000000) [Fn.f_haulageref10_P_blanks_b0, Fn.f_haulageref10_P_blanks_s0, hid, hself, hset, hlt, hlt', hc, h32, hw, -Int.natCast_add]
        exact ⟨j + 1, by omega, hlt, hsk, rfl, rfl, rfl, rfl⟩
      | false =>
        cases h9 : ((c.toNat : Int) == 9) with
        | true =>
          rw [h32, h9] at hsk
          simp only [Bool.true_or, Bool.or_true, if_true] at hsk
          simp (maxSteps := 4000000) [Fn.f_haulageref10_P_blanks_b0, Fn.f_haulageref10_P_blanks_s0, hid, hself, hset, hlt, hlt', hc, h32, h9, hw, -Int.natCast_add]
          exact ⟨j + 1, by omega, hlt, hsk, rfl, rfl, rfl, rfl⟩
        | false =>
          cases h10 : ((c.toNat : Int) == 10) with
          | true =>
            rw [h32, h9, h10] at hsk
            simp only [Bool.or_true, if_true] at hsk
            simp (maxSteps := 4000000) [Fn.f_haulageref10_P_blanks_b0, Fn.f_haulageref10_P_blanks_s0, hid, hself, hset, hlt, hlt', hc, h32, h9, h10, hw, -Int.natCast_add]
            exact ⟨j + 1, by omega, hlt, hsk, rfl, rfl, rfl, rfl⟩
          | false =>
            rw [h32, h9, h10] at hsk
            simp only [Bool.or_false, Bool.false_eq_true, if_false] at hsk
            have := hstop hsk
            simp (maxSteps := 4000000) [Fn.f_haulageref10_P_blanks_b0, Fn.f_haulageref10_P_blanks_s0, hid, hself, hset, hlt, hlt', hc, h32, h9, h10]
            rw [← this]
    · have hlt' : ¬ (j : Int) < s.length := by omega
      have hnil : s.drop j = [] := List.drop_eq_nil_of_le (by omega)
      rw [hnil] at hsk
      have : j = placeOf10 s (skipB (s.drop i)) := by
        unfold placeOf10
        rw [← hsk]
        simp [skipB]
        omega
      simp (maxSteps := 4000000) [Fn.f_haulageref10_P_blanks_b0, Fn.f_haulageref10_P_blanks_s0, hid, hself, hset, hlt, hlt']
      rw [← this]
  · rintro e st ⟨he, hds, hm⟩
    subst he
    simp [hds, hm]
end Hx

namespace Hx
open Go
variable {E : Env}
theorem blanks_ok (u : P10 E) : BlanksOk E := by
  intro s r hs hr k hk id m hm
  have := P_blanks' u.blanks s hs (placeOf10 s r) place_le k hk id m hm
  rw [drop_suf hr] at this
  exact this
end Hx

/-
  HxM05: the digits of a number: plain laws.
-/
namespace Hx
def dgt (d : Nat) : UInt8 := UInt8.ofNat (48 + d)
def digs (n : Nat) : List UInt8 := if n < 10 then [dgt n] else digs (n / 10) ++ [dgt (n % 10)]
termination_by n
decreasing_by omega
def digits (n : Int) : List UInt8 := if n < 0 then 45 :: digs n.natAbs else digs n.natAbs
theorem digs_small {n : Nat} (h : n < 10) : digs n = [dgt n] := by rw [digs, if_pos h]
theorem digs_big {n : Nat} (h : ¬ n < 10) : digs n = digs (n / 10) ++ [dgt (n % 10)] := by rw [digs, if_neg h]
theorem digs_ne (n : Nat) : digs n ≠ [] := by
  by_cases h : n < 10
  · rw [digs_small h]; simp
  · rw [digs_big h]; simp
theorem digs_pos (n : Nat) : 0 < (digs n).length := by
  cases h : digs n with
  | nil => exact absurd h (digs_ne n)
  | cons => simp
theorem digs_len : ∀ (k n : Nat), n < 10 ^ (k + 1) → (digs n).length ≤ k + 1
  | 0, n, h => by
    rw [digs_small (by simpa using h)]
    simp
  | k + 1, n, h => by
    by_cases hn : n < 10
    · rw [digs_small hn]; simp
    · rw [digs_big hn, List.length_append]
      have := digs_len k (n / 10) (by
        have e : 10 ^ (k + 1 + 1) = 10 * 10 ^ (k + 1) := by rw [Nat.pow_succ, Nat.mul_comm]
        rw [e] at h
        exact Nat.div_lt_of_lt_mul h)
      simp only [List.length_cons, List.length_nil]
      omega
theorem dgt_toNat {d : Nat} (h : d < 10) : (dgt d).toNat = 48 + d := by
  unfold dgt
  rw [UInt8.toNat_ofNat']
  omega
theorem dgt_inj {a b : Nat} (ha : a < 10) (hb : b < 10) (h : dgt a = dgt b) : a = b := by
  have := congrArg UInt8.toNat h
  rw [dgt_toNat ha, dgt_toNat hb] at this
  omega
theorem digs_mem {c : UInt8} : ∀ (k n : Nat), n ≤ k → c ∈ digs n → 48 ≤ c.toNat ∧ c.toNat ≤ 57
  | 0, n, hk, h => by
    rw [digs_small (by omega)] at h
    simp only [List.mem_cons, List.not_mem_nil, or_false] at h
    subst h
    rw [dgt_toNat (by omega)]
    omega
  | k + 1, n, hk, h => by
    by_cases hn : n < 10
    · rw [digs_small hn] at h
      simp only [List.mem_cons, List.not_mem_nil, or_false] at h
      subst h
      rw [dgt_toNat (by omega)]
      omega
    · rw [digs_big hn] at h
      simp only [List.mem_append, List.mem_cons, List.not_mem_nil, or_false] at h
      rcases h with h | rfl
      · exact digs_mem k (n / 10) (by omega) h
      · rw [dgt_toNat (by omega)]
        omega
theorem digs_inj : ∀ (k a b : Nat), a ≤ k → digs a = digs b → a = b
  | 0, a, b, hk, h => by
    have ha : a = 0 := by omega
    subst ha
    rw [digs_small (by omega)] at h
    by_cases hb : b < 10
    · rw [digs_small hb] at h
      exact dgt_inj (by omega) hb (List.head_eq_of_cons_eq h)
    · rw [digs_big hb] at h
      have := congrArg List.length h
      have := digs_pos (b / 10)
      simp only [List.length_append, List.length_cons, List.length_nil] at *
      omega
  | k + 1, a, b, hk, h => by
    by_cases ha : a < 10
    · rw [digs_small ha] at h
      by_cases hb : b < 10
      · rw [digs_small hb] at h
        exact dgt_inj ha hb (List.head_eq_of_cons_eq h)
      · rw [digs_big hb] at h
        have := congrArg List.length h
        have := digs_pos (b / 10)
        simp only [List.length_append, List.length_cons, List.length_nil] at *
        omega
    · rw [digs_big ha] at h
      by_cases hb : b < 10
      · rw [digs_small hb] at h
        have := congrArg List.length h
        have := digs_pos (a / 10)
        simp only [List.length_append, List.length_cons, List.length_nil] at *
        omega
      · rw [digs_big hb] at h
        obtain ⟨h1, h2⟩ := List.append_inj' h rfl
        have e1 := digs_inj k (a / 10) (b / 10) (by omega) h1
        have e2 := dgt_inj (by omega) (by omega) (List.head_eq_of_cons_eq h2)
        omega
theorem digits_64 {n : Int} (h1 : -9223372036854775808 ≤ n) (h2 : n ≤ 9223372036854775807) : (digits n).length ≤ 20 := by
  have := digs_len 18 n.natAbs (by omega)
  unfold digits
  split <;> (try simp only [List.length_cons]) <;> omega
end Hx

namespace Hx
def isDig (c : UInt8) : Bool := decide (48 ≤ c.toNat) && decide (c.toNat ≤ 57)
def dval (c : UInt8) : Nat := c.toNat - 48
def stepD (a : Nat) (c : UInt8) : Nat := 10 * a + dval c
def numVal (a : Nat) (x : List UInt8) : Nat := x.foldl stepD a
theorem numVal_nil (a : Nat) : numVal a [] = a := rfl
theorem numVal_cons (a : Nat) (c : UInt8) (r : List UInt8) : numVal a (c :: r) = numVal (10 * a + dval c) r := by
  unfold numVal
  rw [List.foldl_cons, stepD]
theorem numVal_app : ∀ (a : Nat) (x y : List UInt8), numVal a (x ++ y) = numVal (numVal a x) y
  | _, [], _ => rfl
  | a, c :: x, y => by rw [List.cons_append, numVal_cons, numVal_cons, numVal_app]
theorem numVal_ge : ∀ (a : Nat) (x : List UInt8), a ≤ numVal a x
  | _, [] => Nat.le_refl _
  | a, c :: x => by
    have := numVal_ge (10 * a + dval c) x
    rw [numVal_cons]
    omega
theorem numVal_lt : ∀ (a : Nat) (x : List UInt8), (∀ c ∈ x, isDig c = true) → numVal a x < (a + 1) * 10 ^ x.length
  | a, [], _ => by simp [numVal_nil]
  | a, c :: x, h => by
    have hc := h c (by simp)
    unfold isDig at hc
    simp only [Bool.and_eq_true, decide_eq_true_eq] at hc
    have := numVal_lt (10 * a + dval c) x (fun d hd => h d (List.mem_cons_of_mem _ hd))
    rw [numVal_cons, List.length_cons, Nat.pow_succ, Nat.mul_comm (10 ^ x.length) 10, ← Nat.mul_assoc]
    refine Nat.lt_of_lt_of_le this (Nat.mul_le_mul_right _ ?_)
    unfold dval
    omega
theorem digs_numVal : ∀ (x : List UInt8) (a : Nat), 0 < a → (∀ c ∈ x, isDig c = true) → digs (numVal a x) = digs a ++ x
  | [], a, _, _ => by simp [numVal_nil]
  | c :: x, a, ha, h => by
    have hc := h c (by simp)
    unfold isDig at hc
    simp only [Bool.and_eq_true, decide_eq_true_eq] at hc
    rw [numVal_cons, digs_numVal x _ (by omega) (fun d hd => h d (List.mem_cons_of_mem _ hd))]
    have hb : ¬ 10 * a + dval c < 10 := by omega
    have h1 : (10 * a + dval c) / 10 = a := by unfold dval; omega
    have h2 : (10 * a + dval c) % 10 = dval c := by unfold dval; omega
    rw [digs_big hb, h1, h2, List.append_assoc]
    have : dgt (dval c) = c := by
      unfold dgt dval
      have : 48 + (c.toNat - 48) = c.toNat := by omega
      rw [this]
      exact UInt8.ofNat_toNat
    rw [this]
    rfl
theorem digs_of_run {x : List UInt8} (h : ∀ c ∈ x, isDig c = true) (hne : x ≠ []) (h0 : x.head? = some 48 → x = [48]) : digs (numVal 0 x) = x := by
  cases x with
  | nil => exact absurd rfl hne
  | cons c x =>
    have hc := h c (by simp)
    unfold isDig at hc
    simp only [Bool.and_eq_true, decide_eq_true_eq] at hc
    by_cases hz : c = 48
    · subst hz
      have := h0 rfl
      rw [this]
      have : numVal 0 [48] = 0 := by decide +kernel
      rw [this, digs_small (by omega)]
      rfl
    · have hd : 0 < dval c := by
        have : c.toNat ≠ 48 := fun q => hz (UInt8.toNat_inj.1 q)
        unfold dval
        omega
      rw [numVal_cons, digs_numVal x _ (by omega) (fun d hd => h d (List.mem_cons_of_mem _ hd))]
      have e : 10 * 0 + dval c = dval c := by omega
      have : dgt (dval c) = c := by
        unfold dgt dval
        have : 48 + (c.toNat - 48) = c.toNat := by omega
        rw [this]
        exact UInt8.ofNat_toNat
      rw [e, digs_small (by unfold dval; omega), this]
      rfl
end Hx

/-
  HxM06: types of columns, and which of two is as wide: plain laws.
-/
namespace Hx
end Hx

namespace Hx
open Go
set_option linter.unusedSimpArgs false
set_option linter.unusedVariables false
variable {E : Env}
def isSign (n : Int) : Bool := decide (0 ≤ n) && decide (n ≤ 1114111) && (decide (n < 55296) || decide (n > 57343))
theorem isSign_iff {n : Int} : isSign n = true ↔ 0 ≤ n ∧ n ≤ 1114111 ∧ (n < 55296 ∨ n > 57343) := by
  simp [isSign, and_assoc]
theorem utf_is (h : E.fn 15 = some Fn.f_utf_is) (k : Nat) (n : Int) (m : Mem) : denF E (k + 1) 15 [.p (.int .i64 n)] m = some (.ret (.p (.bool (isSign n))), m) := by
  rw [denF_pure h rfl]
  by_cases h1 : n ≥ 0 <;> by_cases h2 : n ≤ 1114111 <;> by_cases h3 : n < 55296 <;>
  simp [Fn.f_utf_is, isSign, h1, h2, h3]
theorem ref_Is (h : E.fn 2 = some Fn.f_haulageref03_Is) (k : Nat) (n : Int) (m : Mem) : denF E (k + 1) 2 [.p (.int .i64 n)] m = some (.ret (.p (.bool (isSign n))), m) := by
  rw [denF_pure h rfl]
  by_cases h1 : n ≥ 0 <;> by_cases h2 : n ≤ 1114111 <;> by_cases h3 : n < 55296 <;>
  simp [Fn.f_haulageref03_Is, isSign, h1, h2, h3]
def widthOf (n : Int) : Int := if n ≥ 65536 then 4 else if n ≥ 2048 then 3 else if n ≥ 128 then 2 else 1
theorem utf_width (h : E.fn 19 = some Fn.f_utf_width) (hg : E.gl 1 = [.int .i64 0, .int .i64 0, .int .i64 128, .int .i64 2048, .int .i64 65536]) (k : Nat) (n : Int) (m : Mem) :
    denF E (k + 5) 19 [.p (.int .i64 n)] m = some (.ret (.p (.int .i64 (widthOf n))), m) := by
  rw [denF_pure h rfl]
  by_cases h1 : n ≥ 65536
  · simp [Fn.f_utf_width, Fn.f_utf_width_b0, Fn.f_utf_width_k0, loopF, iter, hg, h1, widthOf]
  by_cases h2 : n ≥ 2048
  · simp [Fn.f_utf_width, Fn.f_utf_width_b0, Fn.f_utf_width_k0, loopF, iter, hg, h1, h2, widthOf, wrap_i64]
  by_cases h3 : n ≥ 128
  · simp [Fn.f_utf_width, Fn.f_utf_width_b0, Fn.f_utf_width_k0, loopF, iter, hg, h1, h2, h3, widthOf, wrap_i64]
  · simp [Fn.f_utf_width, Fn.f_utf_width_b0, Fn.f_utf_width_k0, loopF, iter, hg, h1, h2, h3, widthOf, wrap_i64]
def byte (x : Int) : UInt8 := UInt8.ofNat (x % 256).toNat
theorem ref_one (h : E.fn 17 = some Fn.f_haulageref03_one) (k : Nat) (n : Int) (m : Mem) : denF E (k + 1) 17 [.p (.int .i64 n)] m = some (.ret (.p (.str [byte n])), m) := by
  rw [denF_pure h rfl]
  simp [Fn.f_haulageref03_one, unBytes, unByte, byte, wrap_u8_mod, List.replicate]
def utf8 (n : Int) : List UInt8 :=
  if n < 128 then [byte n]
  else if n < 2048 then [byte (192 + n / 64), byte (128 + n % 64)]
  else if n < 65536 then [byte (224 + n / 4096), byte (128 + n / 64 % 64), byte (128 + n % 64)]
  else [byte (240 + n / 262144), byte (128 + n / 4096 % 64), byte (128 + n / 64 % 64), byte (128 + n % 64)]
theorem ref_Put (h : E.fn 3 = some Fn.f_haulageref03_Put) (h1 : E.fn 17 = some Fn.f_haulageref03_one) (k : Nat) (n : Int) (hn : 0 ≤ n) (hn' : n ≤ 1114111) (m : Mem) :
    denF E (k + 2) 3 [.p (.int .i64 n)] m = some (.ret (.p (.str (utf8 n))), m) := by
  rw [denF_pure h rfl]
  have q : ∀ d : Int, 0 < d → n.tdiv d = n / d := fun d _ => Int.tdiv_eq_ediv_of_nonneg hn
  have r : ∀ x d : Int, 0 ≤ x → x.tmod d = x % d := fun x d hx => Int.tmod_eq_emod_of_nonneg hx
  have b1 := Int.ediv_nonneg hn (by decide : (0:Int) ≤ 64)
  have b2 := Int.ediv_nonneg hn (by decide : (0:Int) ≤ 4096)
  have c1 : n / 64 ≤ n := Int.ediv_le_self _ hn
  have c2 : n / 4096 ≤ n := Int.ediv_le_self _ hn
  have c3 : n / 262144 ≤ n := Int.ediv_le_self _ hn
  by_cases h2 : n < 128
  · simp [Fn.f_haulageref03_Put, ref_one h1, h2, utf8]
  by_cases h3 : n < 2048
  · simp [Fn.f_haulageref03_Put, ref_one h1, h2, h3, utf8, strLim]
    simp (disch := omega) only [q, r, wrap_i64, and_self]
  by_cases h4 : n < 65536
  · simp [Fn.f_haulageref03_Put, ref_one h1, h2, h3, h4, utf8, strLim]
    simp (disch := omega) only [q, r, wrap_i64, and_self]
  · simp [Fn.f_haulageref03_Put, ref_one h1, h2, h3, h4, utf8, strLim]
    simp (disch := omega) only [q, r, wrap_i64, and_self]
theorem and_u8_31 {x : Int} (h1 : 0 ≤ x) (h2 : x ≤ 255) : bitsI .and .u8 x 31 = some (x % 32) := u8_all (P := fun x => bitsI .and .u8 x 31 = some (x % 32)) (by decide +kernel) x h1 h2
theorem and_u8_15 {x : Int} (h1 : 0 ≤ x) (h2 : x ≤ 255) : bitsI .and .u8 x 15 = some (x % 16) := u8_all (P := fun x => bitsI .and .u8 x 15 = some (x % 16)) (by decide +kernel) x h1 h2
theorem and_u8_7 {x : Int} (h1 : 0 ≤ x) (h2 : x ≤ 255) : bitsI .and .u8 x 7 = some (x % 8) := u8_all (P := fun x => bitsI .and .u8 x 7 = some (x % 8)) (by decide +kernel) x h1 h2
theorem and_u8_63 {x : Int} (h1 : 0 ≤ x) (h2 : x ≤ 255) : bitsI .and .u8 x 63 = some (x % 64) := u8_all (P := fun x => bitsI .and .u8 x 63 = some (x % 64)) (by decide +kernel) x h1 h2
def leadOf (c : Int) : Int × Int := if c < 128 then (1, c) else if c / 32 = 6 then (2, c % 32) else if c / 16 = 14 then (3, c % 16) else if c / 8 = 30 then (4, c % 8) else (0, 0)
theorem utf_lead (h : E.fn 18 = some Fn.f_utf_lead) (k : Nat) (c : Int) (hc : 0 ≤ c) (hc' : c ≤ 255) (m : Mem) :
    denF E (k + 1) 18 [.p (.int .u8 c)] m = some (.ret (.tup [.p (.int .i64 (leadOf c).1), .p (.int .i64 (leadOf c).2)]), m) := by
  rw [denF_pure h rfl]
  by_cases h1 : c < 128
  · simp [Fn.f_utf_lead, leadOf, h1]
    rw [wrap_i64 (by omega) (by omega)]
  have e1 : c.fdiv 32 = c / 32 := Int.fdiv_eq_ediv_of_nonneg _ (by decide)
  have e2 : c.fdiv 16 = c / 16 := Int.fdiv_eq_ediv_of_nonneg _ (by decide)
  have e3 : c.fdiv 8 = c / 8 := Int.fdiv_eq_ediv_of_nonneg _ (by decide)
  cases h2 : (c / 32 == 6) with
  | true =>
    have := of_decide_eq_true (p := c / 32 = 6) (by simpa using h2)
    simp [Fn.f_utf_lead, leadOf, h1, h2, this, e1, and_u8_31 hc hc']
    rw [wrap_i64 (by omega) (by omega)]
  | false =>
  have n2 : ¬ c / 32 = 6 := by simpa using h2
  cases h3 : (c / 16 == 14) with
  | true =>
    have := of_decide_eq_true (p := c / 16 = 14) (by simpa using h3)
    simp [Fn.f_utf_lead, leadOf, h1, h2, h3, n2, this, e1, e2, and_u8_15 hc hc']
    rw [wrap_i64 (by omega) (by omega)]
  | false =>
  have n3 : ¬ c / 16 = 14 := by simpa using h3
  cases h4 : (c / 8 == 30) with
  | true =>
    have := of_decide_eq_true (p := c / 8 = 30) (by simpa using h4)
    simp [Fn.f_utf_lead, leadOf, h1, h2, h3, h4, n2, n3, this, e1, e2, e3, and_u8_7 hc hc']
    rw [wrap_i64 (by omega) (by omega)]
  | false =>
    have n4 : ¬ c / 8 = 30 := by simpa using h4
    simp [Fn.f_utf_lead, leadOf, h1, h2, h3, h4, n2, n3, n4, e1, e2, e3]
end Hx

namespace Hx
open Go
set_option linter.unusedSimpArgs false
set_option linter.unusedVariables false
variable {E : Env}
theorem fdiv64 (x : Int) : x.fdiv 64 = x / 64 := Int.fdiv_eq_ediv_of_nonneg _ (by decide)
structure V03 (E : Env) : Prop where
  is : E.fn 15 = some Fn.f_utf_is
  width : E.fn 19 = some Fn.f_utf_width
  lead : E.fn 18 = some Fn.f_utf_lead
  read : E.fn 4 = some Fn.f_utf_Read
  rIs : E.fn 2 = some Fn.f_haulageref03_Is
  rPut : E.fn 3 = some Fn.f_haulageref03_Put
  rRead : E.fn 5 = some Fn.f_haulageref03_Read
  rOne : E.fn 17 = some Fn.f_haulageref03_one
  least : E.gl 1 = [.int .i64 0, .int .i64 0, .int .i64 128, .int .i64 2048, .int .i64 65536]
structure U03 (E : Env) : Prop extends V03 E where
  fill : E.fn 16 = some Fn.f_utf_fill
  put : E.fn 1 = some Fn.f_utf_Put
  first : E.gl 0 = [.int .u8 0, .int .u8 0, .int .u8 192, .int .u8 224, .int .u8 240]
end Hx

namespace Hx
set_option linter.unusedSimpArgs false
open Go
variable {E : Env}
end Hx
