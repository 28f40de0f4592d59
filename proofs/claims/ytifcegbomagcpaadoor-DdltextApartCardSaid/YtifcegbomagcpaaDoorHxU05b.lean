/-
  HxU05b: the document's digits of a number.
-/
import Derived.Test.YtifcegbomagcpaaDoorHxM05
import Derived.Test.YtifcegbomagcpaaDoorHxFn06
import Derived.Test.YtifcegbomagcpaaDoorHxSimp
namespace Hx
def isDig (c : UInt8) : Bool := decide (48 ≤ c.toNat) && decide (c.toNat ≤ 57)
def dval (c : UInt8) : Nat := c.toNat - 48
def stepD (a : Nat) (c : UInt8) : Nat := 10 * a + dval c
def numVal (a : Nat) (x : List UInt8) : Nat := x.foldl stepD a
theorem numVal_nil (a : Nat) : numVal a [] = a := rfl
theorem numVal_cons (a : Nat) (c : UInt8) (r : List UInt8) : numVal a (c :: r) = numVal (10 * a + dval c) r := by
  unfold numVal
  rw [List.foldl_cons, stepD]
theorem numVal_app : ∀ (a : Nat) (x y : List UInt8), numVal a (x ++ y) = numVal (numVal a x) y
  | _, [], _ => rfl
  | a, c :: x, y => by rw [List.cons_append, numVal_cons, numVal_cons, numVal_app]
theorem numVal_ge : ∀ (a : Nat) (x : List UInt8), a ≤ numVal a x
  | _, [] => Nat.le_refl _
  | a, c :: x => by
    have := numVal_ge (10 * a + dval c) x
    rw [numVal_cons]
    omega
end Hx

namespace Hx
open Go
set_option linter.unusedSimpArgs false
set_option linter.unusedVariables false
set_option maxHeartbeats 4000000
variable {E : Env}
attribute [-simp] List.getD_eq_getElem?_getD getElem?_pos
def letter (c : UInt8) : Bool := decide ((97 : Int) ≤ c.toNat) && decide ((c.toNat : Int) ≤ 122)
def partC (c : UInt8) : Bool := letter c || (decide ((48 : Int) ≤ c.toNat) && decide ((c.toNat : Int) ≤ 57)) || ((c.toNat : Int) == 95)
def nameLen : List UInt8 → Nat
  | [] => 0
  | c :: r => if letter c then 1 + (r.takeWhile partC).length else 0
structure N04 (E : Env) : Prop where
  part : E.fn 65 = some Fn.f_name_part
  read : E.fn 50 = some Fn.f_name_Read
  rletter : E.fn 67 = some Fn.f_haulageref04_letter
  rpart : E.fn 66 = some Fn.f_haulageref04_Part
  rread : E.fn 51 = some Fn.f_haulageref04_Read
theorem name_part (h : E.fn 65 = some Fn.f_name_part) (k : Nat) (c : UInt8) (i : Int) (m : Mem) : denF E (k + 1) 65 [.p (.int .u8 c.toNat), .p (.int .i64 i)] m = some (.ret (.p (.bool (letter c || (partC c && decide (0 < i))))), m) := by
  refine denF_wp h rfl (args' := [.p (.int .u8 c.toNat), .p (.int .i64 i)]) rfl ?_
  unfold partC letter
  generalize (c.toNat : Int) = x
  by_cases h1 : (97 : Int) ≤ x
  · by_cases h2 : x ≤ 122
    · simp [Fn.f_name_part, h1, h2]
    · have h3 : (48 : Int) ≤ x := by omega
      have h4 : ¬ x ≤ 57 := by omega
      have h5 : (x == 95) = false := by simp; omega
      simp [Fn.f_name_part, h1, h2, h3, h4, h5]
  · by_cases h3 : (48 : Int) ≤ x
    · by_cases h4 : x ≤ 57
      · simp [Fn.f_name_part, h1, h3, h4]
      · cases h5 : (x == 95) <;> simp [Fn.f_name_part, h1, h3, h4, h5]
    · have h5 : (x == 95) = false := by simp; omega
      simp [Fn.f_name_part, h1, h3, h5]
def NameFar (s : List UInt8) (i : Nat) : Prop := i ≤ s.length ∧ (i = 0 ∨ nameLen s = i + ((s.drop i).takeWhile partC).length)
theorem drop_at {s : List UInt8} {i : Nat} {c : UInt8} (h : s[i]? = some c) : s.drop i = c :: s.drop (i + 1) := by
  obtain ⟨hi, rfl⟩ := List.getElem?_eq_some_iff.1 h
  exact List.drop_eq_getElem_cons hi
theorem letter_part {c : UInt8} (h : letter c = true) : partC c = true := by unfold partC; rw [h]; rfl
theorem name_next {s : List UInt8} {i : Nat} {c : UInt8} (h : NameFar s i) (hc : s[i]? = some c) (hp : (letter c || (partC c && decide (0 < i))) = true) : NameFar s (i + 1) := by
  obtain ⟨h1, h2⟩ := h
  have hlt : i < s.length := (List.getElem?_eq_some_iff.1 hc).1
  refine ⟨hlt, .inr ?_⟩
  rcases h2 with rfl | h2
  · have hl : letter c = true := by simpa using hp
    cases s with
    | nil => simp at hlt
    | cons d r =>
      simp at hc
      subst hc
      simp [nameLen, hl]
  · rw [h2, drop_at hc, List.takeWhile_cons]
    have : partC c = true := by
      cases hl : letter c with
      | true => exact letter_part hl
      | false => rw [hl] at hp; simp at hp; exact hp.1
    rw [if_pos this, List.length_cons]
    omega
theorem name_stop {s : List UInt8} {i : Nat} {c : UInt8} (h : NameFar s i) (hc : s[i]? = some c) (hp : (letter c || (partC c && decide (0 < i))) = false) : nameLen s = i := by
  obtain ⟨h1, h2⟩ := h
  have hlt : i < s.length := (List.getElem?_eq_some_iff.1 hc).1
  simp only [Bool.or_eq_false_iff] at hp
  obtain ⟨hl, hp⟩ := hp
  by_cases hi : i = 0
  · subst hi
    cases s with
    | nil => simp at hlt
    | cons d r =>
      simp at hc
      subst hc
      simp [nameLen, hl]
  · rcases h2 with h2 | h2
    · exact absurd h2 hi
    · rw [h2, drop_at hc, List.takeWhile_cons]
      have : partC c = false := by
        cases hq : partC c with
        | false => rfl
        | true => rw [hq] at hp; simp at hp; omega
      rw [this]
      simp
theorem name_end {s : List UInt8} (h : NameFar s s.length) : nameLen s = s.length := by
  obtain ⟨h1, h2⟩ := h
  rcases h2 with h2 | h2
  · have : s = [] := List.length_eq_zero_iff.1 h2
    subst this
    rfl
  · rw [h2, List.drop_length]
    simp
theorem nameLen_le (s : List UInt8) : nameLen s ≤ s.length := by
  cases s with
  | nil => exact Nat.le_refl _
  | cons c r =>
    have e : nameLen (c :: r) = if letter c then 1 + (r.takeWhile partC).length else 0 := rfl
    rw [e]
    split
    · have := (List.takeWhile_prefix partC (l := r)).length_le
      simp only [List.length_cons]
      omega
    · omega
theorem name_Read (u : N04 E) (s : List UInt8) (hs : (s.length : Int) ≤ 1000000000000) (k : Nat) (hk : s.length + 4 ≤ k) (m : Mem) : denF E (k + 1) 50 [.p (.str s)] m = some (.ret (.p (.int .i64 (nameLen s))), m) := by
  refine denF_wp u.read rfl (args' := [.p (.str s)]) rfl ?_
  obtain ⟨j, rfl⟩ : ∃ j, k = j + 1 := ⟨k - 1, by omega⟩
  simp [Fn.f_name_Read]
  refine (loop_wp (α := Nat) (I := fun i st => NameFar s i ∧ Live Fn.f_name_Read_k0 (Fn.f_name_Read_s0 (.p (.str s)) (.p (.int .i64 s.length)) (.p (.int .i64 i))) [] st) (meas := fun i => s.length - i)
    (Q := fun e st => st.ds = [] ∧ ((e = .exit 0 ∧ st.ts.length = 19 ∧ nameLen s = s.length ∧ st.ts.getD 0 (.tup []) = .p (.str s)) ∨ (e = .ret ∧ st.ts.getD 2 (.tup []) = .p (.int .i64 (nameLen s))))) ?_ (j + 1) 0 _ ⟨⟨Nat.zero_le _, .inl rfl⟩, rfl, rfl, rfl, rfl⟩ (by omega)).mono ?_
  · rintro i st ⟨hf, hlive⟩
    rw [loopF_live hlive]
    by_cases hi : i < s.length
    · have hi' : (i : Int) < s.length := by omega
      obtain ⟨c, hc⟩ : ∃ c, s[i]? = some c := ⟨_, List.getElem?_eq_getElem hi⟩
      have hp := fun m => name_part u.part j c i m
      have hw : IntKind.i64.wrap ((i : Int) + 1) = i + 1 := wrap_i64 (by omega) (by omega)
      cases hq : (letter c || (partC c && decide (0 < i))) with
      | true =>
        have hn := name_next hf hc hq
        have hq' : (letter c || (partC c && decide ((0 : Int) < i))) = true := by rw [← hq]; simp
        rw [hq'] at hp
        simp [Fn.f_name_Read_b0, Fn.f_name_Read_s0, hi, hi', hc, hp, hw]
        exact ⟨i + 1, by omega, hn, rfl, rfl, rfl, rfl⟩
      | false =>
        have hn := name_stop hf hc hq
        have hq' : (letter c || (partC c && decide ((0 : Int) < i))) = false := by rw [← hq]; simp
        rw [hq'] at hp
        simp [Fn.f_name_Read_b0, Fn.f_name_Read_s0, hi, hi', hc, hp, hn]
    · have hi' : ¬ (i : Int) < s.length := by omega
      have hn : i = s.length := by have := hf.1; omega
      subst hn
      have := name_end hf
      simp [Fn.f_name_Read_b0, Fn.f_name_Read_s0, this]
  · rintro e st ⟨h0, h⟩
    obtain ⟨ts, m', ds⟩ := st
    simp only at h0 h
    rcases h with ⟨rfl, h1, h2, h3⟩ | ⟨rfl, h3⟩
    · match ts, h1, h3 with
      | t0 :: t1 :: t2 :: t3 :: t4 :: t5 :: t6 :: t7 :: t8 :: t9 :: t10 :: t11 :: t12 :: t13 :: t14 :: t15 :: t16 :: t17 :: t18 :: [], h1, h3 =>
        simp at h3
        simp [h0, h2, h3]
    · simp [h0, h3]
end Hx

/-
  HxM06: types of columns, and which of two is as wide: plain laws.
-/
namespace Hx
def rightT (k m : Int) : Bool := if k = 1 ∨ k = 2 then decide (m = 0) else if k = 3 ∨ k = 4 then decide (1 ≤ m ∧ m ≤ 120) else false
theorem right_cases {k m : Int} (h : rightT k m = true) : (k = 1 ∧ m = 0) ∨ (k = 2 ∧ m = 0) ∨ (k = 3 ∧ 1 ≤ m ∧ m ≤ 120) ∨ (k = 4 ∧ 1 ≤ m ∧ m ≤ 120) := by
  unfold rightT at h
  split at h
  · have := of_decide_eq_true h
    omega
  · split at h
    · have := of_decide_eq_true h
      omega
    · cases h
end Hx

namespace Hx
open Go
set_option linter.unusedSimpArgs false
set_option maxHeartbeats 1000000
variable {E : Env}
attribute [-simp] List.getD_eq_getElem?_getD getElem?_pos
end Hx

namespace Hx
open Go
set_option linter.unusedSimpArgs false
set_option linter.unusedVariables false
set_option maxHeartbeats 4000000
variable {E : Env}
attribute [-simp] List.getD_eq_getElem?_getD getElem?_pos
theorem intBeq {a b : Int} : (a == b) = decide (a = b) := by
  rw [Bool.eq_iff_iff]; simp
theorem maxIf {a c : Int} : (if a < c then c else a) = max a c := by
  split <;> omega
attribute [local simp] intBeq maxIf
def vP (k n : Int) (s : List UInt8) : PV := .agg [.int .i64 k, .int .i64 n, .str s]
def tP (k m : Int) : PV := .agg [.int .i64 k, .int .i64 m]
theorem typ_Right (h : E.fn 84 = some Fn.f_typ_Right) (k : Nat) (a b : Int) (m : Mem) : denF E (k + 1) 84 [.p (tP a b)] m = some (.ret (.p (.bool (rightT a b))), m) := by
  refine denF_wp h rfl (args' := [.p (tP a b)]) rfl ?_
  unfold rightT tP
  by_cases h1 : a = 1
  · subst h1; simp [Fn.f_typ_Right]
  by_cases h2 : a = 2
  · subst h2; simp [Fn.f_typ_Right]
  by_cases h3 : a = 3
  · subst h3; by_cases hb : 1 ≤ b <;> simp [Fn.f_typ_Right, hb]
  by_cases h4 : a = 4
  · subst h4; by_cases hb : 1 ≤ b <;> simp [Fn.f_typ_Right, hb]
  simp [Fn.f_typ_Right, h1, h2, h3, h4]
def longT (a : Int) : Bool := decide (a = 3 ∨ a = 4)
theorem typ_long (h : E.fn 95 = some Fn.f_typ_long) (k : Nat) (a : Int) (m : Mem) : denF E (k + 1) 95 [.p (.int .i64 a)] m = some (.ret (.p (.bool (longT a))), m) := by
  refine denF_wp h rfl (args' := [.p (.int .i64 a)]) rfl ?_
  unfold longT
  by_cases h3 : a = 3
  · subst h3; simp [Fn.f_typ_long]
  by_cases h4 : a = 4
  · subst h4; simp [Fn.f_typ_long]
  simp [Fn.f_typ_long, h3, h4]
end Hx

namespace Hx
open Go
set_option linter.unusedSimpArgs false
set_option linter.unusedVariables false
set_option maxHeartbeats 4000000
variable {E : Env}
attribute [-simp] List.getD_eq_getElem?_getD getElem?_pos
attribute [local simp] intBeq
def bcell (c : UInt8) : AV := .p (.int .u8 c.toNat)
theorem toPs_bytes : ∀ t : List UInt8, toPs (t.map bcell) = some (t.map fun c => .int .u8 c.toNat)
  | [] => rfl
  | c :: t => by simp only [List.map_cons, toPs, bcell, toP, toPs_bytes t]
theorem chunks_bytes : ∀ t : List UInt8, chunks 1 t.length (t.map fun c => PV.int .u8 c.toNat) = byteRows t
  | [] => rfl
  | c :: t => by
    simp only [List.length_cons, List.map_cons, chunks, List.take_succ_cons, List.take_zero, List.drop_succ_cons, List.drop_zero, chunks_bytes t]
    rfl
theorem own_bytes {m : Mem} {id : Nat} {pre : List AV} {t : List UInt8} (h : m[id]? = some (.cells (pre ++ t.map bcell))) : rowsOf 1 m (.own 1 id pre.length t.length) = some (byteRows t) := by
  have h2 : ((pre ++ t.map bcell).drop pre.length).take (t.length * 1) = t.map bcell := by
    rw [List.drop_left, Nat.mul_one, List.take_of_length_le (by simp)]
  simp only [rowsOf, if_true, h, h2]
  rw [if_pos (by simp), toPs_bytes]
  simp only [chunks_bytes]
def zcell : AV := .p (.int .u8 0)
theorem set_digit (a : Nat) (t : List UInt8) (c : UInt8) : setAt (List.replicate (a + 1) zcell ++ t.map bcell) a [bcell c] = List.replicate a zcell ++ (c :: t).map bcell := by
  unfold setAt
  rw [List.take_append_of_le_length (by simp), List.drop_append_of_le_length (by simp)]
  simp [List.take_replicate, List.drop_replicate]
theorem digits_loop (K : Nat) (hK : 20 < K) (call : Caller) (n : Int) (N : Nat) (hN : N < 18446744073709551616) (st : St)
    (hst : Live Fn.f_value_Digits_k0 (Fn.f_value_Digits_s0 (.p (.int .i64 n)) (.ptr 0 0) (.p (.int .i64 20)) (.p (.int .u64 N))) [.cells (List.replicate 20 zcell)] st) :
    Wp (iter (loopF E call K Fn.f_value_Digits_k0 Fn.f_value_Digits_b0) K st)
      (fun e st => ∃ (a : Nat) (t : List UInt8), e = .exit 0 ∧ st.ds = [] ∧ digs N = t ∧ a + t.length = 20 ∧ st.m = [.cells (List.replicate a zcell ++ t.map bcell)] ∧ st.ts.length = 33 ∧ st.ts.getD 0 (.tup []) = .p (.int .i64 n) ∧ st.ts.getD 3 (.tup []) = .ptr 0 0 ∧ st.ts.getD 4 (.tup []) = .p (.int .i64 a)) := by
  have h20 := digs_len 19 N (by omega)
  refine loop_wp (α := Nat) (I := fun a st => ∃ (u : Nat) (t : List UInt8), digs N = digs u ++ t ∧ (digs u).length ≤ a ∧ a + t.length = 20 ∧ u < 18446744073709551616 ∧
      Live Fn.f_value_Digits_k0 (Fn.f_value_Digits_s0 (.p (.int .i64 n)) (.ptr 0 0) (.p (.int .i64 a)) (.p (.int .u64 u))) [.cells (List.replicate a zcell ++ t.map bcell)] st) (meas := fun a => a) ?_ K 20 st
    ⟨N, [], by simp, h20, rfl, hN, by simpa using hst⟩ hK
  rintro a st ⟨u, t, hd, hl, hat, hu, hlive⟩
  rw [loopF_live hlive]
  have hpos := digs_pos u
  obtain ⟨b, rfl⟩ : ∃ b, a = b + 1 := ⟨a - 1, by omega⟩
  have w1 : IntKind.i64.wrap (b : Int) = b := by rw [wrap_i64] <;> omega
  have w2 : IntKind.u8.wrap (48 + IntKind.u8.wrap ((u : Int).tmod 10)) = ((dgt (u % 10)).toNat : Int) := by
    rw [dgt_toNat (by omega), wrap_u8_mod, wrap_u8_mod]
    have : (u : Int).tmod 10 = ((u % 10 : Nat) : Int) := by rw [Int.tmod_eq_emod_of_nonneg (by omega)]; omega
    omega
  obtain ⟨q, hq⟩ : ∃ q, q = u / 10 := ⟨_, rfl⟩
  have w3 : IntKind.u64.wrap ((u : Int) / 10) = (q : Int) := by
    simp only [IntKind.wrap, IntKind.signed, IntKind.bits]
    simp
    omega
  have hb : b < 20 := by omega
  have hb' : b ≤ 19 := by omega
  have hset : setAt (List.replicate (b + 1) zcell ++ t.map bcell) b [.p (.int .u8 (dgt (u % 10)).toNat)] = _ := set_digit b t (dgt (u % 10))
  have hlen : (List.replicate (b + 1) zcell ++ t.map bcell).length = 20 := by simp; omega
  simp only [setAt, List.length_cons, List.length_nil, List.singleton_append, List.append_assoc, Nat.zero_add] at hset
  generalize hcs : List.replicate (b + 1) zcell ++ t.map bcell = cs at *
  generalize hc : dgt (u % 10) = c at *
  by_cases h10 : u < 10
  · have hz : q = 0 := by omega
    rw [digs_small h10] at hd
    have hm : u % 10 = u := by omega
    rw [hm] at hc
    rw [hc] at hd
    subst hz
    simp [Fn.f_value_Digits_b0, Fn.f_value_Digits_s0, w1, w2, w3, hb, hb', hlen, hset]
    refine ⟨b, ?_⟩
    simp [hd]
    omega
  · have hz : ¬ q = 0 := by omega
    simp [Fn.f_value_Digits_b0, Fn.f_value_Digits_s0, w1, w2, w3, hb, hb', hlen, hset, hz]
    rw [digs_big h10, hc, ← hq] at hd
    rw [digs_big h10, ← hq] at hl
    refine ⟨b, by omega, q, c :: t, by rw [hd]; simp, by simp at hl; omega, by simp; omega, by omega, ?_⟩
    exact ⟨rfl, rfl, by simp, rfl⟩
theorem cut_digits (a : Nat) (t : List UInt8) (h : a + t.length = 20) : rowsOf 1 [Blk.cells (List.replicate a zcell ++ t.map bcell)] (.own 1 0 a (20 - a)) = some (byteRows t) := by
  have := own_bytes (m := [Blk.cells (List.replicate a zcell ++ t.map bcell)]) (id := 0) (pre := List.replicate a zcell) (t := t) rfl
  rw [List.length_replicate] at this
  rw [← this]
  congr 2
  omega
theorem own_nil {n n' id off len : Nat} : rowsOf n [] (.own n' id off len) = none := by
  simp only [rowsOf]
  split <;> simp
theorem value_Digits (h : E.fn 39 = some Fn.f_value_Digits) (k : Nat) (n : Int) (h1 : -9223372036854775808 ≤ n) (h2 : n ≤ 9223372036854775807) (m : Mem) :
    denF E (k + 25) 39 [.p (.int .i64 n)] m = some (.ret (.p (.str (digits n))), m) := by
  refine denF_wp h rfl (args' := [.p (.int .i64 n)]) rfl ?_
  have hz : (List.replicate 20 zcell) = [zcell, zcell, zcell, zcell, zcell, zcell, zcell, zcell, zcell, zcell, zcell, zcell, zcell, zcell, zcell, zcell, zcell, zcell, zcell, zcell] := rfl
  by_cases hn : n < 0
  · have w1 : IntKind.u64.wrap (0 - IntKind.u64.wrap n) = (n.natAbs : Int) := by
      simp only [IntKind.wrap, IntKind.signed, IntKind.bits]
      simp
      omega
    have w1' : IntKind.u64.wrap (-IntKind.u64.wrap n) = (n.natAbs : Int) := by rw [← w1]; simp
    simp [Fn.f_value_Digits, hn, w1, w1']
    refine (digits_loop (k + 24) (by omega) _ n n.natAbs (by omega) _ ⟨rfl, rfl, rfl, rfl⟩).mono ?_
    rintro e st ⟨a, t, rfl, h3, h4, h5, h6, h7, h8, h9, h10⟩
    obtain ⟨ts, m', ds⟩ := st
    simp only at h3 h6 h7 h8 h9 h10
    subst h3 h6
    have hl := digs_len 18 n.natAbs (by omega)
    rw [h4] at hl
    obtain ⟨b, rfl⟩ : ∃ b, a = b + 1 := ⟨a - 1, by omega⟩
    have hb : b < 20 := by omega
    have hb' : b ≤ 19 := by omega
    have w2 : IntKind.i64.wrap (b : Int) = b := by rw [wrap_i64] <;> omega
    have hset : setAt (List.replicate (b + 1) zcell ++ t.map bcell) b [.p (.int .u8 45)] = _ := set_digit b t 45
    have hlen : (List.replicate (b + 1) zcell ++ t.map bcell).length = 20 := by simp; omega
    simp only [setAt, List.length_cons, List.length_nil, List.singleton_append, List.append_assoc, Nat.zero_add] at hset
    have hcut := cut_digits b (45 :: t) (by simp; omega)
    have hub := unBytes_rows (45 :: t)
    simp only [List.map_cons] at hcut
    have hb20 : b ≤ 20 := by omega
    have ht20 : 20 ≤ b + (t.length + 1) := by omega
    have hd : digits n = 45 :: t := by unfold digits; rw [if_pos hn, h4]
    rw [hd]
    generalize hcs : List.replicate (b + 1) zcell ++ t.map bcell = cs at *
    match ts, h7, h8, h9, h10 with
    | t0 :: t1 :: t2 :: t3 :: t4 :: t5 :: t6 :: t7 :: t8 :: t9 :: t10 :: t11 :: t12 :: t13 :: t14 :: t15 :: t16 :: t17 :: t18 :: t19 :: t20 :: t21 :: t22 :: t23 :: t24 :: t25 :: t26 :: t27 :: t28 :: t29 :: t30 :: t31 :: t32 :: [], h7, h8, h9, h10 =>
      simp at h8 h9 h10
      simp [h8, h9, h10, hn, w2, hb, hb', hb20, ht20, hlen, hset, hcut, hub, own_nil]
  · have w1 : IntKind.u64.wrap n = (n.natAbs : Int) := by
      simp only [IntKind.wrap, IntKind.signed, IntKind.bits]
      simp
      omega
    simp [Fn.f_value_Digits, hn, w1]
    refine (digits_loop (k + 24) (by omega) _ n n.natAbs (by omega) _ ⟨rfl, rfl, rfl, rfl⟩).mono ?_
    rintro e st ⟨a, t, rfl, h3, h4, h5, h6, h7, h8, h9, h10⟩
    obtain ⟨ts, m', ds⟩ := st
    simp only at h3 h6 h7 h8 h9 h10
    subst h3 h6
    have hcut := cut_digits a t h5
    have hub := unBytes_rows t
    have hb20 : a ≤ 20 := by omega
    have ht20 : 20 ≤ a + t.length := by omega
    have hd : digits n = t := by unfold digits; rw [if_neg hn, h4]
    rw [hd]
    match ts, h7, h8, h9, h10 with
    | t0 :: t1 :: t2 :: t3 :: t4 :: t5 :: t6 :: t7 :: t8 :: t9 :: t10 :: t11 :: t12 :: t13 :: t14 :: t15 :: t16 :: t17 :: t18 :: t19 :: t20 :: t21 :: t22 :: t23 :: t24 :: t25 :: t26 :: t27 :: t28 :: t29 :: t30 :: t31 :: t32 :: [], h7, h8, h9, h10 =>
      simp at h8 h9 h10
      simp [h8, h9, h10, hn, hb20, ht20, hcut, hub, own_nil]
end Hx

namespace Hx
open Go
set_option linter.unusedSimpArgs false
set_option linter.unusedVariables false
set_option maxHeartbeats 4000000
variable {E : Env}
attribute [-simp] List.getD_eq_getElem?_getD getElem?_pos
end Hx
