/-
  HxU05: the digits of a number, as both the program and the document write them.
-/
import Derived.Test.YtifcegbomagcpaaDoorHxFn06
import Derived.Test.YtifcegbomagcpaaDoorHxSimp
import Derived.Test.YtifcegbomagcpaaDoorHxU03k
/-
  HxM05: the digits of a number: plain laws.
-/
namespace Hx
def dgt (d : Nat) : UInt8 := UInt8.ofNat (48 + d)
def digs (n : Nat) : List UInt8 := if n < 10 then [dgt n] else digs (n / 10) ++ [dgt (n % 10)]
termination_by n
decreasing_by omega
def digits (n : Int) : List UInt8 := if n < 0 then 45 :: digs n.natAbs else digs n.natAbs
theorem digs_small {n : Nat} (h : n < 10) : digs n = [dgt n] := by rw [digs, if_pos h]
theorem digs_big {n : Nat} (h : ¬ n < 10) : digs n = digs (n / 10) ++ [dgt (n % 10)] := by rw [digs, if_neg h]
theorem digs_ne (n : Nat) : digs n ≠ [] := by
  by_cases h : n < 10
  · rw [digs_small h]; simp
  · rw [digs_big h]; simp
theorem digs_pos (n : Nat) : 0 < (digs n).length := by
  cases h : digs n with
  | nil => exact absurd h (digs_ne n)
  | cons => simp
theorem digs_len : ∀ (k n : Nat), n < 10 ^ (k + 1) → (digs n).length ≤ k + 1
  | 0, n, h => by
    rw [digs_small (by simpa using h)]
    simp
  | k + 1, n, h => by
    by_cases hn : n < 10
    · rw [digs_small hn]; simp
    · rw [digs_big hn, List.length_append]
      have := digs_len k (n / 10) (by
        have e : 10 ^ (k + 1 + 1) = 10 * 10 ^ (k + 1) := by rw [Nat.pow_succ, Nat.mul_comm]
        rw [e] at h
        exact Nat.div_lt_of_lt_mul h)
      simp only [List.length_cons, List.length_nil]
      omega
theorem dgt_toNat {d : Nat} (h : d < 10) : (dgt d).toNat = 48 + d := by
  unfold dgt
  rw [UInt8.toNat_ofNat']
  omega
theorem dgt_inj {a b : Nat} (ha : a < 10) (hb : b < 10) (h : dgt a = dgt b) : a = b := by
  have := congrArg UInt8.toNat h
  rw [dgt_toNat ha, dgt_toNat hb] at this
  omega
theorem digs_mem {c : UInt8} : ∀ (k n : Nat), n ≤ k → c ∈ digs n → 48 ≤ c.toNat ∧ c.toNat ≤ 57
  | 0, n, hk, h => by
    rw [digs_small (by omega)] at h
    simp only [List.mem_cons, List.not_mem_nil, or_false] at h
    subst h
    rw [dgt_toNat (by omega)]
    omega
  | k + 1, n, hk, h => by
    by_cases hn : n < 10
    · rw [digs_small hn] at h
      simp only [List.mem_cons, List.not_mem_nil, or_false] at h
      subst h
      rw [dgt_toNat (by omega)]
      omega
    · rw [digs_big hn] at h
      simp only [List.mem_append, List.mem_cons, List.not_mem_nil, or_false] at h
      rcases h with h | rfl
      · exact digs_mem k (n / 10) (by omega) h
      · rw [dgt_toNat (by omega)]
        omega
theorem digs_inj : ∀ (k a b : Nat), a ≤ k → digs a = digs b → a = b
  | 0, a, b, hk, h => by
    have ha : a = 0 := by omega
    subst ha
    rw [digs_small (by omega)] at h
    by_cases hb : b < 10
    · rw [digs_small hb] at h
      exact dgt_inj (by omega) hb (List.head_eq_of_cons_eq h)
    · rw [digs_big hb] at h
      have := congrArg List.length h
      have := digs_pos (b / 10)
      simp only [List.length_append, List.length_cons, List.length_nil] at *
      omega
  | k + 1, a, b, hk, h => by
    by_cases ha : a < 10
    · rw [digs_small ha] at h
      by_cases hb : b < 10
      · rw [digs_small hb] at h
        exact dgt_inj ha hb (List.head_eq_of_cons_eq h)
      · rw [digs_big hb] at h
        have := congrArg List.length h
        have := digs_pos (b / 10)
        simp only [List.length_append, List.length_cons, List.length_nil] at *
        omega
    · rw [digs_big ha] at h
      by_cases hb : b < 10
      · rw [digs_small hb] at h
        have := congrArg List.length h
        have := digs_pos (a / 10)
        simp only [List.length_append, List.length_cons, List.length_nil] at *
        omega
      · rw [digs_big hb] at h
        obtain ⟨h1, h2⟩ := List.append_inj' h rfl
        have e1 := digs_inj k (a / 10) (b / 10) (by omega) h1
        have e2 := dgt_inj (by omega) (by omega) (List.head_eq_of_cons_eq h2)
        omega
theorem digits_64 {n : Int} (h1 : -9223372036854775808 ≤ n) (h2 : n ≤ 9223372036854775807) : (digits n).length ≤ 20 := by
  have := digs_len 18 n.natAbs (by omega)
  unfold digits
  split <;> (try simp only [List.length_cons]) <;> omega
end Hx

namespace Hx
def isDig (c : UInt8) : Bool := decide (48 ≤ c.toNat) && decide (c.toNat ≤ 57)
def dval (c : UInt8) : Nat := c.toNat - 48
def stepD (a : Nat) (c : UInt8) : Nat := 10 * a + dval c
def numVal (a : Nat) (x : List UInt8) : Nat := x.foldl stepD a
theorem numVal_nil (a : Nat) : numVal a [] = a := rfl
theorem numVal_cons (a : Nat) (c : UInt8) (r : List UInt8) : numVal a (c :: r) = numVal (10 * a + dval c) r := by
  unfold numVal
  rw [List.foldl_cons, stepD]
theorem numVal_app : ∀ (a : Nat) (x y : List UInt8), numVal a (x ++ y) = numVal (numVal a x) y
  | _, [], _ => rfl
  | a, c :: x, y => by rw [List.cons_append, numVal_cons, numVal_cons, numVal_app]
theorem numVal_ge : ∀ (a : Nat) (x : List UInt8), a ≤ numVal a x
  | _, [] => Nat.le_refl _
  | a, c :: x => by
    have := numVal_ge (10 * a + dval c) x
    rw [numVal_cons]
    omega
theorem numVal_lt : ∀ (a : Nat) (x : List UInt8), (∀ c ∈ x, isDig c = true) → numVal a x < (a + 1) * 10 ^ x.length
  | a, [], _ => by simp [numVal_nil]
  | a, c :: x, h => by
    have hc := h c (by simp)
    unfold isDig at hc
    simp only [Bool.and_eq_true, decide_eq_true_eq] at hc
    have := numVal_lt (10 * a + dval c) x (fun d hd => h d (List.mem_cons_of_mem _ hd))
    rw [numVal_cons, List.length_cons, Nat.pow_succ, Nat.mul_comm (10 ^ x.length) 10, ← Nat.mul_assoc]
    refine Nat.lt_of_lt_of_le this (Nat.mul_le_mul_right _ ?_)
    unfold dval
    omega
theorem digs_numVal : ∀ (x : List UInt8) (a : Nat), 0 < a → (∀ c ∈ x, isDig c = true) → digs (numVal a x) = digs a ++ x
  | [], a, _, _ => by simp [numVal_nil]
  | c :: x, a, ha, h => by
    have hc := h c (by simp)
    unfold isDig at hc
    simp only [Bool.and_eq_true, decide_eq_true_eq] at hc
    rw [numVal_cons, digs_numVal x _ (by omega) (fun d hd => h d (List.mem_cons_of_mem _ hd))]
    have hb : ¬ 10 * a + dval c < 10 := by omega
    have h1 : (10 * a + dval c) / 10 = a := by unfold dval; omega
    have h2 : (10 * a + dval c) % 10 = dval c := by unfold dval; omega
    rw [digs_big hb, h1, h2, List.append_assoc]
    have : dgt (dval c) = c := by
      unfold dgt dval
      have : 48 + (c.toNat - 48) = c.toNat := by omega
      rw [this]
      exact UInt8.ofNat_toNat
    rw [this]
    rfl
theorem digs_of_run {x : List UInt8} (h : ∀ c ∈ x, isDig c = true) (hne : x ≠ []) (h0 : x.head? = some 48 → x = [48]) : digs (numVal 0 x) = x := by
  cases x with
  | nil => exact absurd rfl hne
  | cons c x =>
    have hc := h c (by simp)
    unfold isDig at hc
    simp only [Bool.and_eq_true, decide_eq_true_eq] at hc
    by_cases hz : c = 48
    · subst hz
      have := h0 rfl
      rw [this]
      have : numVal 0 [48] = 0 := by decide +kernel
      rw [this, digs_small (by omega)]
      rfl
    · have hd : 0 < dval c := by
        have : c.toNat ≠ 48 := fun q => hz (UInt8.toNat_inj.1 q)
        unfold dval
        omega
      rw [numVal_cons, digs_numVal x _ (by omega) (fun d hd => h d (List.mem_cons_of_mem _ hd))]
      have e : 10 * 0 + dval c = dval c := by omega
      have : dgt (dval c) = c := by
        unfold dgt dval
        have : 48 + (c.toNat - 48) = c.toNat := by omega
        rw [this]
        exact UInt8.ofNat_toNat
      rw [e, digs_small (by unfold dval; omega), this]
      rfl
end Hx

namespace Hx
open Go
set_option linter.unusedSimpArgs false
set_option linter.unusedVariables false
set_option maxHeartbeats 4000000
variable {E : Env}
attribute [-simp] List.getD_eq_getElem?_getD getElem?_pos
def letter (c : UInt8) : Bool := decide ((97 : Int) ≤ c.toNat) && decide ((c.toNat : Int) ≤ 122)
def partC (c : UInt8) : Bool := letter c || (decide ((48 : Int) ≤ c.toNat) && decide ((c.toNat : Int) ≤ 57)) || ((c.toNat : Int) == 95)
def nameLen : List UInt8 → Nat
  | [] => 0
  | c :: r => if letter c then 1 + (r.takeWhile partC).length else 0
structure N04 (E : Env) : Prop where
  part : E.fn 65 = some Fn.f_name_part
  read : E.fn 50 = some Fn.f_name_Read
  rletter : E.fn 67 = some Fn.f_haulageref04_letter
  rpart : E.fn 66 = some Fn.f_haulageref04_Part
  rread : E.fn 51 = some Fn.f_haulageref04_Read
theorem name_part (h : E.fn 65 = some Fn.f_name_part) (k : Nat) (c : UInt8) (i : Int) (m : Mem) : denF E (k + 1) 65 [.p (.int .u8 c.toNat), .p (.int .i64 i)] m = some (.ret (.p (.bool (letter c || (partC c && decide (0 < i))))), m) := by
  refine denF_wp h rfl (args' := [.p (.int .u8 c.toNat), .p (.int .i64 i)]) rfl ?_
  unfold partC letter
  generalize (c.toNat : Int) = x
  by_cases h1 : (97 : Int) ≤ x
  · by_cases h2 : x ≤ 122
    · simp [Fn.f_name_part, h1, h2]
    · have h3 : (48 : Int) ≤ x := by omega
      have h4 : ¬ x ≤ 57 := by omega
      have h5 : (x == 95) = false := by simp; omega
      simp [Fn.f_name_part, h1, h2, h3, h4, h5]
  · by_cases h3 : (48 : Int) ≤ x
    · by_cases h4 : x ≤ 57
      · simp [Fn.f_name_part, h1, h3, h4]
      · cases h5 : (x == 95) <;> simp [Fn.f_name_part, h1, h3, h4, h5]
    · have h5 : (x == 95) = false := by simp; omega
      simp [Fn.f_name_part, h1, h3, h5]
theorem ref_letter (h : E.fn 67 = some Fn.f_haulageref04_letter) (k : Nat) (c : UInt8) (m : Mem) : denF E (k + 1) 67 [.p (.int .u8 c.toNat)] m = some (.ret (.p (.bool (letter c))), m) := by
  refine denF_wp h rfl (args' := [.p (.int .u8 c.toNat)]) rfl ?_
  unfold letter
  generalize (c.toNat : Int) = x
  by_cases h1 : (97 : Int) ≤ x <;> simp [Fn.f_haulageref04_letter, h1]
theorem ref_part (u : N04 E) (k : Nat) (c : UInt8) (m : Mem) : denF E (k + 2) 66 [.p (.int .u8 c.toNat)] m = some (.ret (.p (.bool (partC c))), m) := by
  refine denF_wp u.rpart rfl (args' := [.p (.int .u8 c.toNat)]) rfl ?_
  have hl := fun m => ref_letter u.rletter k c m
  unfold partC
  generalize letter c = l at *
  generalize (c.toNat : Int) = x at *
  cases l
  · by_cases h3 : (48 : Int) ≤ x
    · by_cases h4 : x ≤ 57
      · simp [Fn.f_haulageref04_Part, hl, h3, h4]
      · simp [Fn.f_haulageref04_Part, hl, h3, h4]
    · simp [Fn.f_haulageref04_Part, hl, h3]
  · simp [Fn.f_haulageref04_Part, hl]
def NameFar (s : List UInt8) (i : Nat) : Prop := i ≤ s.length ∧ (i = 0 ∨ nameLen s = i + ((s.drop i).takeWhile partC).length)
theorem drop_at {s : List UInt8} {i : Nat} {c : UInt8} (h : s[i]? = some c) : s.drop i = c :: s.drop (i + 1) := by
  obtain ⟨hi, rfl⟩ := List.getElem?_eq_some_iff.1 h
  exact List.drop_eq_getElem_cons hi
theorem letter_part {c : UInt8} (h : letter c = true) : partC c = true := by unfold partC; rw [h]; rfl
theorem name_next {s : List UInt8} {i : Nat} {c : UInt8} (h : NameFar s i) (hc : s[i]? = some c) (hp : (letter c || (partC c && decide (0 < i))) = true) : NameFar s (i + 1) := by
  obtain ⟨h1, h2⟩ := h
  have hlt : i < s.length := (List.getElem?_eq_some_iff.1 hc).1
  refine ⟨hlt, .inr ?_⟩
  rcases h2 with rfl | h2
  · have hl : letter c = true := by simpa using hp
    cases s with
    | nil => simp at hlt
    | cons d r =>
      simp at hc
      subst hc
      simp [nameLen, hl]
  · rw [h2, drop_at hc, List.takeWhile_cons]
    have : partC c = true := by
      cases hl : letter c with
      | true => exact letter_part hl
      | false => rw [hl] at hp; simp at hp; exact hp.1
    rw [if_pos this, List.length_cons]
    omega
theorem name_stop {s : List UInt8} {i : Nat} {c : UInt8} (h : NameFar s i) (hc : s[i]? = some c) (hp : (letter c || (partC c && decide (0 < i))) = false) : nameLen s = i := by
  obtain ⟨h1, h2⟩ := h
  have hlt : i < s.length := (List.getElem?_eq_some_iff.1 hc).1
  simp only [Bool.or_eq_false_iff] at hp
  obtain ⟨hl, hp⟩ := hp
  by_cases hi : i = 0
  · subst hi
    cases s with
    | nil => simp at hlt
    | cons d r =>
      simp at hc
      subst hc
      simp [nameLen, hl]
  · rcases h2 with h2 | h2
    · exact absurd h2 hi
    · rw [h2, drop_at hc, List.takeWhile_cons]
      have : partC c = false := by
        cases hq : partC c with
        | false => rfl
        | true => rw [hq] at hp; simp at hp; omega
      rw [this]
      simp
theorem name_end {s : List UInt8} (h : NameFar s s.length) : nameLen s = s.length := by
  obtain ⟨h1, h2⟩ := h
  rcases h2 with h2 | h2
  · have : s = [] := List.length_eq_zero_iff.1 h2
    subst this
    rfl
  · rw [h2, List.drop_length]
    simp
theorem nameLen_le (s : List UInt8) : nameLen s ≤ s.length := by
  cases s with
  | nil => exact Nat.le_refl _
  | cons c r =>
    have e : nameLen (c :: r) = if letter c then 1 + (r.takeWhile partC).length else 0 := rfl
    rw [e]
    split
    · have := (List.takeWhile_prefix partC (l := r)).length_le
      simp only [List.length_cons]
      omega
    · omega
theorem name_Read (u : N04 E) (s : List UInt8) (hs : (s.length : Int) ≤ 1000000000000) (k : Nat) (hk : s.length + 4 ≤ k) (m : Mem) : denF E (k + 1) 50 [.p (.str s)] m = some (.ret (.p (.int .i64 (nameLen s))), m) := by
  refine denF_wp u.read rfl (args' := [.p (.str s)]) rfl ?_
  obtain ⟨j, rfl⟩ : ∃ j, k = j + 1 := ⟨k - 1, by omega⟩
  simp [Fn.f_name_Read]
  refine (loop_wp (α := Nat) (I := fun i st => NameFar s i ∧ Live Fn.f_name_Read_k0 (Fn.f_name_Read_s0 (.p (.str s)) (.p (.int .i64 s.length)) (.p (.int .i64 i))) [] st) (meas := fun i => s.length - i)
    (Q := fun e st => st.ds = [] ∧ ((e = .exit 0 ∧ st.ts.length = 19 ∧ nameLen s = s.length ∧ st.ts.getD 0 (.tup []) = .p (.str s)) ∨ (e = .ret ∧ st.ts.getD 2 (.tup []) = .p (.int .i64 (nameLen s))))) ?_ (j + 1) 0 _ ⟨⟨Nat.zero_le _, .inl rfl⟩, rfl, rfl, rfl, rfl⟩ (by omega)).mono ?_
  · rintro i st ⟨hf, hlive⟩
    rw [loopF_live hlive]
    by_cases hi : i < s.length
    · have hi' : (i : Int) < s.length := by omega
      obtain ⟨c, hc⟩ : ∃ c, s[i]? = some c := ⟨_, List.getElem?_eq_getElem hi⟩
      have hp := fun m => name_part u.part j c i m
      have hw : IntKind.i64.wrap ((i : Int) + 1) = i + 1 := wrap_i64 (by omega) (by omega)
      cases hq : (letter c || (partC c && decide (0 < i))) with
      | true =>
        have hn := name_next hf hc hq
        have hq' : (letter c || (partC c && decide ((0 : Int) < i))) = true := by rw [← hq]; simp
        rw [hq'] at hp
        simp [Fn.f_name_Read_b0, Fn.f_name_Read_s0, hi, hi', hc, hp, hw]
        exact ⟨i + 1, by omega, hn, rfl, rfl, rfl, rfl⟩
      | false =>
        have hn := name_stop hf hc hq
        have hq' : (letter c || (partC c && decide ((0 : Int) < i))) = false := by rw [← hq]; simp
        rw [hq'] at hp
        simp [Fn.f_name_Read_b0, Fn.f_name_Read_s0, hi, hi', hc, hp, hn]
    · have hi' : ¬ (i : Int) < s.length := by omega
      have hn : i = s.length := by have := hf.1; omega
      subst hn
      have := name_end hf
      simp [Fn.f_name_Read_b0, Fn.f_name_Read_s0, this]
  · rintro e st ⟨h0, h⟩
    obtain ⟨ts, m', ds⟩ := st
    simp only at h0 h
    rcases h with ⟨rfl, h1, h2, h3⟩ | ⟨rfl, h3⟩
    · match ts, h1, h3 with
      | t0 :: t1 :: t2 :: t3 :: t4 :: t5 :: t6 :: t7 :: t8 :: t9 :: t10 :: t11 :: t12 :: t13 :: t14 :: t15 :: t16 :: t17 :: t18 :: [], h1, h3 =>
        simp at h3
        simp [h0, h2, h3]
    · simp [h0, h3]
theorem ref_NRead (u : N04 E) (s : List UInt8) (hs : (s.length : Int) ≤ 1000000000000) (k : Nat) (hk : s.length + 4 ≤ k) (m : Mem) : denF E (k + 1) 51 [.p (.str s)] m = some (.ret (.p (.int .i64 (nameLen s))), m) := by
  refine denF_wp u.rread rfl (args' := [.p (.str s)]) rfl ?_
  obtain ⟨j, rfl⟩ : ∃ j, k = j + 2 := ⟨k - 2, by omega⟩
  simp [Fn.f_haulageref04_Read]
  refine (loop_wp (α := Nat) (I := fun i st => NameFar s i ∧ Live Fn.f_haulageref04_Read_k0 (Fn.f_haulageref04_Read_s0 (.p (.str s)) (.p (.int .i64 i))) [] st) (meas := fun i => s.length - i)
    (Q := fun e st => st.ds = [] ∧ e = .exit 0 ∧ st.ts.length = 26 ∧ st.ts.getD 3 (.tup []) = .p (.int .i64 (nameLen s))) ?_ (j + 2) 0 _ ⟨⟨Nat.zero_le _, .inl rfl⟩, rfl, rfl, rfl, rfl⟩ (by omega)).mono ?_
  · rintro i st ⟨hf, hlive⟩
    rw [loopF_live hlive]
    by_cases hi : i < s.length
    · have hi' : (i : Int) < s.length := by omega
      obtain ⟨c, hc⟩ : ∃ c, s[i]? = some c := ⟨_, List.getElem?_eq_getElem hi⟩
      obtain ⟨d, hd⟩ : ∃ d, s[0]? = some d := ⟨_, List.getElem?_eq_getElem (by omega)⟩
      have hp := fun m => ref_part u j c m
      have hl := fun m => ref_letter u.rletter (j + 1) d m
      have hw : IntKind.i64.wrap ((i : Int) + 1) = i + 1 := wrap_i64 (by omega) (by omega)
      by_cases h0 : i = 0
      · subst h0
        rw [hc] at hd
        obtain rfl := Option.some.inj hd
        cases hq : letter c with
        | true =>
          have hn := name_next hf hc (by rw [hq]; rfl)
          rw [letter_part hq] at hp
          rw [hq] at hl
          have hw1 : IntKind.i64.wrap 1 = 1 := rfl
          simp [Fn.f_haulageref04_Read_b0, Fn.f_haulageref04_Read_s0, hi, hi', hc, hp, hl, hw1]
          exact ⟨1, by omega, hn, rfl, rfl, rfl, rfl⟩
        | false =>
          have hn := name_stop hf hc (by rw [hq]; simp)
          rw [hq] at hl
          cases hr : partC c <;> rw [hr] at hp <;> simp [Fn.f_haulageref04_Read_b0, Fn.f_haulageref04_Read_s0, hi, hi', hc, hp, hl, hn]
      · have h0' : (0 : Int) < i := by omega
        have h0'' : 0 < i := by omega
        cases hr : partC c with
        | true =>
          have hn := name_next hf hc (by rw [hr]; simp [h0''])
          rw [hr] at hp
          simp [Fn.f_haulageref04_Read_b0, Fn.f_haulageref04_Read_s0, hi, hi', hc, hp, hw, h0', h0'']
          exact ⟨i + 1, by omega, hn, rfl, rfl, rfl, rfl⟩
        | false =>
          have hlc : letter c = false := by
            cases hq : letter c with
            | false => rfl
            | true => rw [letter_part hq] at hr; cases hr
          have hn := name_stop hf hc (by rw [hr, hlc]; rfl)
          rw [hr] at hp
          simp [Fn.f_haulageref04_Read_b0, Fn.f_haulageref04_Read_s0, hi, hi', hc, hp, hn]
    · have hi' : ¬ (i : Int) < s.length := by omega
      have hn : i = s.length := by have := hf.1; omega
      subst hn
      have := name_end hf
      simp [Fn.f_haulageref04_Read_b0, Fn.f_haulageref04_Read_s0, this]
  · rintro e st ⟨h0, rfl, h1, h3⟩
    obtain ⟨ts, m', ds⟩ := st
    simp only at h0 h1 h3
    match ts, h1, h3 with
    | t0 :: t1 :: t2 :: t3 :: t4 :: t5 :: t6 :: t7 :: t8 :: t9 :: t10 :: t11 :: t12 :: t13 :: t14 :: t15 :: t16 :: t17 :: t18 :: t19 :: t20 :: t21 :: t22 :: t23 :: t24 :: t25 :: [], h1, h3 =>
      simp at h3
      simp [h0, h3]
end Hx

/-
  HxM06: types of columns, and which of two is as wide: plain laws.
-/
namespace Hx
end Hx

namespace Hx
open Go
set_option linter.unusedSimpArgs false
set_option maxHeartbeats 1000000
variable {E : Env}
attribute [-simp] List.getD_eq_getElem?_getD getElem?_pos
theorem ref_Signs (u : R03 E) (s : List UInt8) (hs : (s.length : Int) ≤ 1000000000000) (k : Nat) (hk : s.length + 8 ≤ k) (m : Mem) :
    denF E (k + 1) 8 [.p (.str s)] m = some (.ret (.tup [.p (signsV s), .p (.bool (signs s).isSome)]), m) := by
  refine denF_wp u.rSigns rfl (args' := [.p (.str s)]) rfl ?_
  simp [Fn.f_haulageref03_Signs]
  refine (loop_wp (α := Nat) (I := fun i st => ∃ acc ov m, SoFar s i acc ∧ Grow 1 (acc.map rowI) ov m ∧ Live Fn.f_haulageref03_Signs_k0 (Fn.f_haulageref03_Signs_s0 (.p (.str (s.drop i))) ov) m st) (meas := fun i => s.length - i)
    (Q := fun e st => (∃ acc ov, e = .exit 0 ∧ st.ds = [] ∧ signs s = some acc ∧ Grow 1 (acc.map rowI) ov st.m ∧ st.ts.length = 26 ∧ st.ts.getD 4 (.tup []) = ov) ∨ (e = .ret ∧ st.ds = [] ∧ signs s = none ∧ st.ts.getD 2 (.tup []) = .p .nils ∧ st.ts.getD 3 (.tup []) = .p (.bool false))) ?_ k 0 _ ⟨[], _, [], soFar_0 s, .inl ⟨rfl, rfl⟩, rfl, rfl, rfl, rfl⟩ (by omega)).mono ?_
  · rintro i st ⟨acc, ov, m, hf, hg, hlive⟩
    rw [loopF_live hlive]
    have h0 := hf.1
    have h1 := hf.2.1
    by_cases hi : i < s.length
    · have hne : (s.drop i == []) = false := by
        simp only [beq_eq_false_iff_ne, ne_eq]
        intro e; have := congrArg List.length e; simp at this; omega
      have hR := fun m => ref_Read u.toV03 (k - 6) (s.drop i) m
      rw [show k - 6 + 6 = k by omega, refR_eq] at hR
      cases r : readU (s.drop i) with
      | none =>
        rw [r] at hR
        simp [Fn.f_haulageref03_Signs_b0, Fn.f_haulageref03_Signs_s0, hne, hR, readV, soFar_bad hf hi r]
      | some p =>
        obtain ⟨n, size⟩ := p
        rw [r] at hR
        obtain ⟨z1, z2, z3⟩ := readU_size r
        have z4 : size.toNat ≤ (s.drop i).length := by omega
        have z5 : 0 ≤ size := by omega
        rw [List.length_drop] at z2 z4
        rcases hg with ⟨hr, rfl⟩ | ⟨hr, t, rfl, ht⟩
        · have hacc : acc = [] := by simpa using hr
          subst hacc
          simp [Fn.f_haulageref03_Signs_b0, Fn.f_haulageref03_Signs_s0, hne, hR, readV, z4, z5, room]
          refine ⟨i + size.toNat, by omega, [n], soFar_next hf hi r, _, _, .inr ⟨by simp, m.length + 1, rfl, ?_⟩, rfl, ?_, rfl, rfl⟩
          · have := get_new (m := m ++ [Blk.tok 1 1]) (x := .tok 1 1)
            simpa using this
          · simp [Fn.f_haulageref03_Signs_k0, rowI]
            rw [List.take_of_length_le (by rw [List.length_drop]; exact Nat.le_refl _), List.drop_drop]
        · rw [List.length_map] at ht
          have ht2 : ∀ y, (m ++ [y])[t]? = some (.tok 1 acc.length) := fun y => get_app ht _
          have hb : (acc.length + 1) * 8 ≤ room ∧ acc.length + 1 ≤ room := by unfold room; omega
          simp [Fn.f_haulageref03_Signs_b0, Fn.f_haulageref03_Signs_s0, hne, hR, readV, z4, z5, ht2, hb]
          refine ⟨i + size.toNat, by omega, acc ++ [n], soFar_next hf hi r, .tv 1 (acc.map rowI ++ [rowI n]) t, _, .inr ⟨by simp, t, by simp, ?_⟩, rfl, ?_, rfl, rfl⟩
          · rw [get_set (ht2 _)]; simp
          · simp [Fn.f_haulageref03_Signs_k0, rowI]
            rw [List.take_of_length_le (by rw [List.length_drop]; exact Nat.le_refl _), List.drop_drop]
    · have : i = s.length := by omega
      subst this
      simp [Fn.f_haulageref03_Signs_b0, Fn.f_haulageref03_Signs_s0]
      exact ⟨acc, soFar_end hf, hg⟩
  · rintro e st (⟨acc, ov, rfl, h1, h2, h3, h4, h5⟩ | ⟨rfl, h1, h2, h3, h4⟩)
    · obtain ⟨ts, m', ds⟩ := st
      simp only at h1 h3 h4 h5
      match ts, h4 with
      | [t0, t1, t2, t3, t4, t5, t6, t7, t8, t9, t10, t11, t12, t13, t14, t15, t16, t17, t18, t19, t20, t21, t22, t23, t24, t25], _ =>
        simp only [getD_succ', getD_zero'] at h5
        subst h5
        have hq := grow_strip h3
        rcases h3 with ⟨h3, rfl⟩ | ⟨h3, t, rfl, ht⟩
        · have : acc = [] := by simpa using h3
          subst this
          simp [h1, signsV, h2, slP]
        · simp only [stripV, strip0, Option.some.injEq, AV.p.injEq] at hq
          simp [h1, signsV, h2, ← hq]
    · simp [h1, h3, h4, signsV, h2]
theorem ref_Right (u : R03 E) (s : List UInt8) (hs : (s.length : Int) ≤ 1000000000000) (k : Nat) (hk : s.length + 9 ≤ k) (m : Mem) : denF E (k + 1) 22 [.p (.str s)] m = some (.ret (.p (.bool (signs s).isSome)), m) := by
  obtain ⟨k, rfl⟩ : ∃ j, k = j + 1 := ⟨k - 1, by omega⟩
  refine denF_wp u.rRight rfl (args' := [.p (.str s)]) rfl ?_
  have hC := fun m => ref_Signs u s hs k (by omega) m
  simp [Fn.f_haulageref03_Right, hC]
end Hx

namespace Hx
open Go
set_option linter.unusedSimpArgs false
set_option linter.unusedVariables false
set_option maxHeartbeats 4000000
variable {E : Env}
attribute [-simp] List.getD_eq_getElem?_getD getElem?_pos
theorem intBeq {a b : Int} : (a == b) = decide (a = b) := by
  rw [Bool.eq_iff_iff]; simp
theorem maxIf {a c : Int} : (if a < c then c else a) = max a c := by
  split <;> omega
attribute [local simp] intBeq maxIf
def tP (k m : Int) : PV := .agg [.int .i64 k, .int .i64 m]
structure T06 (E : Env) : Prop where
  right : E.fn 84 = some Fn.f_typ_Right
  long : E.fn 95 = some Fn.f_typ_long
  need : E.fn 96 = some Fn.f_typ_need
  digits : E.fn 99 = some Fn.f_typ_digits
  wide : E.fn 83 = some Fn.f_typ_Wide
  join : E.fn 79 = some Fn.f_typ_Join
  rRight : E.fn 85 = some Fn.f_haulageref06_Right
  rWide : E.fn 88 = some Fn.f_haulageref06_Wide
end Hx

namespace Hx
open Go
set_option linter.unusedSimpArgs false
set_option linter.unusedVariables false
set_option maxHeartbeats 4000000
variable {E : Env}
attribute [-simp] List.getD_eq_getElem?_getD getElem?_pos
attribute [local simp] intBeq
end Hx
