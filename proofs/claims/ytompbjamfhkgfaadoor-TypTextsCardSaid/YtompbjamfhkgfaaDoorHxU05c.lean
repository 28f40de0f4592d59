/-
  HxU05c: the number that a text begins with, as both the program and the document read it.
-/
import Derived.Test.YtompbjamfhkgfaaDoorHxM05
import Derived.Test.YtompbjamfhkgfaaDoorHxFn06
import Derived.Test.YtompbjamfhkgfaaDoorHxSimp
import Derived.Test.YtompbjamfhkgfaaDoorHxU05b
namespace Hx
def isDig (c : UInt8) : Bool := decide (48 ≤ c.toNat) && decide (c.toNat ≤ 57)
def dval (c : UInt8) : Nat := c.toNat - 48
def stepD (a : Nat) (c : UInt8) : Nat := 10 * a + dval c
def numVal (a : Nat) (x : List UInt8) : Nat := x.foldl stepD a
theorem numVal_nil (a : Nat) : numVal a [] = a := rfl
theorem numVal_cons (a : Nat) (c : UInt8) (r : List UInt8) : numVal a (c :: r) = numVal (10 * a + dval c) r := by
  unfold numVal
  rw [List.foldl_cons, stepD]
theorem numVal_app : ∀ (a : Nat) (x y : List UInt8), numVal a (x ++ y) = numVal (numVal a x) y
  | _, [], _ => rfl
  | a, c :: x, y => by rw [List.cons_append, numVal_cons, numVal_cons, numVal_app]
theorem numVal_ge : ∀ (a : Nat) (x : List UInt8), a ≤ numVal a x
  | _, [] => Nat.le_refl _
  | a, c :: x => by
    have := numVal_ge (10 * a + dval c) x
    rw [numVal_cons]
    omega
theorem numVal_lt : ∀ (a : Nat) (x : List UInt8), (∀ c ∈ x, isDig c = true) → numVal a x < (a + 1) * 10 ^ x.length
  | a, [], _ => by simp [numVal_nil]
  | a, c :: x, h => by
    have hc := h c (by simp)
    unfold isDig at hc
    simp only [Bool.and_eq_true, decide_eq_true_eq] at hc
    have := numVal_lt (10 * a + dval c) x (fun d hd => h d (List.mem_cons_of_mem _ hd))
    rw [numVal_cons, List.length_cons, Nat.pow_succ, Nat.mul_comm (10 ^ x.length) 10, ← Nat.mul_assoc]
    refine Nat.lt_of_lt_of_le this (Nat.mul_le_mul_right _ ?_)
    unfold dval
    omega
/-- Digits without a needless 0 ahead are the digits of their number. -/
theorem digs_numVal : ∀ (x : List UInt8) (a : Nat), 0 < a → (∀ c ∈ x, isDig c = true) → digs (numVal a x) = digs a ++ x
  | [], a, _, _ => by simp [numVal_nil]
  | c :: x, a, ha, h => by
    have hc := h c (by simp)
    unfold isDig at hc
    simp only [Bool.and_eq_true, decide_eq_true_eq] at hc
    rw [numVal_cons, digs_numVal x _ (by omega) (fun d hd => h d (List.mem_cons_of_mem _ hd))]
    have hb : ¬ 10 * a + dval c < 10 := by omega
    have h1 : (10 * a + dval c) / 10 = a := by unfold dval; omega
    have h2 : (10 * a + dval c) % 10 = dval c := by unfold dval; omega
    rw [digs_big hb, h1, h2, List.append_assoc]
    have : dgt (dval c) = c := by
      unfold dgt dval
      have : 48 + (c.toNat - 48) = c.toNat := by omega
      rw [this]
      exact UInt8.ofNat_toNat
    rw [this]
    rfl
theorem digs_of_run {x : List UInt8} (h : ∀ c ∈ x, isDig c = true) (hne : x ≠ []) (h0 : x.head? = some 48 → x = [48]) : digs (numVal 0 x) = x := by
  cases x with
  | nil => exact absurd rfl hne
  | cons c x =>
    have hc := h c (by simp)
    unfold isDig at hc
    simp only [Bool.and_eq_true, decide_eq_true_eq] at hc
    by_cases hz : c = 48
    · subst hz
      have := h0 rfl
      rw [this]
      have : numVal 0 [48] = 0 := by decide +kernel
      rw [this, digs_small (by omega)]
      rfl
    · have hd : 0 < dval c := by
        have : c.toNat ≠ 48 := fun q => hz (UInt8.toNat_inj.1 q)
        unfold dval
        omega
      rw [numVal_cons, digs_numVal x _ (by omega) (fun d hd => h d (List.mem_cons_of_mem _ hd))]
      have e : 10 * 0 + dval c = dval c := by omega
      have : dgt (dval c) = c := by
        unfold dgt dval
        have : 48 + (c.toNat - 48) = c.toNat := by omega
        rw [this]
        exact UInt8.ofNat_toNat
      rw [e, digs_small (by unfold dval; omega), this]
      rfl
end Hx

namespace Hx
open Go
set_option linter.unusedSimpArgs false
set_option linter.unusedVariables false
set_option maxHeartbeats 4000000
variable {E : Env}
attribute [-simp] List.getD_eq_getElem?_getD getElem?_pos
def letter (c : UInt8) : Bool := decide ((97 : Int) ≤ c.toNat) && decide ((c.toNat : Int) ≤ 122)
def partC (c : UInt8) : Bool := letter c || (decide ((48 : Int) ≤ c.toNat) && decide ((c.toNat : Int) ≤ 57)) || ((c.toNat : Int) == 95)
def nameLen : List UInt8 → Nat
  | [] => 0
  | c :: r => if letter c then 1 + (r.takeWhile partC).length else 0
structure N04 (E : Env) : Prop where
  part : E.fn 65 = some Fn.f_name_part
  read : E.fn 50 = some Fn.f_name_Read
  rletter : E.fn 67 = some Fn.f_haulageref04_letter
  rpart : E.fn 66 = some Fn.f_haulageref04_Part
  rread : E.fn 51 = some Fn.f_haulageref04_Read
theorem name_part (h : E.fn 65 = some Fn.f_name_part) (k : Nat) (c : UInt8) (i : Int) (m : Mem) : denF E (k + 1) 65 [.p (.int .u8 c.toNat), .p (.int .i64 i)] m = some (.ret (.p (.bool (letter c || (partC c && decide (0 < i))))), m) := by
  refine denF_wp h rfl (args' := [.p (.int .u8 c.toNat), .p (.int .i64 i)]) rfl ?_
  unfold partC letter
  generalize (c.toNat : Int) = x
  by_cases h1 : (97 : Int) ≤ x
  · by_cases h2 : x ≤ 122
    · simp [Fn.f_name_part, h1, h2]
    · have h3 : (48 : Int) ≤ x := by omega
      have h4 : ¬ x ≤ 57 := by omega
      have h5 : (x == 95) = false := by simp; omega
      simp [Fn.f_name_part, h1, h2, h3, h4, h5]
  · by_cases h3 : (48 : Int) ≤ x
    · by_cases h4 : x ≤ 57
      · simp [Fn.f_name_part, h1, h3, h4]
      · cases h5 : (x == 95) <;> simp [Fn.f_name_part, h1, h3, h4, h5]
    · have h5 : (x == 95) = false := by simp; omega
      simp [Fn.f_name_part, h1, h3, h5]
theorem ref_letter (h : E.fn 67 = some Fn.f_haulageref04_letter) (k : Nat) (c : UInt8) (m : Mem) : denF E (k + 1) 67 [.p (.int .u8 c.toNat)] m = some (.ret (.p (.bool (letter c))), m) := by
  refine denF_wp h rfl (args' := [.p (.int .u8 c.toNat)]) rfl ?_
  unfold letter
  generalize (c.toNat : Int) = x
  by_cases h1 : (97 : Int) ≤ x <;> simp [Fn.f_haulageref04_letter, h1]
theorem ref_part (u : N04 E) (k : Nat) (c : UInt8) (m : Mem) : denF E (k + 2) 66 [.p (.int .u8 c.toNat)] m = some (.ret (.p (.bool (partC c))), m) := by
  refine denF_wp u.rpart rfl (args' := [.p (.int .u8 c.toNat)]) rfl ?_
  have hl := fun m => ref_letter u.rletter k c m
  unfold partC
  generalize letter c = l at *
  generalize (c.toNat : Int) = x at *
  cases l
  · by_cases h3 : (48 : Int) ≤ x
    · by_cases h4 : x ≤ 57
      · simp [Fn.f_haulageref04_Part, hl, h3, h4]
      · simp [Fn.f_haulageref04_Part, hl, h3, h4]
    · simp [Fn.f_haulageref04_Part, hl, h3]
  · simp [Fn.f_haulageref04_Part, hl]
/-- How far a name is read. -/
def NameFar (s : List UInt8) (i : Nat) : Prop := i ≤ s.length ∧ (i = 0 ∨ nameLen s = i + ((s.drop i).takeWhile partC).length)
theorem drop_at {s : List UInt8} {i : Nat} {c : UInt8} (h : s[i]? = some c) : s.drop i = c :: s.drop (i + 1) := by
  obtain ⟨hi, rfl⟩ := List.getElem?_eq_some_iff.1 h
  exact List.drop_eq_getElem_cons hi
theorem letter_part {c : UInt8} (h : letter c = true) : partC c = true := by unfold partC; rw [h]; rfl
theorem name_next {s : List UInt8} {i : Nat} {c : UInt8} (h : NameFar s i) (hc : s[i]? = some c) (hp : (letter c || (partC c && decide (0 < i))) = true) : NameFar s (i + 1) := by
  obtain ⟨h1, h2⟩ := h
  have hlt : i < s.length := (List.getElem?_eq_some_iff.1 hc).1
  refine ⟨hlt, .inr ?_⟩
  rcases h2 with rfl | h2
  · have hl : letter c = true := by simpa using hp
    cases s with
    | nil => simp at hlt
    | cons d r =>
      simp at hc
      subst hc
      simp [nameLen, hl]
  · rw [h2, drop_at hc, List.takeWhile_cons]
    have : partC c = true := by
      cases hl : letter c with
      | true => exact letter_part hl
      | false => rw [hl] at hp; simp at hp; exact hp.1
    rw [if_pos this, List.length_cons]
    omega
theorem name_stop {s : List UInt8} {i : Nat} {c : UInt8} (h : NameFar s i) (hc : s[i]? = some c) (hp : (letter c || (partC c && decide (0 < i))) = false) : nameLen s = i := by
  obtain ⟨h1, h2⟩ := h
  have hlt : i < s.length := (List.getElem?_eq_some_iff.1 hc).1
  simp only [Bool.or_eq_false_iff] at hp
  obtain ⟨hl, hp⟩ := hp
  by_cases hi : i = 0
  · subst hi
    cases s with
    | nil => simp at hlt
    | cons d r =>
      simp at hc
      subst hc
      simp [nameLen, hl]
  · rcases h2 with h2 | h2
    · exact absurd h2 hi
    · rw [h2, drop_at hc, List.takeWhile_cons]
      have : partC c = false := by
        cases hq : partC c with
        | false => rfl
        | true => rw [hq] at hp; simp at hp; omega
      rw [this]
      simp
theorem name_end {s : List UInt8} (h : NameFar s s.length) : nameLen s = s.length := by
  obtain ⟨h1, h2⟩ := h
  rcases h2 with h2 | h2
  · have : s = [] := List.length_eq_zero_iff.1 h2
    subst this
    rfl
  · rw [h2, List.drop_length]
    simp
theorem nameLen_le (s : List UInt8) : nameLen s ≤ s.length := by
  cases s with
  | nil => exact Nat.le_refl _
  | cons c r =>
    have e : nameLen (c :: r) = if letter c then 1 + (r.takeWhile partC).length else 0 := rfl
    rw [e]
    split
    · have := (List.takeWhile_prefix partC (l := r)).length_le
      simp only [List.length_cons]
      omega
    · omega
theorem name_Read (u : N04 E) (s : List UInt8) (hs : (s.length : Int) ≤ 1000000000000) (k : Nat) (hk : s.length + 4 ≤ k) (m : Mem) : denF E (k + 1) 50 [.p (.str s)] m = some (.ret (.p (.int .i64 (nameLen s))), m) := by
  refine denF_wp u.read rfl (args' := [.p (.str s)]) rfl ?_
  obtain ⟨j, rfl⟩ : ∃ j, k = j + 1 := ⟨k - 1, by omega⟩
  simp [Fn.f_name_Read]
  refine (loop_wp (α := Nat) (I := fun i st => NameFar s i ∧ Live Fn.f_name_Read_k0 (Fn.f_name_Read_s0 (.p (.str s)) (.p (.int .i64 s.length)) (.p (.int .i64 i))) [] st) (meas := fun i => s.length - i)
    (Q := fun e st => st.ds = [] ∧ ((e = .exit 0 ∧ st.ts.length = 19 ∧ nameLen s = s.length ∧ st.ts.getD 0 (.tup []) = .p (.str s)) ∨ (e = .ret ∧ st.ts.getD 2 (.tup []) = .p (.int .i64 (nameLen s))))) ?_ (j + 1) 0 _ ⟨⟨Nat.zero_le _, .inl rfl⟩, rfl, rfl, rfl, rfl⟩ (by omega)).mono ?_
  · rintro i st ⟨hf, hlive⟩
    rw [loopF_live hlive]
    by_cases hi : i < s.length
    · have hi' : (i : Int) < s.length := by omega
      obtain ⟨c, hc⟩ : ∃ c, s[i]? = some c := ⟨_, List.getElem?_eq_getElem hi⟩
      have hp := fun m => name_part u.part j c i m
      have hw : IntKind.i64.wrap ((i : Int) + 1) = i + 1 := wrap_i64 (by omega) (by omega)
      cases hq : (letter c || (partC c && decide (0 < i))) with
      | true =>
        have hn := name_next hf hc hq
        have hq' : (letter c || (partC c && decide ((0 : Int) < i))) = true := by rw [← hq]; simp
        rw [hq'] at hp
        simp [Fn.f_name_Read_b0, Fn.f_name_Read_s0, hi, hi', hc, hp, hw]
        exact ⟨i + 1, by omega, hn, rfl, rfl, rfl, rfl⟩
      | false =>
        have hn := name_stop hf hc hq
        have hq' : (letter c || (partC c && decide ((0 : Int) < i))) = false := by rw [← hq]; simp
        rw [hq'] at hp
        simp [Fn.f_name_Read_b0, Fn.f_name_Read_s0, hi, hi', hc, hp, hn]
    · have hi' : ¬ (i : Int) < s.length := by omega
      have hn : i = s.length := by have := hf.1; omega
      subst hn
      have := name_end hf
      simp [Fn.f_name_Read_b0, Fn.f_name_Read_s0, this]
  · rintro e st ⟨h0, h⟩
    obtain ⟨ts, m', ds⟩ := st
    simp only at h0 h
    rcases h with ⟨rfl, h1, h2, h3⟩ | ⟨rfl, h3⟩
    · match ts, h1, h3 with
      | t0 :: t1 :: t2 :: t3 :: t4 :: t5 :: t6 :: t7 :: t8 :: t9 :: t10 :: t11 :: t12 :: t13 :: t14 :: t15 :: t16 :: t17 :: t18 :: [], h1, h3 =>
        simp at h3
        simp [h0, h2, h3]
    · simp [h0, h3]
theorem ref_NRead (u : N04 E) (s : List UInt8) (hs : (s.length : Int) ≤ 1000000000000) (k : Nat) (hk : s.length + 4 ≤ k) (m : Mem) : denF E (k + 1) 51 [.p (.str s)] m = some (.ret (.p (.int .i64 (nameLen s))), m) := by
  refine denF_wp u.rread rfl (args' := [.p (.str s)]) rfl ?_
  obtain ⟨j, rfl⟩ : ∃ j, k = j + 2 := ⟨k - 2, by omega⟩
  simp [Fn.f_haulageref04_Read]
  refine (loop_wp (α := Nat) (I := fun i st => NameFar s i ∧ Live Fn.f_haulageref04_Read_k0 (Fn.f_haulageref04_Read_s0 (.p (.str s)) (.p (.int .i64 i))) [] st) (meas := fun i => s.length - i)
    (Q := fun e st => st.ds = [] ∧ e = .exit 0 ∧ st.ts.length = 26 ∧ st.ts.getD 3 (.tup []) = .p (.int .i64 (nameLen s))) ?_ (j + 2) 0 _ ⟨⟨Nat.zero_le _, .inl rfl⟩, rfl, rfl, rfl, rfl⟩ (by omega)).mono ?_
  · rintro i st ⟨hf, hlive⟩
    rw [loopF_live hlive]
    by_cases hi : i < s.length
    · have hi' : (i : Int) < s.length := by omega
      obtain ⟨c, hc⟩ : ∃ c, s[i]? = some c := ⟨_, List.getElem?_eq_getElem hi⟩
      obtain ⟨d, hd⟩ : ∃ d, s[0]? = some d := ⟨_, List.getElem?_eq_getElem (by omega)⟩
      have hp := fun m => ref_part u j c m
      have hl := fun m => ref_letter u.rletter (j + 1) d m
      have hw : IntKind.i64.wrap ((i : Int) + 1) = i + 1 := wrap_i64 (by omega) (by omega)
      by_cases h0 : i = 0
      · subst h0
        rw [hc] at hd
        obtain rfl := Option.some.inj hd
        cases hq : letter c with
        | true =>
          have hn := name_next hf hc (by rw [hq]; rfl)
          rw [letter_part hq] at hp
          rw [hq] at hl
          have hw1 : IntKind.i64.wrap 1 = 1 := rfl
          simp [Fn.f_haulageref04_Read_b0, Fn.f_haulageref04_Read_s0, hi, hi', hc, hp, hl, hw1]
          exact ⟨1, by omega, hn, rfl, rfl, rfl, rfl⟩
        | false =>
          have hn := name_stop hf hc (by rw [hq]; simp)
          rw [hq] at hl
          cases hr : partC c <;> rw [hr] at hp <;> simp [Fn.f_haulageref04_Read_b0, Fn.f_haulageref04_Read_s0, hi, hi', hc, hp, hl, hn]
      · have h0' : (0 : Int) < i := by omega
        have h0'' : 0 < i := by omega
        cases hr : partC c with
        | true =>
          have hn := name_next hf hc (by rw [hr]; simp [h0''])
          rw [hr] at hp
          simp [Fn.f_haulageref04_Read_b0, Fn.f_haulageref04_Read_s0, hi, hi', hc, hp, hw, h0', h0'']
          exact ⟨i + 1, by omega, hn, rfl, rfl, rfl, rfl⟩
        | false =>
          have hlc : letter c = false := by
            cases hq : letter c with
            | false => rfl
            | true => rw [letter_part hq] at hr; cases hr
          have hn := name_stop hf hc (by rw [hr, hlc]; rfl)
          rw [hr] at hp
          simp [Fn.f_haulageref04_Read_b0, Fn.f_haulageref04_Read_s0, hi, hi', hc, hp, hn]
    · have hi' : ¬ (i : Int) < s.length := by omega
      have hn : i = s.length := by have := hf.1; omega
      subst hn
      have := name_end hf
      simp [Fn.f_haulageref04_Read_b0, Fn.f_haulageref04_Read_s0, this]
  · rintro e st ⟨h0, rfl, h1, h3⟩
    obtain ⟨ts, m', ds⟩ := st
    simp only at h0 h1 h3
    match ts, h1, h3 with
    | t0 :: t1 :: t2 :: t3 :: t4 :: t5 :: t6 :: t7 :: t8 :: t9 :: t10 :: t11 :: t12 :: t13 :: t14 :: t15 :: t16 :: t17 :: t18 :: t19 :: t20 :: t21 :: t22 :: t23 :: t24 :: t25 :: [], h1, h3 =>
      simp at h3
      simp [h0, h3]
end Hx

namespace Hx
open Go
set_option linter.unusedSimpArgs false
set_option linter.unusedVariables false
set_option maxHeartbeats 8000000
variable {E : Env}
attribute [-simp] List.getD_eq_getElem?_getD getElem?_pos
structure M05 (E : Env) : Prop where
  has : E.fn 48 = some Fn.f_strings_HasPrefix
  has' : E.fn 63 = some Fn.f_internal_stringslite_HasPrefix
  digit : E.fn 45 = some Fn.f_value_digit
  number : E.fn 37 = some Fn.f_value_Number
  rnumber : E.fn 38 = some Fn.f_haulageref05_Number
  rdigits : E.fn 40 = some Fn.f_haulageref05_Digits
theorem has_prefix1 (u : M05 E) (k : Nat) (s : List UInt8) (c : UInt8) (m : Mem) : denF E (k + 2) 48 [.p (.str s), .p (.str [c])] m = some (.ret (.p (.bool (s.head? == some c))), m) := by
  have h : ∀ m, denF E (k + 1) 63 [.p (.str s), .p (.str [c])] m = some (.ret (.p (.bool (s.head? == some c))), m) := by
    intro m
    refine denF_wp u.has' rfl (args' := [.p (.str s), .p (.str [c])]) rfl ?_
    cases s with
    | nil => simp [Fn.f_internal_stringslite_HasPrefix]
    | cons d r =>
      have h1 : (1 : Int) ≤ (r.length : Int) + 1 := by omega
      have h2 : 1 ≤ r.length + 1 := by omega
      have h3 : ([d] == [c]) = (d == c) := by rw [Bool.eq_iff_iff]; simp
      simp [Fn.f_internal_stringslite_HasPrefix, h1, h2, h3, bounds, asNat, asInt]
  refine denF_wp u.has rfl (args' := [.p (.str s), .p (.str [c])]) rfl ?_
  simp [Fn.f_strings_HasPrefix, h]
theorem value_digit (h : E.fn 45 = some Fn.f_value_digit) (k : Nat) (c : UInt8) (m : Mem) : denF E (k + 1) 45 [.p (.int .u8 c.toNat)] m = some (.ret (.p (.bool (isDig c))), m) := by
  refine denF_wp h rfl (args' := [.p (.int .u8 c.toNat)]) rfl ?_
  unfold isDig
  have e1 : decide (48 ≤ c.toNat) = decide ((48 : Int) ≤ c.toNat) := by simp; omega
  have e2 : decide (c.toNat ≤ 57) = decide ((c.toNat : Int) ≤ 57) := by simp; omega
  rw [e1, e2]
  generalize (c.toNat : Int) = x
  by_cases h1 : (48 : Int) ≤ x <;> simp [Fn.f_value_digit, h1]
/-- How far a run of digits is read. -/
def RunFar (s : List UInt8) (f i : Nat) : Prop := f ≤ i ∧ i ≤ s.length ∧ (s.drop f).takeWhile isDig = (s.drop f).take (i - f) ++ (s.drop i).takeWhile isDig
theorem run_0 {s : List UInt8} {f : Nat} (h : f ≤ s.length) : RunFar s f f := ⟨Nat.le_refl _, h, by simp⟩
theorem run_next {s : List UInt8} {f i : Nat} {c : UInt8} (h : RunFar s f i) (hc : s[i]? = some c) (hd : isDig c = true) : RunFar s f (i + 1) := by
  obtain ⟨h1, h2, h3⟩ := h
  have hlt : i < s.length := (List.getElem?_eq_some_iff.1 hc).1
  refine ⟨by omega, hlt, ?_⟩
  rw [h3, drop_at hc, List.takeWhile_cons, if_pos hd]
  have e : i + 1 - f = (i - f) + 1 := by omega
  rw [e, List.take_add_one, List.getElem?_drop]
  have : f + (i - f) = i := by omega
  rw [this, hc, List.append_assoc]
  rfl
theorem run_stop {s : List UInt8} {f i : Nat} (h : RunFar s f i) (hd : ∀ c, s[i]? = some c → isDig c = false) : (s.drop f).takeWhile isDig = (s.take i).drop f ∧ i = f + ((s.drop f).takeWhile isDig).length := by
  obtain ⟨h1, h2, h3⟩ := h
  have : (s.drop i).takeWhile isDig = [] := by
    cases hc : s[i]? with
    | none =>
      rw [List.getElem?_eq_none_iff] at hc
      rw [List.drop_eq_nil_of_le hc]
      rfl
    | some c =>
      rw [drop_at hc, List.takeWhile_cons, hd c hc]
      rfl
  rw [this, List.append_nil] at h3
  rw [h3]
  refine ⟨by rw [List.drop_take], ?_⟩
  rw [List.length_take, List.length_drop]
  omega
theorem u8_beq {c d : UInt8} : (c == d) = ((c.toNat : Int) == d.toNat) := by
  rw [Bool.eq_iff_iff]
  simp only [beq_iff_eq]
  constructor
  · intro h; rw [h]
  · intro h; exact UInt8.toNat_inj.1 (by omega)
def numT (n size e : Int) : AV := .tup [.p (.int .i64 n), .p (.int .i64 size), .p (.int .i64 e)]
/-- The bytes ahead of the digits. -/
def ahead (neg : Bool) : Nat := if neg then 1 else 0
def mostOf (neg : Bool) : Nat := if neg then 9223372036854775808 else 9223372036854775807
def bad0 (neg : Bool) (D : List UInt8) : Bool := D.isEmpty || (D.head? == some 48 && (neg || decide (1 < D.length)))
def numO (neg : Bool) (D : List UInt8) : AV :=
  if bad0 neg D then numT 0 0 5 else if numVal 0 D ≤ mostOf neg then numT (if neg then -(numVal 0 D : Int) else numVal 0 D) ((ahead neg + D.length : Nat) : Int) 0 else numT 0 0 10
def runD (neg : Bool) (s : List UInt8) : List UInt8 := (s.drop (ahead neg)).takeWhile isDig
def numS (s : List UInt8) : AV := numO (s.head? == some 45) (runD (s.head? == some 45) s)
theorem run_digs (neg : Bool) (s : List UInt8) : ∀ c ∈ runD neg s, isDig c = true := by
  intro c hc
  unfold runD at hc
  exact List.all_eq_true.1 (List.all_takeWhile) c hc
theorem number_run (h : E.fn 45 = some Fn.f_value_digit) (s : List UInt8) (hs : (s.length : Int) ≤ 1000000000000) (neg : Bool) (hf : ahead neg ≤ s.length) (K : Nat) (hK : s.length + 2 ≤ K) (st : St)
    (hst : Live Fn.f_value_Number_k0 (Fn.f_value_Number_s0 (.p (.str s)) (.p (.bool neg)) (.p (.int .i64 (ahead neg))) (.p (.int .i64 (ahead neg)))) [] st) :
    Wp (iter (loopF E (denF E K) K Fn.f_value_Number_k0 Fn.f_value_Number_b0) K st)
      (fun e st => e = .exit 0 ∧ st.ds = [] ∧ st.m = [] ∧ st.ts.length = 80 ∧ st.ts.getD 0 (.tup []) = .p (.str s) ∧ st.ts.getD 5 (.tup []) = .p (.bool neg) ∧ st.ts.getD 6 (.tup []) = .p (.int .i64 (ahead neg)) ∧
        st.ts.getD 7 (.tup []) = .p (.int .i64 ((ahead neg + (runD neg s).length : Nat) : Int)) ∧ ahead neg + (runD neg s).length ≤ s.length ∧ (s.take (ahead neg + (runD neg s).length)).drop (ahead neg) = runD neg s) := by
  obtain ⟨j, rfl⟩ : ∃ j, K = j + 1 := ⟨K - 1, by omega⟩
  generalize hfe : ahead neg = f at *
  refine loop_wp (α := Nat) (I := fun i st => RunFar s f i ∧ Live Fn.f_value_Number_k0 (Fn.f_value_Number_s0 (.p (.str s)) (.p (.bool neg)) (.p (.int .i64 f)) (.p (.int .i64 i))) [] st) (meas := fun i => s.length - i)
    ?_ (j + 1) f st ⟨run_0 hf, hst⟩ (by omega)
  rintro i st ⟨hr, hlive⟩
  rw [loopF_live hlive]
  have stop : (∀ c, s[i]? = some c → isDig c = false) → i = f + (runD neg s).length ∧ (s.take i).drop f = runD neg s := by
    intro h
    obtain ⟨h1, h2⟩ := run_stop hr h
    unfold runD
    rw [hfe]
    exact ⟨h2, h1.symm⟩
  by_cases hi : i < s.length
  · have hi' : (i : Int) < s.length := by omega
    obtain ⟨c, hc⟩ : ∃ c, s[i]? = some c := ⟨_, List.getElem?_eq_getElem hi⟩
    have hd := fun m => value_digit h j c m
    have hw : IntKind.i64.wrap ((i : Int) + 1) = i + 1 := wrap_i64 (by omega) (by omega)
    cases hq : isDig c with
    | true =>
      rw [hq] at hd
      have hn := run_next hr hc hq
      simp [Fn.f_value_Number_b0, Fn.f_value_Number_s0, hi, hi', hc, hd, hw]
      exact ⟨i + 1, by omega, hn, rfl, rfl, rfl, rfl⟩
    | false =>
      rw [hq] at hd
      obtain ⟨h1, h2⟩ := stop (fun d hd' => by rw [hc] at hd'; obtain rfl := Option.some.inj hd'; exact hq)
      rw [← h1]
      simp [Fn.f_value_Number_b0, Fn.f_value_Number_s0, hi, hi', hc, hd]
      exact ⟨by omega, h2⟩
  · have hi' : ¬ (i : Int) < s.length := by omega
    obtain ⟨h1, h2⟩ := stop (fun d hd' => by rw [List.getElem?_eq_none (by omega)] at hd'; cases hd')
    rw [← h1]
    have := hr.2.1
    simp [Fn.f_value_Number_b0, Fn.f_value_Number_s0, hi, hi']
    exact ⟨by omega, h2⟩
theorem number_val (K : Nat) (call : Caller) (neg : Bool) (D : List UInt8) (hD : ∀ c ∈ D, isDig c = true) (hl : (D.length : Int) ≤ 1000000000000) (hK : D.length < K) (end' : AV) (st : St)
    (hst : Live Fn.f_value_Number_k1 (Fn.f_value_Number_s1 (.p (.bool neg)) end' (.p (.int .u64 (mostOf neg))) (.p (.int .u64 0)) (.tv 1 (byteRows D) 0) (.p (.int .i64 D.length)) (.p (.int .i64 0))) [.tok 1 D.length] st) :
    Wp (iter (loopF E call K Fn.f_value_Number_k1 Fn.f_value_Number_b1) K st)
      (fun e st => st.ds = [] ∧ st.ts.length = 80 ∧ ((e = .exit 2 ∧ numVal 0 D ≤ mostOf neg ∧ st.ts.getD 5 (.tup []) = .p (.bool neg) ∧ st.ts.getD 7 (.tup []) = end' ∧ st.ts.getD 9 (.tup []) = .p (.int .u64 (numVal 0 D))) ∨
        (e = .ret ∧ mostOf neg < numVal 0 D ∧ st.ts.getD 2 (.tup []) = .p (.int .i64 0) ∧ st.ts.getD 3 (.tup []) = .p (.int .i64 0) ∧ st.ts.getD 4 (.tup []) = .p (.int .i64 10)))) := by
  refine loop_wp (α := Nat) (I := fun i st => ∃ u : Nat, i ≤ D.length ∧ numVal 0 D = numVal u (D.drop i) ∧ u ≤ mostOf neg ∧
      Live Fn.f_value_Number_k1 (Fn.f_value_Number_s1 (.p (.bool neg)) end' (.p (.int .u64 (mostOf neg))) (.p (.int .u64 u)) (.tv 1 (byteRows D) 0) (.p (.int .i64 D.length)) (.p (.int .i64 i))) [.tok 1 D.length] st) (meas := fun i => D.length - i)
    ?_ K 0 st ⟨0, Nat.zero_le _, rfl, Nat.zero_le _, hst⟩ (by omega)
  rintro i st ⟨u, hi0, hv, hu, hlive⟩
  rw [loopF_live hlive]
  have hM : mostOf neg ≤ 9223372036854775808 ∧ 9223372036854775807 ≤ mostOf neg := by unfold mostOf; split <;> omega
  generalize mostOf neg = M at *
  by_cases hi : i < D.length
  · have hi' : (i : Int) < D.length := by omega
    obtain ⟨c, hc⟩ : ∃ c, D[i]? = some c := ⟨_, List.getElem?_eq_getElem hi⟩
    have hrow : (byteRows D)[i]? = some [.int .u8 c.toNat] := by unfold byteRows; rw [List.getElem?_map, hc]; rfl
    have hw : IntKind.i64.wrap ((i : Int) + 1) = i + 1 := wrap_i64 (by omega) (by omega)
    have hcd := hD c (List.mem_of_getElem? hc)
    unfold isDig at hcd
    simp only [Bool.and_eq_true, decide_eq_true_eq] at hcd
    have hdv : (dval c : Int) = (c.toNat : Int) - 48 := by unfold dval; omega
    have hd9 : dval c ≤ 9 := by unfold dval; omega
    have w1 : IntKind.u8.wrap ((c.toNat : Int) - 48) = dval c := by rw [wrap_u8 (by omega) (by omega)]; omega
    have hu64 : ∀ x : Int, 0 ≤ x → x < 18446744073709551616 → IntKind.u64.wrap x = x := by
      intro x h1 h2
      simp only [IntKind.wrap, IntKind.signed, IntKind.bits]
      simp
      omega
    rw [drop_at hc, numVal_cons] at hv
    generalize dval c = d at *
    have w2 : IntKind.u64.wrap (d : Int) = d := hu64 _ (by omega) (by omega)
    have w3 : IntKind.u64.wrap ((M : Int) - d) = M - d := hu64 _ (by omega) (by omega)
    have w4 : IntKind.u64.wrap (((M : Int) - d).tdiv 10) = ((M - d) / 10 : Nat) := by
      rw [Int.tdiv_eq_ediv_of_nonneg (by omega), hu64 _ (by omega) (by omega)]
      omega
    obtain ⟨q, hq⟩ : ∃ q : Nat, q = (M - d) / 10 := ⟨_, rfl⟩
    rw [← hq] at w4
    by_cases hg : q < u
    · have hbig : M < numVal 0 D := by
        have := numVal_ge (10 * u + d) (D.drop (i + 1))
        omega
      have hg' : (q : Int) < u := by omega
      simp [Fn.f_value_Number_b1, Fn.f_value_Number_s1, hi, hi', hrow, hw, w1, w2, w3, w4, hg, hg', hbig]
    · have hg' : ¬ (q : Int) < u := by omega
      have w5 : IntKind.u64.wrap ((u : Int) * 10) = u * 10 := hu64 _ (by omega) (by omega)
      have w6 : IntKind.u64.wrap ((u : Int) * 10 + d) = ((10 * u + d : Nat) : Int) := by rw [hu64 _ (by omega) (by omega)]; omega
      simp [Fn.f_value_Number_b1, Fn.f_value_Number_s1, hi, hi', hrow, hw, w1, w2, w3, w4, w5, hg, hg']
      refine ⟨i + 1, by omega, by omega, 10 * u + d, hv, by omega, rfl, ?_, rfl, rfl⟩
      simp [keep, Fn.f_value_Number_k1, Fn.f_value_Number_s1, w6]
  · have hi2 : i = D.length := by omega
    subst hi2
    rw [List.drop_length, numVal_nil] at hv
    subst hv
    simp [Fn.f_value_Number_b1, Fn.f_value_Number_s1, hu]
end Hx
