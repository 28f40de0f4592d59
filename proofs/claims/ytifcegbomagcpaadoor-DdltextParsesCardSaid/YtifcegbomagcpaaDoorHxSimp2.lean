/-
  HxSimp2: the simp rules for a panic and for a deferred call.
-/
import Derived.Test.YtifcegbomagcpaaDoorHxFn06
import Derived.Test.YtifcegbomagcpaaDoorHxSimp
import Derived.Test.YtifcegbomagcpaaDoorHxFn10
namespace Hx
open Go
set_option linter.unusedSimpArgs false
set_option linter.unusedVariables false
set_option maxHeartbeats 4000000
variable {E : Env}
attribute [-simp] List.getD_eq_getElem?_getD getElem?_pos
def letter (c : UInt8) : Bool := decide ((97 : Int) ≤ c.toNat) && decide ((c.toNat : Int) ≤ 122)
def partC (c : UInt8) : Bool := letter c || (decide ((48 : Int) ≤ c.toNat) && decide ((c.toNat : Int) ≤ 57)) || ((c.toNat : Int) == 95)
def nameLen : List UInt8 → Nat
  | [] => 0
  | c :: r => if letter c then 1 + (r.takeWhile partC).length else 0
structure N04 (E : Env) : Prop where
  part : E.fn 65 = some Fn.f_name_part
  read : E.fn 50 = some Fn.f_name_Read
  rletter : E.fn 67 = some Fn.f_haulageref04_letter
  rpart : E.fn 66 = some Fn.f_haulageref04_Part
  rread : E.fn 51 = some Fn.f_haulageref04_Read
theorem name_part (h : E.fn 65 = some Fn.f_name_part) (k : Nat) (c : UInt8) (i : Int) (m : Mem) : denF E (k + 1) 65 [.p (.int .u8 c.toNat), .p (.int .i64 i)] m = some (.ret (.p (.bool (letter c || (partC c && decide (0 < i))))), m) := by
  refine denF_wp h rfl (args' := [.p (.int .u8 c.toNat), .p (.int .i64 i)]) rfl ?_
  unfold partC letter
  generalize (c.toNat : Int) = x
  by_cases h1 : (97 : Int) ≤ x
  · by_cases h2 : x ≤ 122
    · simp [Fn.f_name_part, h1, h2]
    · have h3 : (48 : Int) ≤ x := by omega
      have h4 : ¬ x ≤ 57 := by omega
      have h5 : (x == 95) = false := by simp; omega
      simp [Fn.f_name_part, h1, h2, h3, h4, h5]
  · by_cases h3 : (48 : Int) ≤ x
    · by_cases h4 : x ≤ 57
      · simp [Fn.f_name_part, h1, h3, h4]
      · cases h5 : (x == 95) <;> simp [Fn.f_name_part, h1, h3, h4, h5]
    · have h5 : (x == 95) = false := by simp; omega
      simp [Fn.f_name_part, h1, h3, h5]
theorem ref_letter (h : E.fn 67 = some Fn.f_haulageref04_letter) (k : Nat) (c : UInt8) (m : Mem) : denF E (k + 1) 67 [.p (.int .u8 c.toNat)] m = some (.ret (.p (.bool (letter c))), m) := by
  refine denF_wp h rfl (args' := [.p (.int .u8 c.toNat)]) rfl ?_
  unfold letter
  generalize (c.toNat : Int) = x
  by_cases h1 : (97 : Int) ≤ x <;> simp [Fn.f_haulageref04_letter, h1]
theorem ref_part (u : N04 E) (k : Nat) (c : UInt8) (m : Mem) : denF E (k + 2) 66 [.p (.int .u8 c.toNat)] m = some (.ret (.p (.bool (partC c))), m) := by
  refine denF_wp u.rpart rfl (args' := [.p (.int .u8 c.toNat)]) rfl ?_
  have hl := fun m => ref_letter u.rletter k c m
  unfold partC
  generalize letter c = l at *
  generalize (c.toNat : Int) = x at *
  cases l
  · by_cases h3 : (48 : Int) ≤ x
    · by_cases h4 : x ≤ 57
      · simp [Fn.f_haulageref04_Part, hl, h3, h4]
      · simp [Fn.f_haulageref04_Part, hl, h3, h4]
    · simp [Fn.f_haulageref04_Part, hl, h3]
  · simp [Fn.f_haulageref04_Part, hl]
def NameFar (s : List UInt8) (i : Nat) : Prop := i ≤ s.length ∧ (i = 0 ∨ nameLen s = i + ((s.drop i).takeWhile partC).length)
theorem drop_at {s : List UInt8} {i : Nat} {c : UInt8} (h : s[i]? = some c) : s.drop i = c :: s.drop (i + 1) := by
  obtain ⟨hi, rfl⟩ := List.getElem?_eq_some_iff.1 h
  exact List.drop_eq_getElem_cons hi
theorem letter_part {c : UInt8} (h : letter c = true) : partC c = true := by unfold partC; rw [h]; rfl
theorem name_next {s : List UInt8} {i : Nat} {c : UInt8} (h : NameFar s i) (hc : s[i]? = some c) (hp : (letter c || (partC c && decide (0 < i))) = true) : NameFar s (i + 1) := by
  obtain ⟨h1, h2⟩ := h
  have hlt : i < s.length := (List.getElem?_eq_some_iff.1 hc).1
  refine ⟨hlt, .inr ?_⟩
  rcases h2 with rfl | h2
  · have hl : letter c = true := by simpa using hp
    cases s with
    | nil => simp at hlt
    | cons d r =>
      simp at hc
      subst hc
      simp [nameLen, hl]
  · rw [h2, drop_at hc, List.takeWhile_cons]
    have : partC c = true := by
      cases hl : letter c with
      | true => exact letter_part hl
      | false => rw [hl] at hp; simp at hp; exact hp.1
    rw [if_pos this, List.length_cons]
    omega
theorem name_stop {s : List UInt8} {i : Nat} {c : UInt8} (h : NameFar s i) (hc : s[i]? = some c) (hp : (letter c || (partC c && decide (0 < i))) = false) : nameLen s = i := by
  obtain ⟨h1, h2⟩ := h
  have hlt : i < s.length := (List.getElem?_eq_some_iff.1 hc).1
  simp only [Bool.or_eq_false_iff] at hp
  obtain ⟨hl, hp⟩ := hp
  by_cases hi : i = 0
  · subst hi
    cases s with
    | nil => simp at hlt
    | cons d r =>
      simp at hc
      subst hc
      simp [nameLen, hl]
  · rcases h2 with h2 | h2
    · exact absurd h2 hi
    · rw [h2, drop_at hc, List.takeWhile_cons]
      have : partC c = false := by
        cases hq : partC c with
        | false => rfl
        | true => rw [hq] at hp; simp at hp; omega
      rw [this]
      simp
theorem name_end {s : List UInt8} (h : NameFar s s.length) : nameLen s = s.length := by
  obtain ⟨h1, h2⟩ := h
  rcases h2 with h2 | h2
  · have : s = [] := List.length_eq_zero_iff.1 h2
    subst this
    rfl
  · rw [h2, List.drop_length]
    simp
theorem nameLen_le (s : List UInt8) : nameLen s ≤ s.length := by
  cases s with
  | nil => exact Nat.le_refl _
  | cons c r =>
    have e : nameLen (c :: r) = if letter c then 1 + (r.takeWhile partC).length else 0 := rfl
    rw [e]
    split
    · have := (List.takeWhile_prefix partC (l := r)).length_le
      simp only [List.length_cons]
      omega
    · omega
theorem name_Read (u : N04 E) (s : List UInt8) (hs : (s.length : Int) ≤ 1000000000000) (k : Nat) (hk : s.length + 4 ≤ k) (m : Mem) : denF E (k + 1) 50 [.p (.str s)] m = some (.ret (.p (.int .i64 (nameLen s))), m) := by
  refine denF_wp u.read rfl (args' := [.p (.str s)]) rfl ?_
  obtain ⟨j, rfl⟩ : ∃ j, k = j + 1 := ⟨k - 1, by omega⟩
  simp [Fn.f_name_Read]
  refine (loop_wp (α := Nat) (I := fun i st => NameFar s i ∧ Live Fn.f_name_Read_k0 (Fn.f_name_Read_s0 (.p (.str s)) (.p (.int .i64 s.length)) (.p (.int .i64 i))) [] st) (meas := fun i => s.length - i)
    (Q := fun e st => st.ds = [] ∧ ((e = .exit 0 ∧ st.ts.length = 19 ∧ nameLen s = s.length ∧ st.ts.getD 0 (.tup []) = .p (.str s)) ∨ (e = .ret ∧ st.ts.getD 2 (.tup []) = .p (.int .i64 (nameLen s))))) ?_ (j + 1) 0 _ ⟨⟨Nat.zero_le _, .inl rfl⟩, rfl, rfl, rfl, rfl⟩ (by omega)).mono ?_
  · rintro i st ⟨hf, hlive⟩
    rw [loopF_live hlive]
    by_cases hi : i < s.length
    · have hi' : (i : Int) < s.length := by omega
      obtain ⟨c, hc⟩ : ∃ c, s[i]? = some c := ⟨_, List.getElem?_eq_getElem hi⟩
      have hp := fun m => name_part u.part j c i m
      have hw : IntKind.i64.wrap ((i : Int) + 1) = i + 1 := wrap_i64 (by omega) (by omega)
      cases hq : (letter c || (partC c && decide (0 < i))) with
      | true =>
        have hn := name_next hf hc hq
        have hq' : (letter c || (partC c && decide ((0 : Int) < i))) = true := by rw [← hq]; simp
        rw [hq'] at hp
        simp [Fn.f_name_Read_b0, Fn.f_name_Read_s0, hi, hi', hc, hp, hw]
        exact ⟨i + 1, by omega, hn, rfl, rfl, rfl, rfl⟩
      | false =>
        have hn := name_stop hf hc hq
        have hq' : (letter c || (partC c && decide ((0 : Int) < i))) = false := by rw [← hq]; simp
        rw [hq'] at hp
        simp [Fn.f_name_Read_b0, Fn.f_name_Read_s0, hi, hi', hc, hp, hn]
    · have hi' : ¬ (i : Int) < s.length := by omega
      have hn : i = s.length := by have := hf.1; omega
      subst hn
      have := name_end hf
      simp [Fn.f_name_Read_b0, Fn.f_name_Read_s0, this]
  · rintro e st ⟨h0, h⟩
    obtain ⟨ts, m', ds⟩ := st
    simp only at h0 h
    rcases h with ⟨rfl, h1, h2, h3⟩ | ⟨rfl, h3⟩
    · match ts, h1, h3 with
      | t0 :: t1 :: t2 :: t3 :: t4 :: t5 :: t6 :: t7 :: t8 :: t9 :: t10 :: t11 :: t12 :: t13 :: t14 :: t15 :: t16 :: t17 :: t18 :: [], h1, h3 =>
        simp at h3
        simp [h0, h2, h3]
    · simp [h0, h3]
theorem ref_NRead (u : N04 E) (s : List UInt8) (hs : (s.length : Int) ≤ 1000000000000) (k : Nat) (hk : s.length + 4 ≤ k) (m : Mem) : denF E (k + 1) 51 [.p (.str s)] m = some (.ret (.p (.int .i64 (nameLen s))), m) := by
  refine denF_wp u.rread rfl (args' := [.p (.str s)]) rfl ?_
  obtain ⟨j, rfl⟩ : ∃ j, k = j + 2 := ⟨k - 2, by omega⟩
  simp [Fn.f_haulageref04_Read]
  refine (loop_wp (α := Nat) (I := fun i st => NameFar s i ∧ Live Fn.f_haulageref04_Read_k0 (Fn.f_haulageref04_Read_s0 (.p (.str s)) (.p (.int .i64 i))) [] st) (meas := fun i => s.length - i)
    (Q := fun e st => st.ds = [] ∧ e = .exit 0 ∧ st.ts.length = 26 ∧ st.ts.getD 3 (.tup []) = .p (.int .i64 (nameLen s))) ?_ (j + 2) 0 _ ⟨⟨Nat.zero_le _, .inl rfl⟩, rfl, rfl, rfl, rfl⟩ (by omega)).mono ?_
  · rintro i st ⟨hf, hlive⟩
    rw [loopF_live hlive]
    by_cases hi : i < s.length
    · have hi' : (i : Int) < s.length := by omega
      obtain ⟨c, hc⟩ : ∃ c, s[i]? = some c := ⟨_, List.getElem?_eq_getElem hi⟩
      obtain ⟨d, hd⟩ : ∃ d, s[0]? = some d := ⟨_, List.getElem?_eq_getElem (by omega)⟩
      have hp := fun m => ref_part u j c m
      have hl := fun m => ref_letter u.rletter (j + 1) d m
      have hw : IntKind.i64.wrap ((i : Int) + 1) = i + 1 := wrap_i64 (by omega) (by omega)
      by_cases h0 : i = 0
      · subst h0
        rw [hc] at hd
        obtain rfl := Option.some.inj hd
        cases hq : letter c with
        | true =>
          have hn := name_next hf hc (by rw [hq]; rfl)
          rw [letter_part hq] at hp
          rw [hq] at hl
          have hw1 : IntKind.i64.wrap 1 = 1 := rfl
          simp [Fn.f_haulageref04_Read_b0, Fn.f_haulageref04_Read_s0, hi, hi', hc, hp, hl, hw1]
          exact ⟨1, by omega, hn, rfl, rfl, rfl, rfl⟩
        | false =>
          have hn := name_stop hf hc (by rw [hq]; simp)
          rw [hq] at hl
          cases hr : partC c <;> rw [hr] at hp <;> simp [Fn.f_haulageref04_Read_b0, Fn.f_haulageref04_Read_s0, hi, hi', hc, hp, hl, hn]
      · have h0' : (0 : Int) < i := by omega
        have h0'' : 0 < i := by omega
        cases hr : partC c with
        | true =>
          have hn := name_next hf hc (by rw [hr]; simp [h0''])
          rw [hr] at hp
          simp [Fn.f_haulageref04_Read_b0, Fn.f_haulageref04_Read_s0, hi, hi', hc, hp, hw, h0', h0'']
          exact ⟨i + 1, by omega, hn, rfl, rfl, rfl, rfl⟩
        | false =>
          have hlc : letter c = false := by
            cases hq : letter c with
            | false => rfl
            | true => rw [letter_part hq] at hr; cases hr
          have hn := name_stop hf hc (by rw [hr, hlc]; rfl)
          rw [hr] at hp
          simp [Fn.f_haulageref04_Read_b0, Fn.f_haulageref04_Read_s0, hi, hi', hc, hp, hn]
    · have hi' : ¬ (i : Int) < s.length := by omega
      have hn : i = s.length := by have := hf.1; omega
      subst hn
      have := name_end hf
      simp [Fn.f_haulageref04_Read_b0, Fn.f_haulageref04_Read_s0, this]
  · rintro e st ⟨h0, rfl, h1, h3⟩
    obtain ⟨ts, m', ds⟩ := st
    simp only at h0 h1 h3
    match ts, h1, h3 with
    | t0 :: t1 :: t2 :: t3 :: t4 :: t5 :: t6 :: t7 :: t8 :: t9 :: t10 :: t11 :: t12 :: t13 :: t14 :: t15 :: t16 :: t17 :: t18 :: t19 :: t20 :: t21 :: t22 :: t23 :: t24 :: t25 :: [], h1, h3 =>
      simp at h3
      simp [h0, h3]
end Hx

namespace Hx
open Go
inductive PR (α : Type) where
  | bad (e : Int) (r : List UInt8)
  | ok (v : α) (r : List UInt8)
def PR.bind {α β : Type} (p : PR α) (f : α → List UInt8 → PR β) : PR β := match p with
  | .bad e r => .bad e r
  | .ok v r => f v r
def isBl (c : UInt8) : Bool := (c.toNat : Int) == 32 || ((c.toNat : Int) == 9 || (c.toNat : Int) == 10)
def skipB (r : List UInt8) : List UInt8 := r.dropWhile isBl
def wordOf (r : List UInt8) : List UInt8 := r.take (nameLen r)
def rightN (w : List UInt8) : Bool := !w.isEmpty && (decide (w.length ≤ 16) && decide (nameLen w = w.length))
def pName (r : List UInt8) : PR (List UInt8) :=
  if wordOf (skipB r) = [] then .bad 5 (skipB r) else if rightN (wordOf (skipB r)) then .ok (wordOf (skipB r)) ((skipB r).drop (wordOf (skipB r)).length) else .bad 8 (skipB r)
def pTake (w r : List UInt8) : Bool × List UInt8 := if wordOf (skipB r) = w then (true, (skipB r).drop w.length) else (false, skipB r)
def pWant (w r : List UInt8) : PR Unit := if wordOf (skipB r) = w then .ok () ((skipB r).drop w.length) else .bad 5 (skipB r)
def pSign (c : UInt8) (r : List UInt8) : Bool × List UInt8 := if (skipB r).head? = some c then (true, (skipB r).tail) else (false, skipB r)
def pWantS (c : UInt8) (r : List UInt8) : PR Unit := if (skipB r).head? = some c then .ok () (skipB r).tail else .bad 5 (skipB r)
def placeOf10 (s r : List UInt8) : Nat := s.length - r.length
theorem drop_place {s : List UInt8} {i : Nat} (h : i ≤ s.length) : s.drop (placeOf10 s (skipB (s.drop i))) = skipB (s.drop i) := by
  have hs : skipB (s.drop i) <:+ s := (List.dropWhile_suffix isBl).trans (List.drop_suffix i s)
  obtain ⟨t, ht⟩ := hs
  unfold placeOf10
  generalize skipB (s.drop i) = q at *
  subst ht
  rw [List.length_append, Nat.add_sub_cancel, List.drop_left]
theorem skipB_cons (c : UInt8) (r : List UInt8) : skipB (c :: r) = if isBl c then skipB r else c :: r := by
  unfold skipB
  rw [List.dropWhile_cons]
end Hx

namespace Hx
open Go
set_option linter.unusedSimpArgs false
set_option linter.unusedVariables false
set_option maxHeartbeats 4000000
variable {E : Env}
attribute [-simp] List.getD_eq_getElem?_getD getElem?_pos
def rdCells (s : List UInt8) (i : Nat) : Blk := .cells [.p (.str s), .p (.int .i64 i)]
theorem rd_left (h : E.fn 239 = some Fn.f_ddltext_reader_left) (s : List UInt8) (hs : (s.length : Int) ≤ 1000000000) (i : Nat) (hi : i ≤ s.length) (k : Nat) (hk : s.length + 4 ≤ k) (id : Nat) (m : Mem) (hm : m[id]? = some (rdCells s i)) :
    denF E (k + 1) 239 [.ptr id 0] m = some (.ret (.p (.str (skipB (s.drop i)))), m.set id (rdCells s (placeOf10 s (skipB (s.drop i))))) := by
  refine denF_wp_own h rfl ?_
  have hid : id < m.length := by
    rcases Nat.lt_or_ge id m.length with hl | hl
    · exact hl
    · rw [List.getElem?_eq_none hl] at hm; cases hm
  have hself : ∀ x : Blk, (m.set id x)[id]? = some x := fun x => List.getElem?_set_self hid
  have hset : ∀ x y : Blk, (m.set id x).set id y = m.set id y := fun x y => List.set_set ..
  have hm0 : m = m.set id (rdCells s i) := by
    obtain ⟨h1, h2⟩ := List.getElem?_eq_some_iff.1 hm
    rw [← h2, List.set_getElem_self]
  simp [Fn.f_ddltext_reader_left]
  refine (loop_wp (α := Nat) (I := fun j st => j ≤ s.length ∧ skipB (s.drop j) = skipB (s.drop i) ∧ Live Fn.f_ddltext_reader_left_k0 (Fn.f_ddltext_reader_left_s0 (.ptr id 0)) (m.set id (rdCells s j)) st) (meas := fun j => s.length - j)
    (Q := fun e st => e = .exit 0 ∧ st.ds = [] ∧ st.ts.length = 42 ∧ st.ts.getD 0 (.tup []) = .ptr id 0 ∧ st.m = m.set id (rdCells s (placeOf10 s (skipB (s.drop i))))) ?_ k i _ ⟨hi, rfl, rfl, rfl, hm0, rfl⟩ (by omega)).mono ?_
  · rintro j st ⟨hj, hsk, hlive⟩
    rw [loopF_live hlive]
    unfold rdCells at *
    by_cases hlt : j < s.length
    · have hlt' : (j : Int) < s.length := by omega
      obtain ⟨c, hc⟩ : ∃ c, s[j]? = some c := ⟨_, List.getElem?_eq_getElem hlt⟩
      rw [drop_at hc, skipB_cons] at hsk
      have hw : IntKind.i64.wrap ((j : Int) + 1) = ((j + 1 : Nat) : Int) := by rw [wrap_i64 (by omega) (by omega)]; omega
      unfold isBl at hsk
      have hstop : c :: s.drop (j + 1) = skipB (s.drop i) → j = placeOf10 s (skipB (s.drop i)) := by
        intro h
        unfold placeOf10
        rw [← h, ← drop_at hc, List.length_drop]
        omega
      cases h32 : ((c.toNat : Int) == 32) with
      | true =>
        rw [h32] at hsk
        simp only [Bool.true_or, if_true] at hsk
        simp [Fn.f_ddltext_reader_left_b0, Fn.f_ddltext_reader_left_s0, hid, hself, hset, hlt, hlt', hc, h32, hw, -Int.natCast_add]
        exact ⟨j + 1, by omega, hlt, hsk, rfl, rfl, rfl, rfl⟩
      | false =>
        cases h9 : ((c.toNat : Int) == 9) with
        | true =>
          rw [h32, h9] at hsk
          simp only [Bool.true_or, Bool.or_true, if_true] at hsk
          simp [Fn.f_ddltext_reader_left_b0, Fn.f_ddltext_reader_left_s0, hid, hself, hset, hlt, hlt', hc, h32, h9, hw, -Int.natCast_add]
          exact ⟨j + 1, by omega, hlt, hsk, rfl, rfl, rfl, rfl⟩
        | false =>
          cases h10 : ((c.toNat : Int) == 10) with
          | true =>
            rw [h32, h9, h10] at hsk
            simp only [Bool.or_true, if_true] at hsk
            simp [Fn.f_ddltext_reader_left_b0, Fn.f_ddltext_reader_left_s0, hid, hself, hset, hlt, hlt', hc, h32, h9, h10, hw, -Int.natCast_add]
            exact ⟨j + 1, by omega, hlt, hsk, rfl, rfl, rfl, rfl⟩
          | false =>
            rw [h32, h9, h10] at hsk
            simp only [Bool.or_false, Bool.false_eq_true, if_false] at hsk
            have := hstop hsk
            simp [Fn.f_ddltext_reader_left_b0, Fn.f_ddltext_reader_left_s0, hid, hself, hset, hlt, hlt', hc, h32, h9, h10]
            rw [← this]
    · have hlt' : ¬ (j : Int) < s.length := by omega
      have hnil : s.drop j = [] := List.drop_eq_nil_of_le (by omega)
      rw [hnil] at hsk
      have : j = placeOf10 s (skipB (s.drop i)) := by
        unfold placeOf10
        rw [← hsk]
        simp [skipB]
        omega
      simp [Fn.f_ddltext_reader_left_b0, Fn.f_ddltext_reader_left_s0, hid, hself, hset, hlt, hlt']
      rw [← this]
  · rintro e st ⟨rfl, h1, h2, h3, h4⟩
    obtain ⟨ts, m', ds⟩ := st
    simp only at h1 h2 h3 h4
    subst h1 h4
    have hx : ts = [ts.getD 0 (.tup []), ts.getD 1 (.tup []), ts.getD 2 (.tup []), ts.getD 3 (.tup []), ts.getD 4 (.tup []), ts.getD 5 (.tup []), ts.getD 6 (.tup []), ts.getD 7 (.tup []), ts.getD 8 (.tup []), ts.getD 9 (.tup []), ts.getD 10 (.tup []), ts.getD 11 (.tup []), ts.getD 12 (.tup []), ts.getD 13 (.tup []), ts.getD 14 (.tup []), ts.getD 15 (.tup []), ts.getD 16 (.tup []), ts.getD 17 (.tup []), ts.getD 18 (.tup []), ts.getD 19 (.tup []), ts.getD 20 (.tup []), ts.getD 21 (.tup []), ts.getD 22 (.tup []), ts.getD 23 (.tup []), ts.getD 24 (.tup []), ts.getD 25 (.tup []), ts.getD 26 (.tup []), ts.getD 27 (.tup []), ts.getD 28 (.tup []), ts.getD 29 (.tup []), ts.getD 30 (.tup []), ts.getD 31 (.tup []), ts.getD 32 (.tup []), ts.getD 33 (.tup []), ts.getD 34 (.tup []), ts.getD 35 (.tup []), ts.getD 36 (.tup []), ts.getD 37 (.tup []), ts.getD 38 (.tup []), ts.getD 39 (.tup []), ts.getD 40 (.tup []), ts.getD 41 (.tup [])] := expand_ts 42 ts h2
    have hdp := drop_place hi
    have hle : placeOf10 s (skipB (s.drop i)) ≤ s.length := by unfold placeOf10; omega
    rw [hx]
    unfold rdCells at *
    simp [h3, hid, hself, hle, hdp]
end Hx

namespace Hx
open Go
section
variable {E : Env} {call : Caller} {dst : Option Nat} {g : Option (Nat × Bool)} {c : Nat} {r : List XOper} {st : St}
@[simp] theorem ops_panic {x : X} : denOpers E call none (⟨dst, .panic x, g, c⟩ :: r) st = match wants st.ts g with
    | none => none
    | some false => denOpers E call none r ⟨putT st.ts dst (.tup []), st.m, st.ds⟩
    | some true => match evX E st.ts x with
      | .p (.iface t v) => some (.pan (.p (.iface t v)), st)
      | .iface t v => some (.pan (.iface t v), st)
      | _ => none := by
  rw [denOpers, denOper]
  cases wants st.ts g with
  | none => rfl
  | some b =>
    cases b with
    | false => rfl
    | true =>
      simp only [Option.isSome_none, cond_false]
      generalize evX E st.ts x = q
      cases q with
      | p v => cases v <;> rfl
      | _ => rfl
@[simp] theorem ops_dfr {f : X} {args : List X} : denOpers E call none (⟨dst, .dfr f args, g, c⟩ :: r) st = match wants st.ts g with
    | none => none
    | some false => denOpers E call none r ⟨putT st.ts dst (.tup []), st.m, st.ds⟩
    | some true => match fnOf (evX E st.ts f) with
      | none => none
      | some _ => denOpers E call none r ⟨putT st.ts dst (.tup []), st.m, (evX E st.ts f, args.map (evX E st.ts)) :: st.ds⟩ := by
  rw [denOpers, denOper]
  cases wants st.ts g with
  | none => rfl
  | some b =>
    cases b with
    | false => rfl
    | true =>
      simp only [Option.isSome_none, cond_false]
      cases fnOf (evX E st.ts f) <;> rfl
end
end Hx
