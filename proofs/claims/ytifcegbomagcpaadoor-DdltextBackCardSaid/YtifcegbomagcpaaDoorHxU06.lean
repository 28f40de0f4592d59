/-
  HxU06: the small functions of the chapters 05 and 06: which values and types are right, which of two types is as wide.
-/
import Derived.Test.YtifcegbomagcpaaDoorHxU03g
import Derived.Test.YtifcegbomagcpaaDoorHxFn06
import Derived.Test.YtifcegbomagcpaaDoorHxSimp
namespace Hx
open Go
set_option linter.unusedSimpArgs false
set_option maxHeartbeats 1000000
variable {E : Env}
attribute [-simp] List.getD_eq_getElem?_getD getElem?_pos
def sgs (f : List UInt8 → Option (Int × Int)) : Nat → List UInt8 → Option (List Int)
  | _, [] => some []
  | 0, _ :: _ => none
  | k + 1, c :: r => match f (c :: r) with
    | none => none
    | some p => match sgs f k ((c :: r).drop p.2.toNat) with
      | none => none
      | some l => some (p.1 :: l)
def signs (s : List UInt8) : Option (List Int) := sgs readU s.length s
theorem sgs_more {f : List UInt8 → Option (Int × Int)} (hf : ∀ s p, f s = some p → 1 ≤ p.2 ∧ p.2 ≤ s.length) : ∀ (k k' : Nat) (s : List UInt8), s.length ≤ k → s.length ≤ k' → sgs f k s = sgs f k' s
  | k, k', [], _, _ => by cases k <;> cases k' <;> rfl
  | 0, _, _ :: _, h, _ => by simp at h
  | _, 0, _ :: _, _, h => by simp at h
  | k + 1, k' + 1, c :: r, h, h' => by
    simp only [sgs]
    cases hr : f (c :: r) with
    | none => rfl
    | some p =>
      obtain ⟨z1, z2⟩ := hf _ _ hr
      have hl : ((c :: r).drop p.2.toNat).length ≤ r.length := by
        rw [List.length_drop]; simp only [List.length_cons]; omega
      simp only [List.length_cons] at h h'
      simp only [sgs_more hf k k' ((c :: r).drop p.2.toNat) (by omega) (by omega)]
theorem sgs_step {f : List UInt8 → Option (Int × Int)} (hf : ∀ s p, f s = some p → 1 ≤ p.2 ∧ p.2 ≤ s.length) {s : List UInt8} (h : s ≠ []) : sgs f s.length s = match f s with
    | none => none
    | some p => match sgs f (s.drop p.2.toNat).length (s.drop p.2.toNat) with
      | none => none
      | some l => some (p.1 :: l) := by
  cases s with
  | nil => exact absurd rfl h
  | cons c r =>
    simp only [List.length_cons, sgs]
    cases hr : f (c :: r) with
    | none => rfl
    | some p =>
      obtain ⟨z1, z2⟩ := hf _ _ hr
      have hl : ((c :: r).drop p.2.toNat).length ≤ r.length := by
        rw [List.length_drop]; simp only [List.length_cons]; omega
      simp only [sgs_more hf r.length _ ((c :: r).drop p.2.toNat) hl (Nat.le_refl _)]
theorem signs_nil : signs [] = some [] := rfl
theorem signs_step {s : List UInt8} (h : s ≠ []) : signs s = match readU s with
    | none => none
    | some p => match signs (s.drop p.2.toNat) with
      | none => none
      | some l => some (p.1 :: l) :=
  sgs_step (fun s p hp => ⟨(readU_size (n := p.1) (size := p.2) hp).1, (readU_size (n := p.1) (size := p.2) hp).2.1⟩) h
def SoFar (s : List UInt8) (at' : Nat) (acc : List Int) : Prop := at' ≤ s.length ∧ acc.length ≤ at' ∧ signs s = (signs (s.drop at')).map (acc ++ ·)
theorem soFar_0 (s : List UInt8) : SoFar s 0 [] := ⟨Nat.zero_le _, Nat.le_refl _, by simp⟩
theorem soFar_next {s : List UInt8} {at' : Nat} {acc : List Int} {n size : Int} (h : SoFar s at' acc) (ha : at' < s.length) (hr : readU (s.drop at') = some (n, size)) : SoFar s (at' + size.toNat) (acc ++ [n]) := by
  obtain ⟨h1, h2, h3⟩ := h
  obtain ⟨z1, z2, _⟩ := readU_size hr
  rw [List.length_drop] at z2
  refine ⟨by omega, by simp only [List.length_append, List.length_cons, List.length_nil]; omega, ?_⟩
  rw [h3, signs_step (s := s.drop at') (by intro e; have := congrArg List.length e; simp at this; omega), hr]
  simp only [List.drop_drop]
  cases signs (s.drop (at' + size.toNat)) <;> simp
theorem soFar_bad {s : List UInt8} {at' : Nat} {acc : List Int} (h : SoFar s at' acc) (ha : at' < s.length) (hr : readU (s.drop at') = none) : signs s = none := by
  rw [h.2.2, signs_step (s := s.drop at') (by intro e; have := congrArg List.length e; simp at this; omega), hr]
  rfl
theorem soFar_end {s : List UInt8} {acc : List Int} (h : SoFar s s.length acc) : signs s = some acc := by
  rw [h.2.2, List.drop_length, signs_nil]; simp
def countOf (s : List UInt8) : Int := match signs s with | none => -1 | some l => l.length
theorem utf_Count1 (u : R03 E) (k : Nat) (a n : AV) (c : Int) (h0 : 0 ≤ c) (h1 : c ≤ 9223372036854775800) : denF E (k + 1) 23 [a, n, .ptr 0 0] [.cells [.p (.int .i64 c)]] = some (.ret (.tup []), [.cells [.p (.int .i64 (c + 1))]]) := by
  refine denF_wp_own u.count1 rfl ?_
  have w : IntKind.i64.wrap (c + 1) = c + 1 := wrap_i64 (by omega) (by omega)
  simp [Fn.f_utf_Count_1, w]
theorem utf_Count (u : R03 E) (s : List UInt8) (hs : (s.length : Int) ≤ 1000000000000) (k : Nat) (hk : s.length + 8 ≤ k) (m : Mem) : denF E (k + 1) 12 [.p (.str s)] m = some (.ret (.p (.int .i64 (countOf s))), m) := by
  obtain ⟨k, rfl⟩ : ∃ j, k = j + 1 := ⟨k - 1, by omega⟩
  refine denF_wp u.count rfl (args' := [.p (.str s)]) rfl ?_
  obtain ⟨b, m', hw, hb⟩ := utf_walk u s (by omega) 23 [.ptr 0 0] k (by omega) (fun at' m => ∃ acc, SoFar s at' acc ∧ m = [.cells [.p (.int .i64 acc.length)]])
    (by
      rintro at' n size m ha ⟨acc, hf, rfl⟩ hr
      have := hf.1
      have := hf.2.1
      obtain ⟨k, rfl⟩ : ∃ j, k = j + 1 := ⟨k - 1, by omega⟩
      refine ⟨_, utf_Count1 u k _ _ _ (by omega) (by omega), acc ++ [n], soFar_next hf ha hr, by simp⟩)
    [.cells [.p (.int .i64 0)]] ⟨[], soFar_0 s, rfl⟩
  rcases hb with ⟨rfl, acc, hf, rfl⟩ | ⟨rfl, at', ha, hr, acc, hf, rfl⟩
  · simp [Fn.f_utf_Count, hw, countOf, soFar_end hf]
  · simp [Fn.f_utf_Count, hw, countOf, soFar_bad hf ha hr]
theorem utf_Right (u : R03 E) (s : List UInt8) (hs : (s.length : Int) ≤ 1000000000000) (k : Nat) (hk : s.length + 9 ≤ k) (m : Mem) : denF E (k + 1) 11 [.p (.str s)] m = some (.ret (.p (.bool (signs s).isSome)), m) := by
  obtain ⟨k, rfl⟩ : ∃ j, k = j + 1 := ⟨k - 1, by omega⟩
  refine denF_wp u.right rfl (args' := [.p (.str s)]) rfl ?_
  have hC := fun m => utf_Count u s hs k (by omega) m
  cases h : signs s with
  | none => simp [Fn.f_utf_Right, hC, countOf, h]
  | some l => simp [Fn.f_utf_Right, hC, countOf, h]

def Grow (n : Nat) (rows : List (List PV)) (ov : AV) (m : Mem) : Prop := (rows = [] ∧ ov = .p .nils) ∨ (rows ≠ [] ∧ ∃ t, ov = .tv n rows t ∧ m[t]? = some (.tok n rows.length))
def slP (n : Nat) (rows : List (List PV)) : PV := match rows with | [] => .nils | _ => .vals n rows
theorem get_app {m : Mem} {t : Nat} {b : Blk} (h : m[t]? = some b) (l : Mem) : (m ++ l)[t]? = some b := by
  have : t < m.length := by
    rcases Nat.lt_or_ge t m.length with h' | h'
    · exact h'
    · rw [List.getElem?_eq_none h'] at h; cases h
  rw [List.getElem?_append_left this, h]
theorem get_set {m : Mem} {t : Nat} {b : Blk} (h : m[t]? = some b) (x : Blk) : (m.set t x)[t]? = some x := by
  have : t < m.length := by
    rcases Nat.lt_or_ge t m.length with h' | h'
    · exact h'
    · rw [List.getElem?_eq_none h'] at h; cases h
  exact List.getElem?_set_self this
theorem get_new {m : Mem} {x : Blk} : (m ++ [x])[m.length]? = some x := by
  rw [List.getElem?_append_right (Nat.le_refl _), Nat.sub_self]; rfl
end Hx

namespace Hx
open Go
set_option linter.unusedSimpArgs false
set_option maxHeartbeats 1000000
variable {E : Env}
attribute [-simp] List.getD_eq_getElem?_getD getElem?_pos
end Hx

namespace Hx
open Go
set_option linter.unusedSimpArgs false
set_option maxHeartbeats 1000000
variable {E : Env}
attribute [-simp] List.getD_eq_getElem?_getD getElem?_pos
theorem unBytes_rows : ∀ s : List UInt8, unBytes (byteRows s) = some s
  | [] => rfl
  | c :: s => by
    simp only [byteRows, List.map_cons, unBytes, byteRow, unByte]
    have h := unBytes_rows s
    simp only [byteRows] at h
    rw [h]
    simp
end Hx

namespace Hx
open Go
set_option linter.unusedSimpArgs false
set_option maxHeartbeats 1000000
variable {E : Env}
attribute [-simp] List.getD_eq_getElem?_getD getElem?_pos
end Hx

/-
  HxM05: the digits of a number: plain laws.
-/
namespace Hx
def dgt (d : Nat) : UInt8 := UInt8.ofNat (48 + d)
def digs (n : Nat) : List UInt8 := if n < 10 then [dgt n] else digs (n / 10) ++ [dgt (n % 10)]
termination_by n
decreasing_by omega
def digits (n : Int) : List UInt8 := if n < 0 then 45 :: digs n.natAbs else digs n.natAbs
theorem digs_small {n : Nat} (h : n < 10) : digs n = [dgt n] := by rw [digs, if_pos h]
theorem digs_big {n : Nat} (h : ¬ n < 10) : digs n = digs (n / 10) ++ [dgt (n % 10)] := by rw [digs, if_neg h]
theorem digs_ne (n : Nat) : digs n ≠ [] := by
  by_cases h : n < 10
  · rw [digs_small h]; simp
  · rw [digs_big h]; simp
theorem digs_pos (n : Nat) : 0 < (digs n).length := by
  cases h : digs n with
  | nil => exact absurd h (digs_ne n)
  | cons => simp
theorem digs_len : ∀ (k n : Nat), n < 10 ^ (k + 1) → (digs n).length ≤ k + 1
  | 0, n, h => by
    rw [digs_small (by simpa using h)]
    simp
  | k + 1, n, h => by
    by_cases hn : n < 10
    · rw [digs_small hn]; simp
    · rw [digs_big hn, List.length_append]
      have := digs_len k (n / 10) (by
        have e : 10 ^ (k + 1 + 1) = 10 * 10 ^ (k + 1) := by rw [Nat.pow_succ, Nat.mul_comm]
        rw [e] at h
        exact Nat.div_lt_of_lt_mul h)
      simp only [List.length_cons, List.length_nil]
      omega
theorem dgt_toNat {d : Nat} (h : d < 10) : (dgt d).toNat = 48 + d := by
  unfold dgt
  rw [UInt8.toNat_ofNat']
  omega
theorem digs_mem {c : UInt8} : ∀ (k n : Nat), n ≤ k → c ∈ digs n → 48 ≤ c.toNat ∧ c.toNat ≤ 57
  | 0, n, hk, h => by
    rw [digs_small (by omega)] at h
    simp only [List.mem_cons, List.not_mem_nil, or_false] at h
    subst h
    rw [dgt_toNat (by omega)]
    omega
  | k + 1, n, hk, h => by
    by_cases hn : n < 10
    · rw [digs_small hn] at h
      simp only [List.mem_cons, List.not_mem_nil, or_false] at h
      subst h
      rw [dgt_toNat (by omega)]
      omega
    · rw [digs_big hn] at h
      simp only [List.mem_append, List.mem_cons, List.not_mem_nil, or_false] at h
      rcases h with h | rfl
      · exact digs_mem k (n / 10) (by omega) h
      · rw [dgt_toNat (by omega)]
        omega
theorem digits_64 {n : Int} (h1 : -9223372036854775808 ≤ n) (h2 : n ≤ 9223372036854775807) : (digits n).length ≤ 20 := by
  have := digs_len 18 n.natAbs (by omega)
  unfold digits
  split <;> (try simp only [List.length_cons]) <;> omega
theorem digits_ne (n : Int) : digits n ≠ [] := by
  unfold digits
  split
  · simp
  · exact digs_ne _
end Hx

namespace Hx
def isDig (c : UInt8) : Bool := decide (48 ≤ c.toNat) && decide (c.toNat ≤ 57)
def dval (c : UInt8) : Nat := c.toNat - 48
def stepD (a : Nat) (c : UInt8) : Nat := 10 * a + dval c
def numVal (a : Nat) (x : List UInt8) : Nat := x.foldl stepD a
theorem numVal_nil (a : Nat) : numVal a [] = a := rfl
theorem numVal_cons (a : Nat) (c : UInt8) (r : List UInt8) : numVal a (c :: r) = numVal (10 * a + dval c) r := by
  unfold numVal
  rw [List.foldl_cons, stepD]
theorem numVal_app : ∀ (a : Nat) (x y : List UInt8), numVal a (x ++ y) = numVal (numVal a x) y
  | _, [], _ => rfl
  | a, c :: x, y => by rw [List.cons_append, numVal_cons, numVal_cons, numVal_app]
theorem numVal_ge : ∀ (a : Nat) (x : List UInt8), a ≤ numVal a x
  | _, [] => Nat.le_refl _
  | a, c :: x => by
    have := numVal_ge (10 * a + dval c) x
    rw [numVal_cons]
    omega
theorem digs_numVal : ∀ (x : List UInt8) (a : Nat), 0 < a → (∀ c ∈ x, isDig c = true) → digs (numVal a x) = digs a ++ x
  | [], a, _, _ => by simp [numVal_nil]
  | c :: x, a, ha, h => by
    have hc := h c (by simp)
    unfold isDig at hc
    simp only [Bool.and_eq_true, decide_eq_true_eq] at hc
    rw [numVal_cons, digs_numVal x _ (by omega) (fun d hd => h d (List.mem_cons_of_mem _ hd))]
    have hb : ¬ 10 * a + dval c < 10 := by omega
    have h1 : (10 * a + dval c) / 10 = a := by unfold dval; omega
    have h2 : (10 * a + dval c) % 10 = dval c := by unfold dval; omega
    rw [digs_big hb, h1, h2, List.append_assoc]
    have : dgt (dval c) = c := by
      unfold dgt dval
      have : 48 + (c.toNat - 48) = c.toNat := by omega
      rw [this]
      exact UInt8.ofNat_toNat
    rw [this]
    rfl
theorem digs_of_run {x : List UInt8} (h : ∀ c ∈ x, isDig c = true) (hne : x ≠ []) (h0 : x.head? = some 48 → x = [48]) : digs (numVal 0 x) = x := by
  cases x with
  | nil => exact absurd rfl hne
  | cons c x =>
    have hc := h c (by simp)
    unfold isDig at hc
    simp only [Bool.and_eq_true, decide_eq_true_eq] at hc
    by_cases hz : c = 48
    · subst hz
      have := h0 rfl
      rw [this]
      have : numVal 0 [48] = 0 := by decide +kernel
      rw [this, digs_small (by omega)]
      rfl
    · have hd : 0 < dval c := by
        have : c.toNat ≠ 48 := fun q => hz (UInt8.toNat_inj.1 q)
        unfold dval
        omega
      rw [numVal_cons, digs_numVal x _ (by omega) (fun d hd => h d (List.mem_cons_of_mem _ hd))]
      have e : 10 * 0 + dval c = dval c := by omega
      have : dgt (dval c) = c := by
        unfold dgt dval
        have : 48 + (c.toNat - 48) = c.toNat := by omega
        rw [this]
        exact UInt8.ofNat_toNat
      rw [e, digs_small (by unfold dval; omega), this]
      rfl
end Hx

namespace Hx
open Go
set_option linter.unusedSimpArgs false
set_option linter.unusedVariables false
set_option maxHeartbeats 4000000
variable {E : Env}
attribute [-simp] List.getD_eq_getElem?_getD getElem?_pos
def letter (c : UInt8) : Bool := decide ((97 : Int) ≤ c.toNat) && decide ((c.toNat : Int) ≤ 122)
def partC (c : UInt8) : Bool := letter c || (decide ((48 : Int) ≤ c.toNat) && decide ((c.toNat : Int) ≤ 57)) || ((c.toNat : Int) == 95)
def nameLen : List UInt8 → Nat
  | [] => 0
  | c :: r => if letter c then 1 + (r.takeWhile partC).length else 0
structure N04 (E : Env) : Prop where
  part : E.fn 65 = some Fn.f_name_part
  read : E.fn 50 = some Fn.f_name_Read
  rletter : E.fn 67 = some Fn.f_haulageref04_letter
  rpart : E.fn 66 = some Fn.f_haulageref04_Part
  rread : E.fn 51 = some Fn.f_haulageref04_Read
theorem name_part (h : E.fn 65 = some Fn.f_name_part) (k : Nat) (c : UInt8) (i : Int) (m : Mem) : denF E (k + 1) 65 [.p (.int .u8 c.toNat), .p (.int .i64 i)] m = some (.ret (.p (.bool (letter c || (partC c && decide (0 < i))))), m) := by
  refine denF_wp h rfl (args' := [.p (.int .u8 c.toNat), .p (.int .i64 i)]) rfl ?_
  unfold partC letter
  generalize (c.toNat : Int) = x
  by_cases h1 : (97 : Int) ≤ x
  · by_cases h2 : x ≤ 122
    · simp [Fn.f_name_part, h1, h2]
    · have h3 : (48 : Int) ≤ x := by omega
      have h4 : ¬ x ≤ 57 := by omega
      have h5 : (x == 95) = false := by simp; omega
      simp [Fn.f_name_part, h1, h2, h3, h4, h5]
  · by_cases h3 : (48 : Int) ≤ x
    · by_cases h4 : x ≤ 57
      · simp [Fn.f_name_part, h1, h3, h4]
      · cases h5 : (x == 95) <;> simp [Fn.f_name_part, h1, h3, h4, h5]
    · have h5 : (x == 95) = false := by simp; omega
      simp [Fn.f_name_part, h1, h3, h5]
def NameFar (s : List UInt8) (i : Nat) : Prop := i ≤ s.length ∧ (i = 0 ∨ nameLen s = i + ((s.drop i).takeWhile partC).length)
theorem drop_at {s : List UInt8} {i : Nat} {c : UInt8} (h : s[i]? = some c) : s.drop i = c :: s.drop (i + 1) := by
  obtain ⟨hi, rfl⟩ := List.getElem?_eq_some_iff.1 h
  exact List.drop_eq_getElem_cons hi
theorem letter_part {c : UInt8} (h : letter c = true) : partC c = true := by unfold partC; rw [h]; rfl
theorem name_next {s : List UInt8} {i : Nat} {c : UInt8} (h : NameFar s i) (hc : s[i]? = some c) (hp : (letter c || (partC c && decide (0 < i))) = true) : NameFar s (i + 1) := by
  obtain ⟨h1, h2⟩ := h
  have hlt : i < s.length := (List.getElem?_eq_some_iff.1 hc).1
  refine ⟨hlt, .inr ?_⟩
  rcases h2 with rfl | h2
  · have hl : letter c = true := by simpa using hp
    cases s with
    | nil => simp at hlt
    | cons d r =>
      simp at hc
      subst hc
      simp [nameLen, hl]
  · rw [h2, drop_at hc, List.takeWhile_cons]
    have : partC c = true := by
      cases hl : letter c with
      | true => exact letter_part hl
      | false => rw [hl] at hp; simp at hp; exact hp.1
    rw [if_pos this, List.length_cons]
    omega
theorem name_stop {s : List UInt8} {i : Nat} {c : UInt8} (h : NameFar s i) (hc : s[i]? = some c) (hp : (letter c || (partC c && decide (0 < i))) = false) : nameLen s = i := by
  obtain ⟨h1, h2⟩ := h
  have hlt : i < s.length := (List.getElem?_eq_some_iff.1 hc).1
  simp only [Bool.or_eq_false_iff] at hp
  obtain ⟨hl, hp⟩ := hp
  by_cases hi : i = 0
  · subst hi
    cases s with
    | nil => simp at hlt
    | cons d r =>
      simp at hc
      subst hc
      simp [nameLen, hl]
  · rcases h2 with h2 | h2
    · exact absurd h2 hi
    · rw [h2, drop_at hc, List.takeWhile_cons]
      have : partC c = false := by
        cases hq : partC c with
        | false => rfl
        | true => rw [hq] at hp; simp at hp; omega
      rw [this]
      simp
theorem name_end {s : List UInt8} (h : NameFar s s.length) : nameLen s = s.length := by
  obtain ⟨h1, h2⟩ := h
  rcases h2 with h2 | h2
  · have : s = [] := List.length_eq_zero_iff.1 h2
    subst this
    rfl
  · rw [h2, List.drop_length]
    simp
theorem nameLen_le (s : List UInt8) : nameLen s ≤ s.length := by
  cases s with
  | nil => exact Nat.le_refl _
  | cons c r =>
    have e : nameLen (c :: r) = if letter c then 1 + (r.takeWhile partC).length else 0 := rfl
    rw [e]
    split
    · have := (List.takeWhile_prefix partC (l := r)).length_le
      simp only [List.length_cons]
      omega
    · omega
theorem name_Read (u : N04 E) (s : List UInt8) (hs : (s.length : Int) ≤ 1000000000000) (k : Nat) (hk : s.length + 4 ≤ k) (m : Mem) : denF E (k + 1) 50 [.p (.str s)] m = some (.ret (.p (.int .i64 (nameLen s))), m) := by
  refine denF_wp u.read rfl (args' := [.p (.str s)]) rfl ?_
  obtain ⟨j, rfl⟩ : ∃ j, k = j + 1 := ⟨k - 1, by omega⟩
  simp [Fn.f_name_Read]
  refine (loop_wp (α := Nat) (I := fun i st => NameFar s i ∧ Live Fn.f_name_Read_k0 (Fn.f_name_Read_s0 (.p (.str s)) (.p (.int .i64 s.length)) (.p (.int .i64 i))) [] st) (meas := fun i => s.length - i)
    (Q := fun e st => st.ds = [] ∧ ((e = .exit 0 ∧ st.ts.length = 19 ∧ nameLen s = s.length ∧ st.ts.getD 0 (.tup []) = .p (.str s)) ∨ (e = .ret ∧ st.ts.getD 2 (.tup []) = .p (.int .i64 (nameLen s))))) ?_ (j + 1) 0 _ ⟨⟨Nat.zero_le _, .inl rfl⟩, rfl, rfl, rfl, rfl⟩ (by omega)).mono ?_
  · rintro i st ⟨hf, hlive⟩
    rw [loopF_live hlive]
    by_cases hi : i < s.length
    · have hi' : (i : Int) < s.length := by omega
      obtain ⟨c, hc⟩ : ∃ c, s[i]? = some c := ⟨_, List.getElem?_eq_getElem hi⟩
      have hp := fun m => name_part u.part j c i m
      have hw : IntKind.i64.wrap ((i : Int) + 1) = i + 1 := wrap_i64 (by omega) (by omega)
      cases hq : (letter c || (partC c && decide (0 < i))) with
      | true =>
        have hn := name_next hf hc hq
        have hq' : (letter c || (partC c && decide ((0 : Int) < i))) = true := by rw [← hq]; simp
        rw [hq'] at hp
        simp [Fn.f_name_Read_b0, Fn.f_name_Read_s0, hi, hi', hc, hp, hw]
        exact ⟨i + 1, by omega, hn, rfl, rfl, rfl, rfl⟩
      | false =>
        have hn := name_stop hf hc hq
        have hq' : (letter c || (partC c && decide ((0 : Int) < i))) = false := by rw [← hq]; simp
        rw [hq'] at hp
        simp [Fn.f_name_Read_b0, Fn.f_name_Read_s0, hi, hi', hc, hp, hn]
    · have hi' : ¬ (i : Int) < s.length := by omega
      have hn : i = s.length := by have := hf.1; omega
      subst hn
      have := name_end hf
      simp [Fn.f_name_Read_b0, Fn.f_name_Read_s0, this]
  · rintro e st ⟨h0, h⟩
    obtain ⟨ts, m', ds⟩ := st
    simp only at h0 h
    rcases h with ⟨rfl, h1, h2, h3⟩ | ⟨rfl, h3⟩
    · match ts, h1, h3 with
      | t0 :: t1 :: t2 :: t3 :: t4 :: t5 :: t6 :: t7 :: t8 :: t9 :: t10 :: t11 :: t12 :: t13 :: t14 :: t15 :: t16 :: t17 :: t18 :: [], h1, h3 =>
        simp at h3
        simp [h0, h2, h3]
    · simp [h0, h3]
end Hx

/-
  HxM06: types of columns, and which of two is as wide: plain laws.
-/
namespace Hx
def rightT (k m : Int) : Bool := if k = 1 ∨ k = 2 then decide (m = 0) else if k = 3 ∨ k = 4 then decide (1 ≤ m ∧ m ≤ 120) else false
theorem right_cases {k m : Int} (h : rightT k m = true) : (k = 1 ∧ m = 0) ∨ (k = 2 ∧ m = 0) ∨ (k = 3 ∧ 1 ≤ m ∧ m ≤ 120) ∨ (k = 4 ∧ 1 ≤ m ∧ m ≤ 120) := by
  unfold rightT at h
  split at h
  · have := of_decide_eq_true h
    omega
  · split at h
    · have := of_decide_eq_true h
      omega
    · cases h
end Hx

namespace Hx
open Go
set_option linter.unusedSimpArgs false
set_option maxHeartbeats 1000000
variable {E : Env}
attribute [-simp] List.getD_eq_getElem?_getD getElem?_pos
end Hx

namespace Hx
open Go
set_option linter.unusedSimpArgs false
set_option linter.unusedVariables false
set_option maxHeartbeats 4000000
variable {E : Env}
attribute [-simp] List.getD_eq_getElem?_getD getElem?_pos
theorem intBeq {a b : Int} : (a == b) = decide (a = b) := by
  rw [Bool.eq_iff_iff]; simp
theorem maxIf {a c : Int} : (if a < c then c else a) = max a c := by
  split <;> omega
attribute [local simp] intBeq maxIf
def vP (k n : Int) (s : List UInt8) : PV := .agg [.int .i64 k, .int .i64 n, .str s]
def tP (k m : Int) : PV := .agg [.int .i64 k, .int .i64 m]
theorem typ_Right (h : E.fn 84 = some Fn.f_typ_Right) (k : Nat) (a b : Int) (m : Mem) : denF E (k + 1) 84 [.p (tP a b)] m = some (.ret (.p (.bool (rightT a b))), m) := by
  refine denF_wp h rfl (args' := [.p (tP a b)]) rfl ?_
  unfold rightT tP
  by_cases h1 : a = 1
  · subst h1; simp [Fn.f_typ_Right]
  by_cases h2 : a = 2
  · subst h2; simp [Fn.f_typ_Right]
  by_cases h3 : a = 3
  · subst h3; by_cases hb : 1 ≤ b <;> simp [Fn.f_typ_Right, hb]
  by_cases h4 : a = 4
  · subst h4; by_cases hb : 1 ≤ b <;> simp [Fn.f_typ_Right, hb]
  simp [Fn.f_typ_Right, h1, h2, h3, h4]
def longT (a : Int) : Bool := decide (a = 3 ∨ a = 4)
theorem typ_long (h : E.fn 95 = some Fn.f_typ_long) (k : Nat) (a : Int) (m : Mem) : denF E (k + 1) 95 [.p (.int .i64 a)] m = some (.ret (.p (.bool (longT a))), m) := by
  refine denF_wp h rfl (args' := [.p (.int .i64 a)]) rfl ?_
  unfold longT
  by_cases h3 : a = 3
  · subst h3; simp [Fn.f_typ_long]
  by_cases h4 : a = 4
  · subst h4; simp [Fn.f_typ_long]
  simp [Fn.f_typ_long, h3, h4]
end Hx
