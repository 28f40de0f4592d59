/-
  HxV05a: which of two values stands first, as the program and the document tell it; the law ValueOrders on the evaluator.
-/
import Derived.Test.YtfobhbameffplaaHxFn06
import Derived.Test.YtfobhbameffplaaHxSimp
import Derived.Test.YtfobhbameffplaaHxFn10
import Derived.Test.YtfobhbameffplaaHxU06v
import Derived.Test.YtfobhbameffplaaHxFn10b
import Derived.Test.YtfobhbameffplaaHxFn05
import Derived.Test.YtfobhbameffplaaHxM25
namespace Hx
open Go
set_option linter.unusedSimpArgs false
set_option linter.unusedVariables false
set_option maxHeartbeats 4000000
variable {E : Env}
attribute [-simp] List.getD_eq_getElem?_getD getElem?_pos
def letter (c : UInt8) : Bool := decide ((97 : Int) ≤ c.toNat) && decide ((c.toNat : Int) ≤ 122)
def partC (c : UInt8) : Bool := letter c || (decide ((48 : Int) ≤ c.toNat) && decide ((c.toNat : Int) ≤ 57)) || ((c.toNat : Int) == 95)
def nameLen : List UInt8 → Nat
  | [] => 0
  | c :: r => if letter c then 1 + (r.takeWhile partC).length else 0
theorem ref_letter (h : E.fn 67 = some Fn.f_haulageref04_letter) (k : Nat) (c : UInt8) (m : Mem) : denF E (k + 1) 67 [.p (.int .u8 c.toNat)] m = some (.ret (.p (.bool (letter c))), m) := by
  refine denF_wp h rfl (args' := [.p (.int .u8 c.toNat)]) rfl ?_
  unfold letter
  generalize (c.toNat : Int) = x
  by_cases h1 : (97 : Int) ≤ x <;> simp [Fn.f_haulageref04_letter, h1]
def NameFar (s : List UInt8) (i : Nat) : Prop := i ≤ s.length ∧ (i = 0 ∨ nameLen s = i + ((s.drop i).takeWhile partC).length)
theorem drop_at {s : List UInt8} {i : Nat} {c : UInt8} (h : s[i]? = some c) : s.drop i = c :: s.drop (i + 1) := by
  obtain ⟨hi, rfl⟩ := List.getElem?_eq_some_iff.1 h
  exact List.drop_eq_getElem_cons hi
theorem letter_part {c : UInt8} (h : letter c = true) : partC c = true := by unfold partC; rw [h]; rfl
theorem name_next {s : List UInt8} {i : Nat} {c : UInt8} (h : NameFar s i) (hc : s[i]? = some c) (hp : (letter c || (partC c && decide (0 < i))) = true) : NameFar s (i + 1) := by
  obtain ⟨h1, h2⟩ := h
  have hlt : i < s.length := (List.getElem?_eq_some_iff.1 hc).1
  refine ⟨hlt, .inr ?_⟩
  rcases h2 with rfl | h2
  · have hl : letter c = true := by simpa using hp
    cases s with
    | nil => simp at hlt
    | cons d r =>
      simp at hc
      subst hc
      simp [nameLen, hl]
  · rw [h2, drop_at hc, List.takeWhile_cons]
    have : partC c = true := by
      cases hl : letter c with
      | true => exact letter_part hl
      | false => rw [hl] at hp; simp at hp; exact hp.1
    rw [if_pos this, List.length_cons]
    omega
theorem name_stop {s : List UInt8} {i : Nat} {c : UInt8} (h : NameFar s i) (hc : s[i]? = some c) (hp : (letter c || (partC c && decide (0 < i))) = false) : nameLen s = i := by
  obtain ⟨h1, h2⟩ := h
  have hlt : i < s.length := (List.getElem?_eq_some_iff.1 hc).1
  simp only [Bool.or_eq_false_iff] at hp
  obtain ⟨hl, hp⟩ := hp
  by_cases hi : i = 0
  · subst hi
    cases s with
    | nil => simp at hlt
    | cons d r =>
      simp at hc
      subst hc
      simp [nameLen, hl]
  · rcases h2 with h2 | h2
    · exact absurd h2 hi
    · rw [h2, drop_at hc, List.takeWhile_cons]
      have : partC c = false := by
        cases hq : partC c with
        | false => rfl
        | true => rw [hq] at hp; simp at hp; omega
      rw [this]
      simp
theorem name_end {s : List UInt8} (h : NameFar s s.length) : nameLen s = s.length := by
  obtain ⟨h1, h2⟩ := h
  rcases h2 with h2 | h2
  · have : s = [] := List.length_eq_zero_iff.1 h2
    subst this
    rfl
  · rw [h2, List.drop_length]
    simp
end Hx

namespace Hx
open Go
def rightN (w : List UInt8) : Bool := !w.isEmpty && (decide (w.length ≤ 16) && decide (nameLen w = w.length))
end Hx

namespace Hx
open Go
set_option linter.unusedSimpArgs false
set_option linter.unusedVariables false
set_option maxHeartbeats 4000000
variable {E : Env}
attribute [-simp] List.getD_eq_getElem?_getD getElem?_pos
end Hx

namespace Hx
open Go
section
variable {E : Env} {call : Caller} {dst : Option Nat} {g : Option (Nat × Bool)} {c : Nat} {r : List XOper} {st : St}
@[simp] theorem ops_panic {x : X} : denOpers E call none (⟨dst, .panic x, g, c⟩ :: r) st = match wants st.ts g with
    | none => none
    | some false => denOpers E call none r ⟨putT st.ts dst (.tup []), st.m, st.ds⟩
    | some true => match evX E st.ts x with
      | .p (.iface t v) => some (.pan (.p (.iface t v)), st)
      | .iface t v => some (.pan (.iface t v), st)
      | _ => none := by
  rw [denOpers, denOper]
  cases wants st.ts g with
  | none => rfl
  | some b =>
    cases b with
    | false => rfl
    | true =>
      simp only [Option.isSome_none, cond_false]
      generalize evX E st.ts x = q
      cases q with
      | p v => cases v <;> rfl
      | _ => rfl
@[simp] theorem ops_dfr {f : X} {args : List X} : denOpers E call none (⟨dst, .dfr f args, g, c⟩ :: r) st = match wants st.ts g with
    | none => none
    | some false => denOpers E call none r ⟨putT st.ts dst (.tup []), st.m, st.ds⟩
    | some true => match fnOf (evX E st.ts f) with
      | none => none
      | some _ => denOpers E call none r ⟨putT st.ts dst (.tup []), st.m, (evX E st.ts f, args.map (evX E st.ts)) :: st.ds⟩ := by
  rw [denOpers, denOper]
  cases wants st.ts g with
  | none => rfl
  | some b =>
    cases b with
    | false => rfl
    | true =>
      simp only [Option.isSome_none, cond_false]
      cases fnOf (evX E st.ts f) <;> rfl
end
end Hx

namespace Hx
open Go
set_option linter.unusedSimpArgs false
set_option linter.unusedVariables false
set_option maxHeartbeats 4000000
variable {E : Env}
attribute [-simp] List.getD_eq_getElem?_getD getElem?_pos
end Hx

namespace Hx
open Go
set_option linter.unusedSimpArgs false
set_option linter.unusedVariables false
set_option maxHeartbeats 4000000
variable {E : Env}
attribute [-simp] List.getD_eq_getElem?_getD getElem?_pos
end Hx

namespace Hx
open Go
set_option linter.unusedSimpArgs false
set_option linter.unusedVariables false
set_option maxHeartbeats 4000000
set_option maxRecDepth 20000
variable {E : Env}
attribute [-simp] List.getD_eq_getElem?_getD getElem?_pos
end Hx

namespace Hx
open Go
set_option linter.unusedSimpArgs false
set_option linter.unusedVariables false
set_option maxHeartbeats 8000000
set_option maxRecDepth 20000
variable {E : Env}
attribute [-simp] List.getD_eq_getElem?_getD getElem?_pos
end Hx

/-
  HxM05: the digits of a number: plain laws.
-/
namespace Hx
def dgt (d : Nat) : UInt8 := UInt8.ofNat (48 + d)
def digs (n : Nat) : List UInt8 := if n < 10 then [dgt n] else digs (n / 10) ++ [dgt (n % 10)]
termination_by n
decreasing_by omega
def digits (n : Int) : List UInt8 := if n < 0 then 45 :: digs n.natAbs else digs n.natAbs
theorem digs_small {n : Nat} (h : n < 10) : digs n = [dgt n] := by rw [digs, if_pos h]
theorem digs_big {n : Nat} (h : ¬ n < 10) : digs n = digs (n / 10) ++ [dgt (n % 10)] := by rw [digs, if_neg h]
theorem digs_len : ∀ (k n : Nat), n < 10 ^ (k + 1) → (digs n).length ≤ k + 1
  | 0, n, h => by
    rw [digs_small (by simpa using h)]
    simp
  | k + 1, n, h => by
    by_cases hn : n < 10
    · rw [digs_small hn]; simp
    · rw [digs_big hn, List.length_append]
      have := digs_len k (n / 10) (by
        have e : 10 ^ (k + 1 + 1) = 10 * 10 ^ (k + 1) := by rw [Nat.pow_succ, Nat.mul_comm]
        rw [e] at h
        exact Nat.div_lt_of_lt_mul h)
      simp only [List.length_cons, List.length_nil]
      omega
theorem dgt_toNat {d : Nat} (h : d < 10) : (dgt d).toNat = 48 + d := by
  unfold dgt
  rw [UInt8.toNat_ofNat']
  omega
theorem digs_mem {c : UInt8} : ∀ (k n : Nat), n ≤ k → c ∈ digs n → 48 ≤ c.toNat ∧ c.toNat ≤ 57
  | 0, n, hk, h => by
    rw [digs_small (by omega)] at h
    simp only [List.mem_cons, List.not_mem_nil, or_false] at h
    subst h
    rw [dgt_toNat (by omega)]
    omega
  | k + 1, n, hk, h => by
    by_cases hn : n < 10
    · rw [digs_small hn] at h
      simp only [List.mem_cons, List.not_mem_nil, or_false] at h
      subst h
      rw [dgt_toNat (by omega)]
      omega
    · rw [digs_big hn] at h
      simp only [List.mem_append, List.mem_cons, List.not_mem_nil, or_false] at h
      rcases h with h | rfl
      · exact digs_mem k (n / 10) (by omega) h
      · rw [dgt_toNat (by omega)]
        omega
theorem digits_mem {c : UInt8} {n : Int} (h : c ∈ digits n) : c.toNat < 128 := by
  unfold digits at h
  split at h
  · simp only [List.mem_cons] at h
    rcases h with rfl | h
    · decide
    · have := digs_mem _ _ (Nat.le_refl _) h; omega
  · have := digs_mem _ _ (Nat.le_refl _) h; omega
theorem digits_32 {n : Int} (h1 : -2147483648 ≤ n) (h2 : n < 2147483648) : (digits n).length ≤ 11 := by
  have := digs_len 9 n.natAbs (by omega)
  unfold digits
  split <;> (try simp only [List.length_cons]) <;> omega
theorem digits_64 {n : Int} (h1 : -9223372036854775808 ≤ n) (h2 : n ≤ 9223372036854775807) : (digits n).length ≤ 20 := by
  have := digs_len 18 n.natAbs (by omega)
  unfold digits
  split <;> (try simp only [List.length_cons]) <;> omega
end Hx

namespace Hx
open Go
set_option linter.unusedSimpArgs false
set_option linter.unusedVariables false
set_option maxHeartbeats 4000000
variable {E : Env}
attribute [-simp] List.getD_eq_getElem?_getD getElem?_pos
attribute [local simp] intBeq
end Hx

namespace Hx
open Go
set_option linter.unusedSimpArgs false
set_option linter.unusedVariables false
set_option maxHeartbeats 4000000
variable {E : Env}
attribute [-simp] List.getD_eq_getElem?_getD getElem?_pos
theorem ref_Dig1 (h : E.fn 40 = some Fn.f_haulageref05_Digits) (k : Nat) (n : Int) (h1 : 0 ≤ n) (h2 : n < 10) (m : Mem) : denF E (k + 1) 40 [.p (.int .i64 n)] m = some (.ret (.p (.str (digits n))), m) := by
  refine denF_wp h rfl (args' := [.p (.int .i64 n)]) rfl ?_
  have hd : digits n = [dgt n.toNat] := by
    unfold digits
    rw [if_neg (by omega), digs_small (by omega)]
    congr 2
    omega
  rw [hd]
  have : n = 0 ∨ n = 1 ∨ n = 2 ∨ n = 3 ∨ n = 4 ∨ n = 5 ∨ n = 6 ∨ n = 7 ∨ n = 8 ∨ n = 9 := by omega
  have w : ∀ n : Int, 0 ≤ n → n < 11 → IntKind.i64.wrap n = n := fun n a b => wrap_i64 (by omega) (by omega)
  rcases this with rfl | rfl | rfl | rfl | rfl | rfl | rfl | rfl | rfl | rfl <;> simp [Fn.f_haulageref05_Digits, w, dgt, bounds, asNat, asInt]
theorem ref_Dig2 (h : E.fn 40 = some Fn.f_haulageref05_Digits) (k : Nat) (n : Int) (h1 : n < 0) (h2 : -10 < n) (m : Mem) : denF E (k + 2) 40 [.p (.int .i64 n)] m = some (.ret (.p (.str (digits n))), m) := by
  refine denF_wp h rfl (args' := [.p (.int .i64 n)]) rfl ?_
  have hd : digits n = 45 :: digits (-n) := by
    unfold digits
    rw [if_pos h1, if_neg (by omega), Int.natAbs_neg]
  rw [hd]
  have hr := fun m => ref_Dig1 h k (-n) (by omega) (by omega) m
  have w : IntKind.i64.wrap (0 - n) = -n := by rw [wrap_i64] <;> omega
  have w' : IntKind.i64.wrap (- n) = -n := by rw [wrap_i64] <;> omega
  have hl := digits_64 (n := -n) (by omega) (by omega)
  have hb : 1 + (digits (-n)).length ≤ strLim := by unfold strLim; omega
  simp [Fn.f_haulageref05_Digits, h1, h2, w, w', hr, hb]
  try omega
theorem digits_step {n : Int} (h : n ≤ -10 ∨ 10 ≤ n) : digits n = digits (n.tdiv 10) ++ digits ((n.natAbs % 10 : Nat) : Int) := by
  have e2 : digits ((n.natAbs % 10 : Nat) : Int) = [dgt (n.natAbs % 10)] := by
    unfold digits
    rw [if_neg (by omega), Int.natAbs_natCast, digs_small (by omega)]
  rw [e2]
  have e1 : (n.tdiv 10).natAbs = n.natAbs / 10 := by rw [Int.natAbs_tdiv]; rfl
  unfold digits
  rw [digs_big (by omega : ¬ n.natAbs < 10), e1]
  by_cases hn : n < 0
  · have : n.tdiv 10 < 0 := by
      have : n.tdiv 10 = -((-n) / 10) := by
        rw [← Int.tdiv_eq_ediv_of_nonneg (by omega : 0 ≤ -n), Int.neg_tdiv, Int.neg_neg]
      omega
    rw [if_pos hn, if_pos this, List.cons_append]
  · have : ¬ n.tdiv 10 < 0 := by
      rw [Int.tdiv_eq_ediv_of_nonneg (by omega)]
      omega
    rw [if_neg hn, if_neg this]
theorem ref_Digits (h : E.fn 40 = some Fn.f_haulageref05_Digits) : ∀ (j : Nat) (n : Int), n.natAbs < 10 ^ (j + 1) → -9223372036854775808 ≤ n → n ≤ 9223372036854775807 → ∀ (k : Nat) (m : Mem),
    denF E (k + j + 2) 40 [.p (.int .i64 n)] m = some (.ret (.p (.str (digits n))), m) := by
  intro j
  induction j with
  | zero =>
    intro n hn _ _ k m
    by_cases h0 : n < 0
    · exact ref_Dig2 h k n h0 (by omega) m
    · exact ref_Dig1 h (k + 1) n (by omega) (by omega) m
  | succ j ih =>
    intro n hn hlo hhi k m
    by_cases hs : -10 < n ∧ n < 10
    · by_cases h0 : n < 0
      · have := ref_Dig2 h (k + j + 1) n h0 hs.1 m
        exact this
      · have := ref_Dig1 h (k + j + 2) n (by omega) hs.2 m
        exact this
    · have hb : n ≤ -10 ∨ 10 ≤ n := by omega
      have e1 : (n.tdiv 10).natAbs = n.natAbs / 10 := by rw [Int.natAbs_tdiv]; rfl
      have hlt : (n.tdiv 10).natAbs < 10 ^ (j + 1) := by
        rw [e1]
        have e : 10 ^ (j + 1 + 1) = 10 * 10 ^ (j + 1) := by rw [Nat.pow_succ, Nat.mul_comm]
        rw [e] at hn
        exact Nat.div_lt_of_lt_mul hn
      have hA : ∀ m, denF E (k + (j + 1) + 1) 40 [.p (.int .i64 (n.tdiv 10))] m = some (.ret (.p (.str (digits (n.tdiv 10)))), m) := fun m => ih (n.tdiv 10) hlt (by omega) (by omega) k m
      have hB : ∀ m, denF E (k + (j + 1) + 1) 40 [.p (.int .i64 ((n.natAbs % 10 : Nat) : Int))] m = some (.ret (.p (.str (digits ((n.natAbs % 10 : Nat) : Int)))), m) := fun m => ref_Dig1 h (k + j + 1) ((n.natAbs % 10 : Nat) : Int) (by omega) (by omega) m
      have hl1 := digits_64 (n := n) hlo hhi
      have hst := digits_step hb
      have hl : (digits (n.tdiv 10)).length + (digits ((n.natAbs % 10 : Nat) : Int)).length ≤ strLim := by
        have := congrArg List.length hst
        simp only [List.length_append] at this
        unfold strLim
        omega
      rw [hst]
      refine denF_wp h rfl (args' := [.p (.int .i64 n)]) rfl ?_
      have w1 : IntKind.i64.wrap (n.tdiv 10) = n.tdiv 10 := wrap_i64 (by omega) (by omega)
      have n1 : ¬ (-10 < n ∧ n < 0) := by omega
      have n2 : ¬ (0 ≤ n ∧ n < 10) := by omega
      by_cases h0 : n < 0
      · have t1 : n.tmod 10 = -((n.natAbs % 10 : Nat) : Int) := by
          have : n.tmod 10 = -((-n) % 10) := by
            rw [← Int.tmod_eq_emod_of_nonneg (by omega : 0 ≤ -n), Int.neg_tmod, Int.neg_neg]
          omega
        obtain ⟨l, hl0⟩ : ∃ l : Int, l = ((n.natAbs % 10 : Nat) : Int) := ⟨_, rfl⟩
        rw [← hl0] at t1 hB hl ⊢
        have hlr : 0 ≤ l ∧ l < 10 := by omega
        have w2 : IntKind.i64.wrap (0 - -l) = l := by rw [wrap_i64] <;> omega
        have w3 : IntKind.i64.wrap l = l := by rw [wrap_i64] <;> omega
        have g1 : ¬ -10 < n := by omega
        have g2 : ¬ 0 ≤ n := by omega
        by_cases hl1 : l = 0
        · subst hl1
          simp [Fn.f_haulageref05_Digits, g1, g2, w1, w2, w3, t1, hA, hB, hl]
        · have hl2 : 0 < l := by omega
          simp [Fn.f_haulageref05_Digits, g1, g2, w1, w2, w3, t1, hA, hB, hl, hl2]
      · have t1 : n.tmod 10 = ((n.natAbs % 10 : Nat) : Int) := by
          rw [Int.tmod_eq_emod_of_nonneg (by omega)]; omega
        obtain ⟨l, hl0⟩ : ∃ l : Int, l = ((n.natAbs % 10 : Nat) : Int) := ⟨_, rfl⟩
        rw [← hl0] at t1 hB hl ⊢
        have hlr : ¬ l < 0 := by omega
        have g1 : -10 < n := by omega
        have g2 : 0 ≤ n := by omega
        have g3 : ¬ n < 10 := by omega
        simp [Fn.f_haulageref05_Digits, g1, g2, g3, h0, w1, t1, hA, hB, hl, hlr]
theorem ref_Digits' (h : E.fn 40 = some Fn.f_haulageref05_Digits) (n : Int) (h1 : -9223372036854775808 ≤ n) (h2 : n ≤ 9223372036854775807) (k : Nat) (m : Mem) :
    denF E (k + 22) 40 [.p (.int .i64 n)] m = some (.ret (.p (.str (digits n))), m) := by
  have := ref_Digits h 20 n (by omega) h1 h2 k m
  exact this
end Hx

/-
  HxM07b: texts in their order; the least text behind all that begin with one: plain laws.
-/
namespace Hx
def ordL : List UInt8 → List UInt8 → Int
  | [], [] => 0
  | [], _ :: _ => -1
  | _ :: _, [] => 1
  | a :: x, b :: y => if a < b then -1 else if b < a then 1 else ordL x y
theorem ordL_self : ∀ x : List UInt8, ordL x x = 0
  | [] => rfl
  | a :: x => by
    rw [ordL, if_neg (UInt8.lt_irrefl a), if_neg (UInt8.lt_irrefl a), ordL_self x]
theorem ordL_vals : ∀ x y : List UInt8, ordL x y = -1 ∨ ordL x y = 0 ∨ ordL x y = 1
  | [], [] => .inr (.inl rfl)
  | [], _ :: _ => .inl rfl
  | _ :: _, [] => .inr (.inr rfl)
  | a :: x, b :: y => by
    rw [ordL]
    split
    · exact .inl rfl
    split
    · exact .inr (.inr rfl)
    · exact ordL_vals x y
theorem ordL_nil (x : List UInt8) : 0 ≤ ordL x [] := by
  cases x with
  | nil => exact Int.le_refl 0
  | cons => show (0 : Int) ≤ 1; decide
theorem ordL_eq : ∀ {x y : List UInt8}, ordL x y = 0 → x = y
  | [], [], _ => rfl
  | [], _ :: _, h => by cases h
  | _ :: _, [], h => by cases h
  | a :: x, b :: y, h => by
    rw [ordL] at h
    split at h
    · cases h
    split at h
    · cases h
    · have : a = b := by
        apply UInt8.toNat_inj.1
        have h1 : ¬ a.toNat < b.toNat := fun q => by rename_i g _; exact g (UInt8.lt_iff_toNat_lt.2 q)
        have h2 : ¬ b.toNat < a.toNat := fun q => by rename_i g; exact g (UInt8.lt_iff_toNat_lt.2 q)
        omega
      rw [this, ordL_eq h]
theorem ordL_neg : ∀ x y : List UInt8, ordL y x = - ordL x y
  | [], [] => rfl
  | [], _ :: _ => rfl
  | _ :: _, [] => rfl
  | a :: x, b :: y => by
    rw [ordL, ordL, ordL_neg x y]
    by_cases h1 : a < b
    · have : ¬ b < a := fun h => UInt8.lt_irrefl a (UInt8.lt_trans h1 h)
      rw [if_pos h1, if_neg this, if_pos h1]; rfl
    · by_cases h2 : b < a
      · rw [if_pos h2, if_neg h1, if_pos h2]
      · rw [if_neg h1, if_neg h2, if_neg h1, if_neg h2]
end Hx

namespace Hx
open Go
set_option linter.unusedSimpArgs false
set_option linter.unusedVariables false
set_option maxHeartbeats 4000000
variable {E : Env}
attribute [-simp] List.getD_eq_getElem?_getD getElem?_pos
theorem drop_at7 {s : List UInt8} {i : Nat} {c : UInt8} (h : s[i]? = some c) : s.drop i = c :: s.drop (i + 1) := by
  obtain ⟨hi, rfl⟩ := List.getElem?_eq_some_iff.1 h
  exact List.drop_eq_getElem_cons hi
theorem u8_lt {a b : UInt8} : a < b ↔ (a.toNat : Int) < b.toNat := by
  rw [UInt8.lt_iff_toNat_lt]; omega
theorem ref_NOrder (h : E.fn 59 = some Fn.f_haulageref04_Order) (a b : List UInt8) (hs : (a.length : Int) ≤ 1000000000000) (k : Nat) (hk : a.length + 2 ≤ k) (m : Mem) : denF E (k + 1) 59 [.p (.str a), .p (.str b)] m = some (.ret (.p (.int .i64 (ordL a b))), m) := by
  refine denF_wp h rfl (args' := [.p (.str a), .p (.str b)]) rfl ?_
  simp [Fn.f_haulageref04_Order]
  refine (loop_wp (α := Nat) (I := fun i st => (i ≤ a.length ∧ i ≤ b.length ∧ ordL a b = ordL (a.drop i) (b.drop i)) ∧ Live Fn.f_haulageref04_Order_k0 (Fn.f_haulageref04_Order_s0 (.p (.str a)) (.p (.str b)) (.p (.int .i64 i))) [] st) (meas := fun i => a.length - i)
    (Q := fun e st => st.ds = [] ∧ ((e = .exit 0 ∧ st.ts.length = 42 ∧ st.ts.getD 0 (.tup []) = .p (.str a) ∧ st.ts.getD 1 (.tup []) = .p (.str b) ∧ ordL a b = (if a.length < b.length then -1 else if b.length < a.length then 1 else 0)) ∨ (e = .ret ∧ st.ts.getD 4 (.tup []) = .p (.int .i64 (ordL a b))))) ?_ k 0 _ ⟨⟨Nat.zero_le _, Nat.zero_le _, rfl⟩, rfl, rfl, rfl, rfl⟩ (by omega)).mono ?_
  · rintro i st ⟨⟨hi1, hi2, ho⟩, hlive⟩
    rw [loopF_live hlive]
    by_cases ha : i < a.length
    · have ha' : (i : Int) < a.length := by omega
      obtain ⟨x, hx⟩ : ∃ c, a[i]? = some c := ⟨_, List.getElem?_eq_getElem ha⟩
      by_cases hb : i < b.length
      · have hb' : (i : Int) < b.length := by omega
        obtain ⟨y, hy⟩ : ∃ c, b[i]? = some c := ⟨_, List.getElem?_eq_getElem hb⟩
        rw [drop_at7 hx, drop_at7 hy, ordL] at ho
        have hw : IntKind.i64.wrap ((i : Int) + 1) = i + 1 := wrap_i64 (by omega) (by omega)
        by_cases h1 : x < y
        · rw [if_pos h1] at ho
          have h1' := u8_lt.1 h1
          simp [Fn.f_haulageref04_Order_b0, Fn.f_haulageref04_Order_s0, ha, ha', hb, hb', hx, hy, h1', ho]
        · have h1' : ¬ (x.toNat : Int) < y.toNat := fun q => h1 (u8_lt.2 q)
          by_cases h2 : y < x
          · rw [if_neg h1, if_pos h2] at ho
            have h2' := u8_lt.1 h2
            simp [Fn.f_haulageref04_Order_b0, Fn.f_haulageref04_Order_s0, ha, ha', hb, hb', hx, hy, h1', h2', ho]
          · have h2' : ¬ (y.toNat : Int) < x.toNat := fun q => h2 (u8_lt.2 q)
            rw [if_neg h1, if_neg h2] at ho
            simp [Fn.f_haulageref04_Order_b0, Fn.f_haulageref04_Order_s0, ha, ha', hb, hb', hx, hy, h1', h2', hw]
            exact ⟨i + 1, by omega, ⟨by omega, by omega, ho⟩, rfl, rfl, rfl, rfl⟩
      · have hb' : ¬ (i : Int) < b.length := by omega
        have e1 : b.length < a.length := by omega
        rw [List.drop_eq_nil_of_le (by omega : b.length ≤ i), drop_at7 hx, ordL] at ho
        simp [Fn.f_haulageref04_Order_b0, Fn.f_haulageref04_Order_s0, ha, ha', hb, hb', hx, ho]
        rw [if_neg (by omega), if_pos e1]
    · have ha' : ¬ (i : Int) < a.length := by omega
      have hr : ordL a b = (if a.length < b.length then -1 else if b.length < a.length then 1 else 0) := by
        rw [ho, List.drop_eq_nil_of_le (by omega : a.length ≤ i)]
        by_cases hb : i < b.length
        · obtain ⟨y, hy⟩ : ∃ c, b[i]? = some c := ⟨_, List.getElem?_eq_getElem hb⟩
          rw [drop_at7 hy, ordL, if_pos (by omega)]
        · rw [List.drop_eq_nil_of_le (by omega : b.length ≤ i), if_neg (by omega), if_neg (by omega)]
          rfl
      simp [Fn.f_haulageref04_Order_b0, Fn.f_haulageref04_Order_s0, ha, ha', hr]
  · rintro e st ⟨h0, h⟩
    obtain ⟨ts, m', ds⟩ := st
    simp only at h0 h
    subst h0
    rcases h with ⟨rfl, h1, h2, h3, h4⟩ | ⟨rfl, h1⟩
    · match ts, h1, h2, h3 with
      | t0 :: t1 :: t2 :: t3 :: t4 :: t5 :: t6 :: t7 :: t8 :: t9 :: t10 :: t11 :: t12 :: t13 :: t14 :: t15 :: t16 :: t17 :: t18 :: t19 :: t20 :: t21 :: t22 :: t23 :: t24 :: t25 :: t26 :: t27 :: t28 :: t29 :: t30 :: t31 :: t32 :: t33 :: t34 :: t35 :: t36 :: t37 :: t38 :: t39 :: t40 :: t41 :: [], h1, h2, h3 =>
        simp only [getD_zero', getD_succ'] at h2 h3
        subst h2 h3
        rw [h4]
        by_cases e1 : a.length < b.length
        · have e1' : (a.length : Int) < b.length := by omega
          simp [e1, e1']
        · have e1' : ¬ (a.length : Int) < b.length := by omega
          by_cases e2 : b.length < a.length
          · have e2' : (b.length : Int) < a.length := by omega
            simp [e1, e1', e2, e2']
          · have e2' : ¬ (b.length : Int) < a.length := by omega
            simp [e1, e1', e2, e2']
    · simp [h1]
end Hx

namespace Hx
open Go
set_option linter.unusedSimpArgs false
set_option linter.unusedVariables false
set_option maxHeartbeats 4000000
variable {E : Env}
attribute [-simp] List.getD_eq_getElem?_getD getElem?_pos
def ord5 (p q : Int × Int × List UInt8) : Int :=
  if p.1 < q.1 ∨ (p.1 = q.1 ∧ p.2.1 < q.2.1) then -1 else if q.1 < p.1 ∨ (p.1 = q.1 ∧ q.2.1 < p.2.1) then 1 else ordL p.2.2 q.2.2
theorem ord5_0 {p q : Int × Int × List UInt8} (h : ord5 p q = 0) : p = q := by
  unfold ord5 at h
  split at h
  · omega
  split at h
  · omega
  · have := ordL_eq h
    obtain ⟨a, b, c⟩ := p
    obtain ⟨d, e, f⟩ := q
    simp only at *
    have h1 : a = d := by omega
    have h2 : b = e := by omega
    rw [h1, h2, this]
theorem ord5_self (p : Int × Int × List UInt8) : ord5 p p = 0 := by
  unfold ord5
  rw [if_neg (by omega), if_neg (by omega), ordL_self]
theorem ord5_neg (p q : Int × Int × List UInt8) : ord5 q p = - ord5 p q := by
  unfold ord5
  by_cases h1 : p.1 < q.1 ∨ (p.1 = q.1 ∧ p.2.1 < q.2.1)
  · rw [if_pos h1, if_neg (by omega), if_pos (by omega)]; rfl
  · by_cases h2 : q.1 < p.1 ∨ (p.1 = q.1 ∧ q.2.1 < p.2.1)
    · rw [if_neg h1, if_pos h2, if_pos (by omega)]
    · rw [if_neg h1, if_neg h2, if_neg (by omega), if_neg (by omega), ordL_neg]
theorem ord5_vals (p q : Int × Int × List UInt8) : ord5 p q = -1 ∨ ord5 p q = 0 ∨ ord5 p q = 1 := by
  unfold ord5
  split
  · exact .inl rfl
  · split
    · exact .inr (.inr rfl)
    · exact ordL_vals _ _
end Hx
