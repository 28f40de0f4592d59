/-
  HxM05b: the number that a text begins with: plain laws.
-/
import Derived.Test.YtifcegbomagcpaaGreatDoorHxFn06
import Derived.Test.YtifcegbomagcpaaGreatDoorHxSimp
import Derived.Test.YtifcegbomagcpaaGreatDoorHxFn10
namespace Hx
open Go
set_option linter.unusedSimpArgs false
set_option linter.unusedVariables false
set_option maxHeartbeats 4000000
variable {E : Env}
attribute [-simp] List.getD_eq_getElem?_getD getElem?_pos
def letter (c : UInt8) : Bool := decide ((97 : Int) ≤ c.toNat) && decide ((c.toNat : Int) ≤ 122)
def partC (c : UInt8) : Bool := letter c || (decide ((48 : Int) ≤ c.toNat) && decide ((c.toNat : Int) ≤ 57)) || ((c.toNat : Int) == 95)
def nameLen : List UInt8 → Nat
  | [] => 0
  | c :: r => if letter c then 1 + (r.takeWhile partC).length else 0
structure N04 (E : Env) : Prop where
  part : E.fn 65 = some Fn.f_name_part
  read : E.fn 50 = some Fn.f_name_Read
  rletter : E.fn 67 = some Fn.f_haulageref04_letter
  rpart : E.fn 66 = some Fn.f_haulageref04_Part
  rread : E.fn 51 = some Fn.f_haulageref04_Read
theorem name_part (h : E.fn 65 = some Fn.f_name_part) (k : Nat) (c : UInt8) (i : Int) (m : Mem) : denF E (k + 1) 65 [.p (.int .u8 c.toNat), .p (.int .i64 i)] m = some (.ret (.p (.bool (letter c || (partC c && decide (0 < i))))), m) := by
  refine denF_wp h rfl (args' := [.p (.int .u8 c.toNat), .p (.int .i64 i)]) rfl ?_
  unfold partC letter
  generalize (c.toNat : Int) = x
  by_cases h1 : (97 : Int) ≤ x
  · by_cases h2 : x ≤ 122
    · simp [Fn.f_name_part, h1, h2]
    · have h3 : (48 : Int) ≤ x := by omega
      have h4 : ¬ x ≤ 57 := by omega
      have h5 : (x == 95) = false := by simp; omega
      simp [Fn.f_name_part, h1, h2, h3, h4, h5]
  · by_cases h3 : (48 : Int) ≤ x
    · by_cases h4 : x ≤ 57
      · simp [Fn.f_name_part, h1, h3, h4]
      · cases h5 : (x == 95) <;> simp [Fn.f_name_part, h1, h3, h4, h5]
    · have h5 : (x == 95) = false := by simp; omega
      simp [Fn.f_name_part, h1, h3, h5]
theorem ref_letter (h : E.fn 67 = some Fn.f_haulageref04_letter) (k : Nat) (c : UInt8) (m : Mem) : denF E (k + 1) 67 [.p (.int .u8 c.toNat)] m = some (.ret (.p (.bool (letter c))), m) := by
  refine denF_wp h rfl (args' := [.p (.int .u8 c.toNat)]) rfl ?_
  unfold letter
  generalize (c.toNat : Int) = x
  by_cases h1 : (97 : Int) ≤ x <;> simp [Fn.f_haulageref04_letter, h1]
theorem ref_part (u : N04 E) (k : Nat) (c : UInt8) (m : Mem) : denF E (k + 2) 66 [.p (.int .u8 c.toNat)] m = some (.ret (.p (.bool (partC c))), m) := by
  refine denF_wp u.rpart rfl (args' := [.p (.int .u8 c.toNat)]) rfl ?_
  have hl := fun m => ref_letter u.rletter k c m
  unfold partC
  generalize letter c = l at *
  generalize (c.toNat : Int) = x at *
  cases l
  · by_cases h3 : (48 : Int) ≤ x
    · by_cases h4 : x ≤ 57
      · simp [Fn.f_haulageref04_Part, hl, h3, h4]
      · simp [Fn.f_haulageref04_Part, hl, h3, h4]
    · simp [Fn.f_haulageref04_Part, hl, h3]
  · simp [Fn.f_haulageref04_Part, hl]
def NameFar (s : List UInt8) (i : Nat) : Prop := i ≤ s.length ∧ (i = 0 ∨ nameLen s = i + ((s.drop i).takeWhile partC).length)
theorem drop_at {s : List UInt8} {i : Nat} {c : UInt8} (h : s[i]? = some c) : s.drop i = c :: s.drop (i + 1) := by
  obtain ⟨hi, rfl⟩ := List.getElem?_eq_some_iff.1 h
  exact List.drop_eq_getElem_cons hi
theorem letter_part {c : UInt8} (h : letter c = true) : partC c = true := by unfold partC; rw [h]; rfl
theorem name_next {s : List UInt8} {i : Nat} {c : UInt8} (h : NameFar s i) (hc : s[i]? = some c) (hp : (letter c || (partC c && decide (0 < i))) = true) : NameFar s (i + 1) := by
  obtain ⟨h1, h2⟩ := h
  have hlt : i < s.length := (List.getElem?_eq_some_iff.1 hc).1
  refine ⟨hlt, .inr ?_⟩
  rcases h2 with rfl | h2
  · have hl : letter c = true := by simpa using hp
    cases s with
    | nil => simp at hlt
    | cons d r =>
      simp at hc
      subst hc
      simp [nameLen, hl]
  · rw [h2, drop_at hc, List.takeWhile_cons]
    have : partC c = true := by
      cases hl : letter c with
      | true => exact letter_part hl
      | false => rw [hl] at hp; simp at hp; exact hp.1
    rw [if_pos this, List.length_cons]
    omega
theorem name_stop {s : List UInt8} {i : Nat} {c : UInt8} (h : NameFar s i) (hc : s[i]? = some c) (hp : (letter c || (partC c && decide (0 < i))) = false) : nameLen s = i := by
  obtain ⟨h1, h2⟩ := h
  have hlt : i < s.length := (List.getElem?_eq_some_iff.1 hc).1
  simp only [Bool.or_eq_false_iff] at hp
  obtain ⟨hl, hp⟩ := hp
  by_cases hi : i = 0
  · subst hi
    cases s with
    | nil => simp at hlt
    | cons d r =>
      simp at hc
      subst hc
      simp [nameLen, hl]
  · rcases h2 with h2 | h2
    · exact absurd h2 hi
    · rw [h2, drop_at hc, List.takeWhile_cons]
      have : partC c = false := by
        cases hq : partC c with
        | false => rfl
        | true => rw [hq] at hp; simp at hp; omega
      rw [this]
      simp
theorem name_end {s : List UInt8} (h : NameFar s s.length) : nameLen s = s.length := by
  obtain ⟨h1, h2⟩ := h
  rcases h2 with h2 | h2
  · have : s = [] := List.length_eq_zero_iff.1 h2
    subst this
    rfl
  · rw [h2, List.drop_length]
    simp
theorem name_Read (u : N04 E) (s : List UInt8) (hs : (s.length : Int) ≤ 1000000000000) (k : Nat) (hk : s.length + 4 ≤ k) (m : Mem) : denF E (k + 1) 50 [.p (.str s)] m = some (.ret (.p (.int .i64 (nameLen s))), m) := by
  refine denF_wp u.read rfl (args' := [.p (.str s)]) rfl ?_
  obtain ⟨j, rfl⟩ : ∃ j, k = j + 1 := ⟨k - 1, by omega⟩
  simp [Fn.f_name_Read]
  refine (loop_wp (α := Nat) (I := fun i st => NameFar s i ∧ Live Fn.f_name_Read_k0 (Fn.f_name_Read_s0 (.p (.str s)) (.p (.int .i64 s.length)) (.p (.int .i64 i))) [] st) (meas := fun i => s.length - i)
    (Q := fun e st => st.ds = [] ∧ ((e = .exit 0 ∧ st.ts.length = 19 ∧ nameLen s = s.length ∧ st.ts.getD 0 (.tup []) = .p (.str s)) ∨ (e = .ret ∧ st.ts.getD 2 (.tup []) = .p (.int .i64 (nameLen s))))) ?_ (j + 1) 0 _ ⟨⟨Nat.zero_le _, .inl rfl⟩, rfl, rfl, rfl, rfl⟩ (by omega)).mono ?_
  · rintro i st ⟨hf, hlive⟩
    rw [loopF_live hlive]
    by_cases hi : i < s.length
    · have hi' : (i : Int) < s.length := by omega
      obtain ⟨c, hc⟩ : ∃ c, s[i]? = some c := ⟨_, List.getElem?_eq_getElem hi⟩
      have hp := fun m => name_part u.part j c i m
      have hw : IntKind.i64.wrap ((i : Int) + 1) = i + 1 := wrap_i64 (by omega) (by omega)
      cases hq : (letter c || (partC c && decide (0 < i))) with
      | true =>
        have hn := name_next hf hc hq
        have hq' : (letter c || (partC c && decide ((0 : Int) < i))) = true := by rw [← hq]; simp
        rw [hq'] at hp
        simp [Fn.f_name_Read_b0, Fn.f_name_Read_s0, hi, hi', hc, hp, hw]
        exact ⟨i + 1, by omega, hn, rfl, rfl, rfl, rfl⟩
      | false =>
        have hn := name_stop hf hc hq
        have hq' : (letter c || (partC c && decide ((0 : Int) < i))) = false := by rw [← hq]; simp
        rw [hq'] at hp
        simp [Fn.f_name_Read_b0, Fn.f_name_Read_s0, hi, hi', hc, hp, hn]
    · have hi' : ¬ (i : Int) < s.length := by omega
      have hn : i = s.length := by have := hf.1; omega
      subst hn
      have := name_end hf
      simp [Fn.f_name_Read_b0, Fn.f_name_Read_s0, this]
  · rintro e st ⟨h0, h⟩
    obtain ⟨ts, m', ds⟩ := st
    simp only at h0 h
    rcases h with ⟨rfl, h1, h2, h3⟩ | ⟨rfl, h3⟩
    · match ts, h1, h3 with
      | t0 :: t1 :: t2 :: t3 :: t4 :: t5 :: t6 :: t7 :: t8 :: t9 :: t10 :: t11 :: t12 :: t13 :: t14 :: t15 :: t16 :: t17 :: t18 :: [], h1, h3 =>
        simp at h3
        simp [h0, h2, h3]
    · simp [h0, h3]
theorem ref_NRead (u : N04 E) (s : List UInt8) (hs : (s.length : Int) ≤ 1000000000000) (k : Nat) (hk : s.length + 4 ≤ k) (m : Mem) : denF E (k + 1) 51 [.p (.str s)] m = some (.ret (.p (.int .i64 (nameLen s))), m) := by
  refine denF_wp u.rread rfl (args' := [.p (.str s)]) rfl ?_
  obtain ⟨j, rfl⟩ : ∃ j, k = j + 2 := ⟨k - 2, by omega⟩
  simp [Fn.f_haulageref04_Read]
  refine (loop_wp (α := Nat) (I := fun i st => NameFar s i ∧ Live Fn.f_haulageref04_Read_k0 (Fn.f_haulageref04_Read_s0 (.p (.str s)) (.p (.int .i64 i))) [] st) (meas := fun i => s.length - i)
    (Q := fun e st => st.ds = [] ∧ e = .exit 0 ∧ st.ts.length = 26 ∧ st.ts.getD 3 (.tup []) = .p (.int .i64 (nameLen s))) ?_ (j + 2) 0 _ ⟨⟨Nat.zero_le _, .inl rfl⟩, rfl, rfl, rfl, rfl⟩ (by omega)).mono ?_
  · rintro i st ⟨hf, hlive⟩
    rw [loopF_live hlive]
    by_cases hi : i < s.length
    · have hi' : (i : Int) < s.length := by omega
      obtain ⟨c, hc⟩ : ∃ c, s[i]? = some c := ⟨_, List.getElem?_eq_getElem hi⟩
      obtain ⟨d, hd⟩ : ∃ d, s[0]? = some d := ⟨_, List.getElem?_eq_getElem (by omega)⟩
      have hp := fun m => ref_part u j c m
      have hl := fun m => ref_letter u.rletter (j + 1) d m
      have hw : IntKind.i64.wrap ((i : Int) + 1) = i + 1 := wrap_i64 (by omega) (by omega)
      by_cases h0 : i = 0
      · subst h0
        rw [hc] at hd
        obtain rfl := Option.some.inj hd
        cases hq : letter c with
        | true =>
          have hn := name_next hf hc (by rw [hq]; rfl)
          rw [letter_part hq] at hp
          rw [hq] at hl
          have hw1 : IntKind.i64.wrap 1 = 1 := rfl
          simp [Fn.f_haulageref04_Read_b0, Fn.f_haulageref04_Read_s0, hi, hi', hc, hp, hl, hw1]
          exact ⟨1, by omega, hn, rfl, rfl, rfl, rfl⟩
        | false =>
          have hn := name_stop hf hc (by rw [hq]; simp)
          rw [hq] at hl
          cases hr : partC c <;> rw [hr] at hp <;> simp [Fn.f_haulageref04_Read_b0, Fn.f_haulageref04_Read_s0, hi, hi', hc, hp, hl, hn]
      · have h0' : (0 : Int) < i := by omega
        have h0'' : 0 < i := by omega
        cases hr : partC c with
        | true =>
          have hn := name_next hf hc (by rw [hr]; simp [h0''])
          rw [hr] at hp
          simp [Fn.f_haulageref04_Read_b0, Fn.f_haulageref04_Read_s0, hi, hi', hc, hp, hw, h0', h0'']
          exact ⟨i + 1, by omega, hn, rfl, rfl, rfl, rfl⟩
        | false =>
          have hlc : letter c = false := by
            cases hq : letter c with
            | false => rfl
            | true => rw [letter_part hq] at hr; cases hr
          have hn := name_stop hf hc (by rw [hr, hlc]; rfl)
          rw [hr] at hp
          simp [Fn.f_haulageref04_Read_b0, Fn.f_haulageref04_Read_s0, hi, hi', hc, hp, hn]
    · have hi' : ¬ (i : Int) < s.length := by omega
      have hn : i = s.length := by have := hf.1; omega
      subst hn
      have := name_end hf
      simp [Fn.f_haulageref04_Read_b0, Fn.f_haulageref04_Read_s0, this]
  · rintro e st ⟨h0, rfl, h1, h3⟩
    obtain ⟨ts, m', ds⟩ := st
    simp only at h0 h1 h3
    match ts, h1, h3 with
    | t0 :: t1 :: t2 :: t3 :: t4 :: t5 :: t6 :: t7 :: t8 :: t9 :: t10 :: t11 :: t12 :: t13 :: t14 :: t15 :: t16 :: t17 :: t18 :: t19 :: t20 :: t21 :: t22 :: t23 :: t24 :: t25 :: [], h1, h3 =>
      simp at h3
      simp [h0, h3]
end Hx

namespace Hx
open Go
inductive PR (α : Type) where
  | bad (e : Int) (r : List UInt8)
  | ok (v : α) (r : List UInt8)
def PR.bind {α β : Type} (p : PR α) (f : α → List UInt8 → PR β) : PR β := match p with
  | .bad e r => .bad e r
  | .ok v r => f v r
def isBl (c : UInt8) : Bool := (c.toNat : Int) == 32 || ((c.toNat : Int) == 9 || (c.toNat : Int) == 10)
def skipB (r : List UInt8) : List UInt8 := r.dropWhile isBl
def wordOf (r : List UInt8) : List UInt8 := r.take (nameLen r)
def rightN (w : List UInt8) : Bool := !w.isEmpty && (decide (w.length ≤ 16) && decide (nameLen w = w.length))
def pName (r : List UInt8) : PR (List UInt8) :=
  if wordOf (skipB r) = [] then .bad 5 (skipB r) else if rightN (wordOf (skipB r)) then .ok (wordOf (skipB r)) ((skipB r).drop (wordOf (skipB r)).length) else .bad 8 (skipB r)
def pTake (w r : List UInt8) : Bool × List UInt8 := if wordOf (skipB r) = w then (true, (skipB r).drop w.length) else (false, skipB r)
def pSign (c : UInt8) (r : List UInt8) : Bool × List UInt8 := if (skipB r).head? = some c then (true, (skipB r).tail) else (false, skipB r)
def pWantS (c : UInt8) (r : List UInt8) : PR Unit := if (skipB r).head? = some c then .ok () (skipB r).tail else .bad 5 (skipB r)
def placeOf10 (s r : List UInt8) : Nat := s.length - r.length
end Hx

namespace Hx
open Go
set_option linter.unusedSimpArgs false
set_option linter.unusedVariables false
set_option maxHeartbeats 4000000
variable {E : Env}
attribute [-simp] List.getD_eq_getElem?_getD getElem?_pos
def rdCells (s : List UInt8) (i : Nat) : Blk := .cells [.p (.str s), .p (.int .i64 i)]
end Hx

namespace Hx
open Go
section
variable {E : Env} {call : Caller} {dst : Option Nat} {g : Option (Nat × Bool)} {c : Nat} {r : List XOper} {st : St}
@[simp] theorem ops_panic {x : X} : denOpers E call none (⟨dst, .panic x, g, c⟩ :: r) st = match wants st.ts g with
    | none => none
    | some false => denOpers E call none r ⟨putT st.ts dst (.tup []), st.m, st.ds⟩
    | some true => match evX E st.ts x with
      | .p (.iface t v) => some (.pan (.p (.iface t v)), st)
      | .iface t v => some (.pan (.iface t v), st)
      | _ => none := by
  rw [denOpers, denOper]
  cases wants st.ts g with
  | none => rfl
  | some b =>
    cases b with
    | false => rfl
    | true =>
      simp only [Option.isSome_none, cond_false]
      generalize evX E st.ts x = q
      cases q with
      | p v => cases v <;> rfl
      | _ => rfl
@[simp] theorem ops_dfr {f : X} {args : List X} : denOpers E call none (⟨dst, .dfr f args, g, c⟩ :: r) st = match wants st.ts g with
    | none => none
    | some false => denOpers E call none r ⟨putT st.ts dst (.tup []), st.m, st.ds⟩
    | some true => match fnOf (evX E st.ts f) with
      | none => none
      | some _ => denOpers E call none r ⟨putT st.ts dst (.tup []), st.m, (evX E st.ts f, args.map (evX E st.ts)) :: st.ds⟩ := by
  rw [denOpers, denOper]
  cases wants st.ts g with
  | none => rfl
  | some b =>
    cases b with
    | false => rfl
    | true =>
      simp only [Option.isSome_none, cond_false]
      cases fnOf (evX E st.ts f) <;> rfl
end
end Hx

namespace Hx
open Go
set_option linter.unusedSimpArgs false
set_option linter.unusedVariables false
set_option maxHeartbeats 4000000
variable {E : Env}
attribute [-simp] List.getD_eq_getElem?_getD getElem?_pos
structure R10 (E : Env) : Prop where
  n04 : N04 E
  left : E.fn 239 = some Fn.f_ddltext_reader_left
  bad : E.fn 240 = some Fn.f_ddltext_bad
  peek : E.fn 251 = some Fn.f_ddltext_reader_peek
  take : E.fn 272 = some Fn.f_ddltext_reader_take
  want : E.fn 254 = some Fn.f_ddltext_reader_want
  sign : E.fn 271 = some Fn.f_ddltext_reader_sign
  name : E.fn 252 = some Fn.f_ddltext_reader_name
  nright : E.fn 270 = some Fn.f_name_Right
def rdB (s r : List UInt8) : Blk := rdCells s (placeOf10 s r)
def flt (e : Int) : AV := .p (.iface 2 (.agg [.int .i64 e]))
def PR.out {α : Type} (f : α → AV) : PR α → Out
  | .bad e _ => .pan (flt e)
  | .ok v _ => .ret (f v)
def PR.rest {α : Type} : PR α → List UInt8
  | .bad _ r => r
  | .ok _ r => r
end Hx

namespace Hx
open Go
set_option linter.unusedSimpArgs false
set_option linter.unusedVariables false
set_option maxHeartbeats 4000000
variable {E : Env}
attribute [-simp] List.getD_eq_getElem?_getD getElem?_pos
theorem name_Right (u : R10 E) (w : List UInt8) (hw : (w.length : Int) ≤ 1000000000) (k : Nat) (hk : w.length + 5 ≤ k) (m : Mem) :
    denF E (k + 1) 270 [.p (.str w)] m = some (.ret (.p (.bool (rightN w))), m) := by
  refine denF_wp u.nright rfl (args' := [.p (.str w)]) rfl ?_
  obtain ⟨j, rfl⟩ : ∃ j, k = j + 1 := ⟨k - 1, by omega⟩
  have hN := fun m => name_Read u.n04 w (by omega) j (by omega) m
  unfold rightN
  cases w with
  | nil => simp [Fn.f_name_Right, bne]
  | cons c w =>
    by_cases h : (c :: w).length ≤ 16
    · have h1 : decide (((c :: w).length : Int) ≤ 16) = true := by simpa using (by omega : ((c :: w).length : Int) ≤ 16)
      have h2 : ((nameLen (c :: w) : Int) == ((c :: w).length : Int)) = decide (nameLen (c :: w) = (c :: w).length) := by
        by_cases h3 : nameLen (c :: w) = (c :: w).length
        · rw [h3]; simp
        · rw [decide_eq_false h3]; simpa using (by omega : ¬ ((nameLen (c :: w) : Int) = ((c :: w).length : Int)))
      generalize hq : c :: w = q at *
      have hb : (q == []) = false := by subst hq; rfl
      have he : q.isEmpty = false := by subst hq; rfl
      have h1' : ((q.length : Int) ≤ 16) := by omega
      simp [Fn.f_name_Right, hN, hb, he, h, h1', h2, bne]
    · generalize hq : c :: w = q at *
      have hb : (q == []) = false := by subst hq; rfl
      have he : q.isEmpty = false := by subst hq; rfl
      have h1' : ¬ ((q.length : Int) ≤ 16) := by omega
      simp [Fn.f_name_Right, hN, hb, he, h, h1', bne]
end Hx

/-
  HxM05: the digits of a number: plain laws.
-/
namespace Hx
def dgt (d : Nat) : UInt8 := UInt8.ofNat (48 + d)
def digs (n : Nat) : List UInt8 := if n < 10 then [dgt n] else digs (n / 10) ++ [dgt (n % 10)]
termination_by n
decreasing_by omega
def digits (n : Int) : List UInt8 := if n < 0 then 45 :: digs n.natAbs else digs n.natAbs
theorem digs_small {n : Nat} (h : n < 10) : digs n = [dgt n] := by rw [digs, if_pos h]
theorem digs_big {n : Nat} (h : ¬ n < 10) : digs n = digs (n / 10) ++ [dgt (n % 10)] := by rw [digs, if_neg h]
theorem digs_ne (n : Nat) : digs n ≠ [] := by
  by_cases h : n < 10
  · rw [digs_small h]; simp
  · rw [digs_big h]; simp
theorem digs_pos (n : Nat) : 0 < (digs n).length := by
  cases h : digs n with
  | nil => exact absurd h (digs_ne n)
  | cons => simp
theorem digs_len : ∀ (k n : Nat), n < 10 ^ (k + 1) → (digs n).length ≤ k + 1
  | 0, n, h => by
    rw [digs_small (by simpa using h)]
    simp
  | k + 1, n, h => by
    by_cases hn : n < 10
    · rw [digs_small hn]; simp
    · rw [digs_big hn, List.length_append]
      have := digs_len k (n / 10) (by
        have e : 10 ^ (k + 1 + 1) = 10 * 10 ^ (k + 1) := by rw [Nat.pow_succ, Nat.mul_comm]
        rw [e] at h
        exact Nat.div_lt_of_lt_mul h)
      simp only [List.length_cons, List.length_nil]
      omega
theorem dgt_toNat {d : Nat} (h : d < 10) : (dgt d).toNat = 48 + d := by
  unfold dgt
  rw [UInt8.toNat_ofNat']
  omega
theorem digits_64 {n : Int} (h1 : -9223372036854775808 ≤ n) (h2 : n ≤ 9223372036854775807) : (digits n).length ≤ 20 := by
  have := digs_len 18 n.natAbs (by omega)
  unfold digits
  split <;> (try simp only [List.length_cons]) <;> omega
theorem digits_ne (n : Int) : digits n ≠ [] := by
  unfold digits
  split
  · simp
  · exact digs_ne _
end Hx

namespace Hx
def isDig (c : UInt8) : Bool := decide (48 ≤ c.toNat) && decide (c.toNat ≤ 57)
def dval (c : UInt8) : Nat := c.toNat - 48
def stepD (a : Nat) (c : UInt8) : Nat := 10 * a + dval c
def numVal (a : Nat) (x : List UInt8) : Nat := x.foldl stepD a
end Hx
