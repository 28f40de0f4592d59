/-
  HxV05m: the value that a text begins with, and is, as both the program and the document read it; the law ValueReads on the evaluator.
-/
import Derived.Test.YtifcegbomagcpaaDoorHxV05k
namespace Hx
open Go
set_option linter.unusedSimpArgs false
set_option linter.unusedVariables false
set_option maxHeartbeats 8000000
set_option maxRecDepth 20000
variable {E : Env}
attribute [-simp] List.getD_eq_getElem?_getD getElem?_pos
def hexAt (s : List UInt8) (i : Nat) (c : UInt8) : Bool := decide (i + 2 ≤ s.length) && ((s.take (i + 2)).drop i == hexC c)
theorem hexAt_iff {s : List UInt8} {i : Nat} {c : UInt8} : hexAt s i c = true ↔ stepH (s.drop i) = some c := by
  have e : (s.take (i + 2)).drop i = (s.drop i).take 2 := by rw [List.drop_take]; congr 1; omega
  unfold hexAt
  rw [e]
  simp only [Bool.and_eq_true, decide_eq_true_eq, beq_iff_eq]
  constructor
  · rintro ⟨h1, h2⟩
    have := stepH_hex c ((s.drop i).drop 2)
    rwa [← h2, List.take_append_drop] at this
  · intro h
    obtain ⟨h1, h2⟩ := stepH_some h
    rw [List.length_drop] at h2
    exact ⟨by omega, h1⟩
theorem hexAt_no {s : List UInt8} {i : Nat} (h : ∀ c : Nat, c < 256 → hexAt s i (UInt8.ofNat c) = false) : stepH (s.drop i) = none := by
  cases hs : stepH (s.drop i) with
  | none => rfl
  | some x =>
    have := h x.toNat (UInt8.toNat_lt x)
    rw [UInt8.ofNat_toNat, hexAt_iff.2 hs] at this
    cases this
def RhIn (s acc : List UInt8) (i c : Nat) (st : St) : Prop := ∃ m, c ≤ 256 ∧ ((Live Fn.f_haulageref05_unhex_k1 (Fn.f_haulageref05_unhex_s1 (.p (.str s)) (.p (.str acc)) (.p (.int .i64 i)) (.p (.bool false)) (.p (.int .i64 c))) m st ∧ ∀ x, x < c → hexAt s i (UInt8.ofNat x) = false) ∨
  (∃ x, stepH (s.drop i) = some x ∧ Live Fn.f_haulageref05_unhex_k1 (Fn.f_haulageref05_unhex_s1 (.p (.str s)) (.p (.str (acc ++ [x]))) (.p (.int .i64 ((i + 2 : Nat) : Int))) (.p (.bool true)) (.p (.int .i64 c))) m st))
theorem ref_unhex_in (u : H05 E) (s acc : List UInt8) (i : Nat) (hs : (s.length : Int) ≤ 1000000000) (hi : i < s.length) (ha : acc.length ≤ i) (K : Nat) (hK : 260 ≤ K) (m : Mem) (st : St)
    (hst : Live Fn.f_haulageref05_unhex_k1 (Fn.f_haulageref05_unhex_s1 (.p (.str s)) (.p (.str acc)) (.p (.int .i64 i)) (.p (.bool false)) (.p (.int .i64 0))) m st) :
    Wp (iter (loopF E (denF E K) K Fn.f_haulageref05_unhex_k1 Fn.f_haulageref05_unhex_b1) K st)
      (fun e st => e = .exit 2 ∧ st.ds = [] ∧ st.ts.length = 60 ∧ st.ts.getD 0 (.tup []) = .p (.str s) ∧
        ((stepH (s.drop i) = none ∧ st.ts.getD 7 (.tup []) = .p (.bool false)) ∨
         (∃ x, stepH (s.drop i) = some x ∧ st.ts.getD 7 (.tup []) = .p (.bool true) ∧ st.ts.getD 5 (.tup []) = .p (.str (acc ++ [x])) ∧ st.ts.getD 6 (.tup []) = .p (.int .i64 ((i + 2 : Nat) : Int))))) := by
  obtain ⟨j, rfl⟩ : ∃ j, K = j + 1 := ⟨K - 1, by omega⟩
  refine loop_wp (α := Nat) (I := fun c st => RhIn s acc i c st) (meas := fun c => 257 - c) ?_ (j + 1) 0 st ⟨m, by omega, .inl ⟨hst, by intro x hx; omega⟩⟩ (by omega)
  rintro c st ⟨m, hc, ⟨hlive, hno⟩ | ⟨x, hx, hlive⟩⟩
  · rw [loopF_live hlive]
    by_cases hc2 : c < 256
    · have hc' : (c : Int) < 256 := by omega
      have w1 : IntKind.u8.wrap (c : Int) = c := wrap_u8 (by omega) (by omega)
      have w2 : IntKind.i64.wrap ((c : Int) + 1) = ((c + 1 : Nat) : Int) := by rw [wrap_i64 (by omega) (by omega)]; omega
      have w3 : IntKind.i64.wrap ((i : Int) + 2) = ((i + 2 : Nat) : Int) := by rw [wrap_i64 (by omega) (by omega)]; omega
      have hO := fun m => ref_hex u [UInt8.ofNat c] (by simp) j (by simp; omega) m
      have eh : hexes [UInt8.ofNat c] = hexC (UInt8.ofNat c) := by simp [hexes]
      rw [eh] at hO
      have f1 := u.rhex
      have p1 : Fn.f_haulageref05_hex.pure = true := rfl
      have hle : i ≤ i + 2 := by omega
      by_cases hl : i + 2 ≤ s.length
      · have hl' : ((i + 2 : Nat) : Int) ≤ s.length := by omega
        have hA : hexAt s i (UInt8.ofNat c) = ((s.take (i + 2)).drop i == hexC (UInt8.ofNat c)) := by unfold hexAt; simp [hl]
        cases hq : hexAt s i (UInt8.ofNat c) with
        | false =>
          rw [hq] at hA
          simp [Fn.f_haulageref05_unhex_b1, Fn.f_haulageref05_unhex_s1, hc', w1, w2, w3, hO, hle, hl, hl', f1, p1, ← hA, unBytes, unByte, -Int.natCast_add]
          refine ⟨c + 1, by omega, _, hc2, .inl ⟨⟨rfl, by simp [keep, Fn.f_haulageref05_unhex_k1, Fn.f_haulageref05_unhex_s1], rfl, rfl⟩, ?_⟩⟩
          intro x hx
          by_cases hxc : x = c
          · subst hxc; exact hq
          · exact hno x (by omega)
        | true =>
          rw [hq] at hA
          have hst := hexAt_iff.1 hq
          have hlim : acc.length + 1 ≤ strLim := by unfold strLim; omega
          simp [Fn.f_haulageref05_unhex_b1, Fn.f_haulageref05_unhex_s1, hc', w1, w2, w3, hO, hle, hl, hl', f1, p1, ← hA, unBytes, unByte, hlim, -Int.natCast_add]
          exact ⟨c + 1, by omega, _, hc2, .inr ⟨_, hst, ⟨rfl, by simp [keep, Fn.f_haulageref05_unhex_k1, Fn.f_haulageref05_unhex_s1], rfl, rfl⟩⟩⟩
      · have hl' : ¬ ((i + 2 : Nat) : Int) ≤ s.length := by omega
        have hq : hexAt s i (UInt8.ofNat c) = false := by unfold hexAt; simp [hl]
        simp [Fn.f_haulageref05_unhex_b1, Fn.f_haulageref05_unhex_s1, hc', w1, w2, w3, hl', f1, p1, unBytes, unByte, -Int.natCast_add]
        refine ⟨c + 1, by omega, _, hc2, .inl ⟨⟨rfl, by simp [keep, Fn.f_haulageref05_unhex_k1, Fn.f_haulageref05_unhex_s1], rfl, rfl⟩, ?_⟩⟩
        intro x hx
        by_cases hxc : x = c
        · subst hxc; exact hq
        · exact hno x (by omega)
    · have hc' : ¬ (c : Int) < 256 := by omega
      have hnone := hexAt_no (s := s) (i := i) (fun x hx => hno x (by omega))
      simp [Fn.f_haulageref05_unhex_b1, Fn.f_haulageref05_unhex_s1, hc', hnone]
  · rw [loopF_live hlive]
    by_cases hc2 : (c : Int) < 256
    · simp [Fn.f_haulageref05_unhex_b1, Fn.f_haulageref05_unhex_s1, hc2, hx]
    · simp [Fn.f_haulageref05_unhex_b1, Fn.f_haulageref05_unhex_s1, hc2, hx]
def RhInv (s : List UInt8) (i : Nat) (st : St) : Prop := ∃ (acc : List UInt8) (m : Mem), i ≤ s.length ∧ acc.length ≤ i ∧ unh [] 0 s = unh acc i (s.drop i) ∧ Live Fn.f_haulageref05_unhex_k0 (Fn.f_haulageref05_unhex_s0 (.p (.str s)) (.p (.str acc)) (.p (.int .i64 i))) m st
theorem RhInv.mk {s : List UInt8} {i : Nat} {st : St} (acc : List UInt8) (m : Mem) (h0 : i ≤ s.length) (h1 : acc.length ≤ i) (h2 : unh [] 0 s = unh acc i (s.drop i)) (h3 : Live Fn.f_haulageref05_unhex_k0 (Fn.f_haulageref05_unhex_s0 (.p (.str s)) (.p (.str acc)) (.p (.int .i64 i))) m st) : RhInv s i st := ⟨acc, m, h0, h1, h2, h3⟩
theorem ref_unhex (u : H05 E) (h54 : E.fn 54 = some Fn.f_haulageref05_unhex) (s : List UInt8) (hs : (s.length : Int) ≤ 1000000000) (k : Nat) (hk : s.length + 260 ≤ k) (m : Mem) : denF E (k + 1) 54 [.p (.str s)] m = some (.ret (.tup [.p (.str (unh [] 0 s).1), .p (.int .i64 (unh [] 0 s).2.1), .p (.bool (unh [] 0 s).2.2)]), m) := by
  refine denF_wp h54 rfl (args' := [.p (.str s)]) rfl ?_
  simp [Fn.f_haulageref05_unhex]
  refine (loop_wp (α := Nat) (I := fun i st => RhInv s i st) (meas := fun i => s.length - i)
    (Q := fun e st => st.ds = [] ∧ ((e = .exit 0 ∧ st.ts.length = 60 ∧ st.ts.getD 0 (.tup []) = .p (.str s) ∧ (∃ acc i, st.ts.getD 5 (.tup []) = .p (.str acc) ∧ st.ts.getD 6 (.tup []) = .p (.int .i64 ((i : Nat) : Int)) ∧ unh [] 0 s = (acc, i, decide (i < s.length)))) ∨
      (e = .ret ∧ unh [] 0 s = ([], 0, false) ∧ st.ts.getD 2 (.tup []) = .p (.str []) ∧ st.ts.getD 3 (.tup []) = .p (.int .i64 0) ∧ st.ts.getD 4 (.tup []) = .p (.bool false)))) ?_ k 0 _ (RhInv.mk [] [] (by omega) (by simp) rfl ⟨rfl, rfl, rfl, rfl⟩) (by omega)).mono ?_
  · rintro i st ⟨D, m, hi0, hDl, hU, hlive⟩
    rw [loopF_live hlive]
    by_cases hi : i < s.length
    · have hi' : (i : Int) < s.length := by omega
      obtain ⟨c, hc⟩ : ∃ c, s[i]? = some c := ⟨_, List.getElem?_eq_getElem hi⟩
      have hdrop : s.drop i = c :: s.drop (i + 1) := drop_at hc
      have g34 : ((34 : UInt8).toNat : Int) = 34 := rfl
      by_cases c34 : c = 34
      · subst c34
        rw [unh_quote (s := s.drop i) (by rw [hdrop]; rfl)] at hU
        simp [Fn.f_haulageref05_unhex_b0, Fn.f_haulageref05_unhex_s0, hi, hi', hc, bne]
        exact ⟨i, rfl, by rw [hU]; simp [hi]⟩
      have g := u8ne c34
      rw [g34] at g
      have hn34 : ¬ (s.drop i).head? = some 34 := by
        rw [head_at, hc]
        simpa using c34
      have hne : s.drop i ≠ [] := by rw [hdrop]; simp
      simp [Fn.f_haulageref05_unhex_b0, Fn.f_haulageref05_unhex_s0, hi, hi', hc, bne, g]
      refine (ref_unhex_in u s D i hs hi hDl k (by omega) m _ ⟨rfl, rfl, rfl, rfl⟩).mono ?_
      rintro e st ⟨rfl, q1, q2, q3, q4⟩
      obtain ⟨ts, m', ds⟩ := st
      simp only at q1 q2 q3 q4
      subst q1
      rcases q4 with ⟨hnone, q4⟩ | ⟨x, hx, q4, q5, q6⟩
      · rw [unh_none hne hn34 hnone] at hU
        match ts, q2, q3, q4 with
        | t0 :: t1 :: t2 :: t3 :: t4 :: t5 :: t6 :: t7 :: t8 :: t9 :: t10 :: t11 :: t12 :: t13 :: t14 :: t15 :: t16 :: t17 :: t18 :: t19 :: t20 :: t21 :: t22 :: t23 :: t24 :: t25 :: t26 :: t27 :: t28 :: t29 :: t30 :: t31 :: t32 :: t33 :: t34 :: t35 :: t36 :: t37 :: t38 :: t39 :: t40 :: t41 :: t42 :: t43 :: t44 :: t45 :: t46 :: t47 :: t48 :: t49 :: t50 :: t51 :: t52 :: t53 :: t54 :: t55 :: t56 :: t57 :: t58 :: t59 :: [], q2, q3, q4 =>
          simp only [getD_zero', getD_succ'] at q3 q4
          subst q3 q4
          simp [hU]
      · rw [unh_step hn34 hx, List.drop_drop] at hU
        obtain ⟨_, h2⟩ := stepH_some hx
        rw [List.length_drop] at h2
        match ts, q2, q3, q4, q5, q6 with
        | t0 :: t1 :: t2 :: t3 :: t4 :: t5 :: t6 :: t7 :: t8 :: t9 :: t10 :: t11 :: t12 :: t13 :: t14 :: t15 :: t16 :: t17 :: t18 :: t19 :: t20 :: t21 :: t22 :: t23 :: t24 :: t25 :: t26 :: t27 :: t28 :: t29 :: t30 :: t31 :: t32 :: t33 :: t34 :: t35 :: t36 :: t37 :: t38 :: t39 :: t40 :: t41 :: t42 :: t43 :: t44 :: t45 :: t46 :: t47 :: t48 :: t49 :: t50 :: t51 :: t52 :: t53 :: t54 :: t55 :: t56 :: t57 :: t58 :: t59 :: [], q2, q3, q4, q5, q6 =>
          simp only [getD_zero', getD_succ'] at q3 q4 q5 q6
          subst q3 q4 q5 q6
          simp
          exact ⟨i + 2, by omega, RhInv.mk (D ++ [x]) _ (by omega) (by simp; omega) hU ⟨rfl, rfl, rfl, rfl⟩⟩
    · have hi' : ¬ (i : Int) < s.length := by omega
      have hnil : s.drop i = [] := List.drop_eq_nil_of_le (by omega)
      rw [hnil, unh_nil] at hU
      simp [Fn.f_haulageref05_unhex_b0, Fn.f_haulageref05_unhex_s0, hi, hi', hU]
      exact ⟨i, rfl, rfl, by omega⟩
  · rintro e st ⟨h0, h⟩
    obtain ⟨ts, m', ds⟩ := st
    simp only at h0 h
    subst h0
    rcases h with ⟨rfl, hl, q0, D, i, q1, q2, hx⟩ | ⟨rfl, hq, q1, q2, q3⟩
    · rw [hx]
      match ts, hl, q0, q1, q2 with
      | t0 :: t1 :: t2 :: t3 :: t4 :: t5 :: t6 :: t7 :: t8 :: t9 :: t10 :: t11 :: t12 :: t13 :: t14 :: t15 :: t16 :: t17 :: t18 :: t19 :: t20 :: t21 :: t22 :: t23 :: t24 :: t25 :: t26 :: t27 :: t28 :: t29 :: t30 :: t31 :: t32 :: t33 :: t34 :: t35 :: t36 :: t37 :: t38 :: t39 :: t40 :: t41 :: t42 :: t43 :: t44 :: t45 :: t46 :: t47 :: t48 :: t49 :: t50 :: t51 :: t52 :: t53 :: t54 :: t55 :: t56 :: t57 :: t58 :: t59 :: [], hl, q0, q1, q2 =>
        simp only [getD_zero', getD_succ'] at q0 q1 q2
        subst q0 q1 q2
        simp
    · simp [hq, q1, q2, q3]
end Hx

namespace Hx
open Go
set_option linter.unusedSimpArgs false
set_option linter.unusedVariables false
set_option maxHeartbeats 8000000
set_option maxRecDepth 20000
variable {E : Env}
attribute [-simp] List.getD_eq_getElem?_getD getElem?_pos
def wNull : List UInt8 := [110, 117, 108, 108]
def readR (s : List UInt8) : Rd := match s with
  | [] => badR 5
  | c :: _ => if c = 45 ∨ isDig c = true then cleanR (numN s) else if c = 34 then cleanR (textN s) else if starts s [120, 34] = true then cleanR (hexN s)
    else if s.take (nameLen s) = wNull then (0, 0, [], 4, 0) else badR 5
theorem readR_cons (c : UInt8) (r : List UInt8) : readR (c :: r) = if c = 45 ∨ isDig c = true then cleanR (numN (c :: r)) else if c = 34 then cleanR (textN (c :: r)) else if starts (c :: r) [120, 34] = true then cleanR (hexN (c :: r))
    else if (c :: r).take (nameLen (c :: r)) = wNull then (0, 0, [], 4, 0) else badR 5 := rfl
theorem has_prefix2 (u : M05 E) (k : Nat) (s p : List UInt8) (m : Mem) : denF E (k + 2) 48 [.p (.str s), .p (.str p)] m = some (.ret (.p (.bool (starts s p))), m) := by
  have h : ∀ m, denF E (k + 1) 63 [.p (.str s), .p (.str p)] m = some (.ret (.p (.bool (starts s p))), m) := by
    intro m
    refine denF_wp u.has' rfl (args' := [.p (.str s), .p (.str p)]) rfl ?_
    unfold starts
    by_cases h : p.length ≤ s.length
    · have h1 : (p.length : Int) ≤ s.length := by omega
      simp [Fn.f_internal_stringslite_HasPrefix, h, h1, bounds, asNat, asInt]
    · have h1 : ¬ (p.length : Int) ≤ s.length := by omega
      simp [Fn.f_internal_stringslite_HasPrefix, h, h1]
  refine denF_wp u.has rfl (args' := [.p (.str s), .p (.str p)]) rfl ?_
  simp [Fn.f_strings_HasPrefix, h]
theorem value_Read (u : P05 E) (s : List UInt8) (hs : (s.length : Int) ≤ 1000000000) (k : Nat) (hk : s.length + 60 ≤ k) (m : Mem) : denF E (k + 1) 26 [.p (.str s)] m = some (.ret (rdV (readR s)), m) := by
  refine denF_wp u.read rfl (args' := [.p (.str s)]) rfl ?_
  obtain ⟨j, rfl⟩ : ∃ j, k = j + 2 := ⟨k - 2, by omega⟩
  cases s with
  | nil => simp [Fn.f_value_Read, readR, rdV, rT5, badR]
  | cons c r =>
    rw [readR_cons]
    have hdig := fun m => value_digit u.m.digit (j + 1) c m
    have hN := fun m => value_number u (c :: r) hs (j + 1) (by omega) m
    have hT := fun m => value_text u (c :: r) hs (j + 1) (by omega) m
    have hB := fun m => value_bytes u (c :: r) hs (j + 1) (by omega) m
    have hP := fun m => has_prefix2 u.m j (c :: r) [120, 34] m
    have hM := fun m => name_Read u.n (c :: r) (by omega) (j + 1) (by omega) m
    have hnl := nameLen_le (c :: r)
    have g45 : ((45 : UInt8).toNat : Int) = 45 := rfl
    have g34 : ((34 : UInt8).toNat : Int) = 34 := rfl
    rcases hNr : numN (c :: r) with ⟨n1, n2, n3, n4, n5⟩
    rcases hTr : textN (c :: r) with ⟨t1, t2, t3, t4, t5⟩
    rcases hBr : hexN (c :: r) with ⟨b1, b2, b3, b4, b5⟩
    rw [hNr] at hN
    rw [hTr] at hT
    rw [hBr] at hB
    unfold rdV rT5 at *
    simp only at hN hT hB
    unfold cleanR
    simp only
    generalize hS : (c :: r : List UInt8) = s at *
    have hs0 : s[0]? = some c := by rw [← hS]; rfl
    have hse : (s == []) = false := by rw [← hS]; rfl
    by_cases h45 : c = 45
    · subst h45
      rw [if_pos (.inl rfl)]
      by_cases h0 : n5 = 0
      · subst h0
        simp [Fn.f_value_Read, hse, hs0, hN, bne]
      · have : (n5 == 0) = false := by simpa using h0
        simp [Fn.f_value_Read, hse, hs0, hN, bne, this, h0, badR]
    have b45 := u8ne h45
    rw [g45] at b45
    cases hd : isDig c with
    | true =>
      rw [hd] at hdig
      rw [if_pos (.inr rfl)]
      by_cases h0 : n5 = 0
      · subst h0
        simp [Fn.f_value_Read, hse, hs0, hN, bne, b45, hdig]
      · have : (n5 == 0) = false := by simpa using h0
        simp [Fn.f_value_Read, hse, hs0, hN, bne, b45, hdig, this, h0, badR]
    | false =>
      rw [hd] at hdig
      rw [if_neg (by simp [h45])]
      by_cases h34 : c = 34
      · subst h34
        rw [g34] at hdig
        rw [if_pos rfl]
        by_cases h0 : t5 = 0
        · subst h0
          simp [Fn.f_value_Read, hse, hs0, hT, bne, hdig]
        · have : (t5 == 0) = false := by simpa using h0
          simp [Fn.f_value_Read, hse, hs0, hT, bne, hdig, this, h0, badR]
      have b34 := u8ne h34
      rw [g34] at b34
      rw [if_neg h34]
      cases hp : starts s [120, 34] with
      | true =>
        rw [hp] at hP
        rw [if_pos rfl]
        by_cases h0 : b5 = 0
        · subst h0
          simp [Fn.f_value_Read, hse, hs0, hB, hP, bne, b45, b34, hdig]
        · have : (b5 == 0) = false := by simpa using h0
          simp [Fn.f_value_Read, hse, hs0, hB, hP, bne, b45, b34, hdig, this, h0, badR]
      | false =>
        rw [hp] at hP
        rw [if_neg (by simp)]
        by_cases hz : s.take (nameLen s) = wNull
        · rw [if_pos hz]
          unfold wNull at hz
          simp [Fn.f_value_Read, hse, hs0, hP, bne, b45, b34, hdig, hM, hnl, hz, bounds, asNat, asInt]
        · rw [if_neg hz]
          have hz' : (s.take (nameLen s) == [110, 117, 108, 108]) = false := by simpa [wNull] using hz
          simp [Fn.f_value_Read, hse, hs0, hP, bne, b45, b34, hdig, hM, hnl, hz', bounds, asNat, asInt, badR]
end Hx
