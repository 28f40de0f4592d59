/-
  HxU06i: the document's reading of a type; whole texts; types written.
-/
import Derived.Test.YtifcegbomagcpaaDoorHxU05c
import Derived.Test.YtifcegbomagcpaaDoorHxU05
import Derived.Test.YtifcegbomagcpaaDoorHxU05e
namespace Hx
open Go
set_option linter.unusedSimpArgs false
set_option linter.unusedVariables false
set_option maxHeartbeats 8000000
variable {E : Env}
attribute [-simp] List.getD_eq_getElem?_getD getElem?_pos
def wInt : List UInt8 := [105, 110, 116]
def wLong : List UInt8 := [108, 111, 110, 103]
def wText : List UInt8 := [116, 101, 120, 116]
def wBytes : List UInt8 := [98, 121, 116, 101, 115]
def kindW (s : List UInt8) : Int := if wInt == s then 1 else if wLong == s then 2 else if wText == s then 3 else if wBytes == s then 4 else 0
structure T06s (E : Env) : Prop where
  right : E.fn 84 = some Fn.f_typ_Right
  long : E.fn 95 = some Fn.f_typ_long
structure X06 (E : Env) : Prop where
  n04 : N04 E
  m05 : M05 E
  t06 : T06s E
  words : E.gl 2 = [.str [], .str [105, 110, 116], .str [108, 111, 110, 103], .str [116, 101, 120, 116], .str [98, 121, 116, 101, 115]]
  kindOf : E.fn 98 = some Fn.f_typ_kindOf
  read : E.fn 89 = some Fn.f_typ_Read
  print : E.fn 93 = some Fn.f_typ_Print
  vdigits : E.fn 39 = some Fn.f_value_Digits
def KInv (s : List UInt8) (i : Nat) (st : St) : Prop := (1 ≤ i ∧ i ≤ 5 ∧ (1 < i → (wInt == s) = false) ∧ (2 < i → (wLong == s) = false) ∧ (3 < i → (wText == s) = false) ∧ (4 < i → (wBytes == s) = false)) ∧ Live Fn.f_typ_kindOf_k0 (Fn.f_typ_kindOf_s0 (.p (.str s)) (.p (.int .i64 i))) [] st
theorem KInv.mk {s : List UInt8} {i : Nat} {st : St} (h : 1 ≤ i ∧ i ≤ 5 ∧ (1 < i → (wInt == s) = false) ∧ (2 < i → (wLong == s) = false) ∧ (3 < i → (wText == s) = false) ∧ (4 < i → (wBytes == s) = false)) (l : Live Fn.f_typ_kindOf_k0 (Fn.f_typ_kindOf_s0 (.p (.str s)) (.p (.int .i64 i))) [] st) : KInv s i st := ⟨h, l⟩
theorem typ_kindOf (u : X06 E) (k : Nat) (hk : 10 ≤ k) (s : List UInt8) (m : Mem) : denF E (k + 1) 98 [.p (.str s)] m = some (.ret (.p (.int .i64 (kindW s))), m) := by
  refine denF_wp u.kindOf rfl (args' := [.p (.str s)]) rfl ?_
  have hg := u.words
  simp [Fn.f_typ_kindOf]
  refine (loop_wp (α := Nat) (I := fun i st => KInv s i st) (meas := fun i => 5 - i)
    (Q := fun e st => st.ds = [] ∧ ((e = .exit 0 ∧ kindW s = 0 ∧ st.ts.length = 14) ∨ (e = .ret ∧ st.ts.getD 2 (.tup []) = .p (.int .i64 (kindW s))))) ?_ k 1 _ (KInv.mk ⟨by omega, by omega, by omega, by omega, by omega, by omega⟩ ⟨rfl, rfl, rfl, rfl⟩) (by omega)).mono ?_
  · rintro i st ⟨⟨h1, h5, a1, a2, a3, a4⟩, hlive⟩
    rw [loopF_live hlive]
    have : i = 1 ∨ i = 2 ∨ i = 3 ∨ i = 4 ∨ i = 5 := by omega
    have w1 : IntKind.i64.wrap (1 + 1) = 2 := rfl
    have w2 : IntKind.i64.wrap (2 + 1) = 3 := rfl
    have w3 : IntKind.i64.wrap (3 + 1) = 4 := rfl
    have w4 : IntKind.i64.wrap (4 + 1) = 5 := rfl
    have v2 : IntKind.i64.wrap 2 = 2 := rfl
    have v3 : IntKind.i64.wrap 3 = 3 := rfl
    have v4 : IntKind.i64.wrap 4 = 4 := rfl
    have v5 : IntKind.i64.wrap 5 = 5 := rfl
    unfold kindW
    rcases this with rfl | rfl | rfl | rfl | rfl
    · cases hz : (wInt == s) with
      | true =>
        have hz' : ([105, 110, 116] == s) = true := hz
        simp [Fn.f_typ_kindOf_b0, Fn.f_typ_kindOf_s0, hg, hz', asNat, asInt]
      | false =>
        have hz' : ([105, 110, 116] == s) = false := hz
        simp [Fn.f_typ_kindOf_b0, Fn.f_typ_kindOf_s0, hg, hz', asNat, asInt, v2]
        exact ⟨2, by omega, KInv.mk ⟨by omega, by omega, fun _ => hz, by omega, by omega, by omega⟩ ⟨rfl, rfl, rfl, rfl⟩⟩
    · have b1 := a1 (by omega)
      cases hz : (wLong == s) with
      | true =>
        have hz' : ([108, 111, 110, 103] == s) = true := hz
        simp [Fn.f_typ_kindOf_b0, Fn.f_typ_kindOf_s0, hg, hz', asNat, asInt, b1]
      | false =>
        have hz' : ([108, 111, 110, 103] == s) = false := hz
        simp [Fn.f_typ_kindOf_b0, Fn.f_typ_kindOf_s0, hg, hz', asNat, asInt, v3]
        exact ⟨3, by omega, KInv.mk ⟨by omega, by omega, fun _ => b1, fun _ => hz, by omega, by omega⟩ ⟨rfl, rfl, rfl, rfl⟩⟩
    · have b1 := a1 (by omega)
      have b2 := a2 (by omega)
      cases hz : (wText == s) with
      | true =>
        have hz' : ([116, 101, 120, 116] == s) = true := hz
        simp [Fn.f_typ_kindOf_b0, Fn.f_typ_kindOf_s0, hg, hz', asNat, asInt, b1, b2]
      | false =>
        have hz' : ([116, 101, 120, 116] == s) = false := hz
        simp [Fn.f_typ_kindOf_b0, Fn.f_typ_kindOf_s0, hg, hz', asNat, asInt, v4]
        exact ⟨4, by omega, KInv.mk ⟨by omega, by omega, fun _ => b1, fun _ => b2, fun _ => hz, by omega⟩ ⟨rfl, rfl, rfl, rfl⟩⟩
    · have b1 := a1 (by omega)
      have b2 := a2 (by omega)
      have b3 := a3 (by omega)
      cases hz : (wBytes == s) with
      | true =>
        have hz' : ([98, 121, 116, 101, 115] == s) = true := hz
        simp [Fn.f_typ_kindOf_b0, Fn.f_typ_kindOf_s0, hg, hz', asNat, asInt, b1, b2, b3]
      | false =>
        have hz' : ([98, 121, 116, 101, 115] == s) = false := hz
        simp [Fn.f_typ_kindOf_b0, Fn.f_typ_kindOf_s0, hg, hz', asNat, asInt, v5]
        exact ⟨5, by omega, KInv.mk ⟨by omega, by omega, fun _ => b1, fun _ => b2, fun _ => b3, fun _ => hz⟩ ⟨rfl, rfl, rfl, rfl⟩⟩
    · have b1 := a1 (by omega)
      have b2 := a2 (by omega)
      have b3 := a3 (by omega)
      have b4 := a4 (by omega)
      simp [Fn.f_typ_kindOf_b0, Fn.f_typ_kindOf_s0, b1, b2, b3, b4]
  · rintro e st ⟨h0, h⟩
    obtain ⟨ts, m', ds⟩ := st
    simp only at h0 h
    subst h0
    rcases h with ⟨rfl, h1, h2⟩ | ⟨rfl, h1⟩
    · rw [h1]
      match ts, h2 with
      | t0 :: t1 :: t2 :: t3 :: t4 :: t5 :: t6 :: t7 :: t8 :: t9 :: t10 :: t11 :: t12 :: t13 :: [], h2 => simp
    · simp [h1]
def rT (k m size e : Int) : AV := .tup [.p (tP k m), .p (.int .i64 size), .p (.int .i64 e)]
def nN : AV → Int
  | .tup [.p (.int _ n), _, _] => n
  | _ => 0
def nS : AV → Int
  | .tup [_, .p (.int _ n), _] => n
  | _ => 0
def nE : AV → Int
  | .tup [_, _, .p (.int _ n)] => n
  | _ => 0
theorem numS_form (s : List UInt8) : ∃ (v e : Int) (z : Nat), numS s = numT v z e ∧ z ≤ s.length := by
  unfold numS
  generalize hb : (s.head? == some 45) = neg
  have hl : ahead neg + (runD neg s).length ≤ s.length := by
    have h1 : ahead neg ≤ s.length := by
      cases neg with
      | false => exact Nat.zero_le _
      | true =>
        cases s with
        | nil => simp at hb
        | cons c r => simp [ahead]
    unfold runD
    have := (List.takeWhile_prefix isDig (l := s.drop (ahead neg))).length_le
    rw [List.length_drop] at this
    omega
  unfold numO
  split
  · exact ⟨0, 5, 0, rfl, Nat.zero_le _⟩
  split
  · exact ⟨_, 0, _, rfl, hl⟩
  · exact ⟨0, 10, 0, rfl, Nat.zero_le _⟩
def readT (s : List UInt8) : AV :=
  if kindW (s.take (nameLen s)) = 1 ∨ kindW (s.take (nameLen s)) = 2 then rT (kindW (s.take (nameLen s))) 0 (nameLen s) 0
  else if kindW (s.take (nameLen s)) = 0 ∨ s[nameLen s]? ≠ some 40 then rT 0 0 0 5
  else if nE (numS (s.drop (nameLen s + 1))) ≠ 0 then rT 0 0 0 (nE (numS (s.drop (nameLen s + 1))))
  else if s[nameLen s + 1 + (nS (numS (s.drop (nameLen s + 1)))).toNat]? ≠ some 41 then rT 0 0 0 5
  else if nN (numS (s.drop (nameLen s + 1))) < 1 ∨ 120 < nN (numS (s.drop (nameLen s + 1))) then rT 0 0 0 10
  else rT (kindW (s.take (nameLen s))) (nN (numS (s.drop (nameLen s + 1)))) ((nameLen s : Int) + 1 + nS (numS (s.drop (nameLen s + 1))) + 1) 0
end Hx

namespace Hx
open Go
set_option linter.unusedSimpArgs false
set_option linter.unusedVariables false
set_option maxHeartbeats 8000000
variable {E : Env}
attribute [-simp] List.getD_eq_getElem?_getD getElem?_pos
theorem list_beq_comm (a b : List UInt8) : (a == b) = (b == a) := by
  rw [Bool.eq_iff_iff]
  simp only [beq_iff_eq]
  exact ⟨fun h => h.symm, fun h => h.symm⟩
theorem head_drop (s : List UInt8) (n : Nat) (c : UInt8) : ((s.drop n).head? == some c) = decide (s[n]? = some c) := by
  rw [Bool.eq_iff_iff, List.head?_drop]
  simp
theorem readT_cases (s : List UInt8) (Q : Prop) {n : Nat} (hn : nameLen s = n) {kd : Int} (hk : kindW (s.take n) = kd) {v e : Int} {z : Nat} (hN : numS (s.drop (n + 1)) = numT v z e)
    (q1 : kd = 1 ∨ kd = 2 → readT s = rT kd 0 n 0 → Q)
    (q0 : ¬ (kd = 1 ∨ kd = 2) → kd = 0 → readT s = rT 0 0 0 5 → Q)
    (q2 : ¬ (kd = 1 ∨ kd = 2) → kd ≠ 0 → s[n]? ≠ some 40 → readT s = rT 0 0 0 5 → Q)
    (q3 : ¬ (kd = 1 ∨ kd = 2) → kd ≠ 0 → s[n]? = some 40 → e ≠ 0 → readT s = rT 0 0 0 e → Q)
    (q4 : ¬ (kd = 1 ∨ kd = 2) → kd ≠ 0 → s[n]? = some 40 → e = 0 → s[n + 1 + z]? ≠ some 41 → readT s = rT 0 0 0 5 → Q)
    (q5 : ¬ (kd = 1 ∨ kd = 2) → kd ≠ 0 → s[n]? = some 40 → e = 0 → s[n + 1 + z]? = some 41 → (v < 1 ∨ 120 < v) → readT s = rT 0 0 0 10 → Q)
    (q6 : ¬ (kd = 1 ∨ kd = 2) → kd ≠ 0 → s[n]? = some 40 → e = 0 → s[n + 1 + z]? = some 41 → ¬ (v < 1 ∨ 120 < v) → readT s = rT kd v (n + 1 + z + 1) 0 → Q) : Q := by
  have hr : readT s = if kd = 1 ∨ kd = 2 then rT kd 0 n 0 else if kd = 0 ∨ s[n]? ≠ some 40 then rT 0 0 0 5 else if e ≠ 0 then rT 0 0 0 e
      else if s[n + 1 + z]? ≠ some 41 then rT 0 0 0 5 else if v < 1 ∨ 120 < v then rT 0 0 0 10 else rT kd v (n + 1 + z + 1) 0 := by
    unfold readT
    rw [hn, hk, hN]
    have e1 : nE (numT v z e) = e := rfl
    have e2 : nS (numT v z e) = z := rfl
    have e3 : nN (numT v z e) = v := rfl
    rw [e1, e2, e3, Int.toNat_natCast]
  by_cases h1 : kd = 1 ∨ kd = 2
  · exact q1 h1 (by rw [hr, if_pos h1])
  rw [if_neg h1] at hr
  by_cases h0 : kd = 0
  · exact q0 h1 h0 (by rw [hr, if_pos (.inl h0)])
  by_cases h2 : s[n]? = some 40
  · rw [if_neg (fun h => h.elim h0 (fun g => g h2))] at hr
    by_cases h3 : e = 0
    · rw [if_neg (by simpa using h3)] at hr
      by_cases h4 : s[n + 1 + z]? = some 41
      · rw [if_neg (by simpa using h4)] at hr
        by_cases h5 : v < 1 ∨ 120 < v
        · exact q5 h1 h0 h2 h3 h4 h5 (by rw [hr, if_pos h5])
        · exact q6 h1 h0 h2 h3 h4 h5 (by rw [hr, if_neg h5])
      · exact q4 h1 h0 h2 h3 h4 (by rw [hr, if_pos h4])
    · exact q3 h1 h0 h2 h3 (by rw [hr, if_pos h3])
  · exact q2 h1 h0 h2 (by rw [hr, if_pos (.inr h2)])
theorem typ_Read (u : X06 E) (s : List UInt8) (hs : (s.length : Int) ≤ 1000000000) (k : Nat) (hk : s.length + 40 ≤ k) (m : Mem) : denF E (k + 1) 89 [.p (.str s)] m = some (.ret (readT s), m) := by
  refine denF_wp u.read rfl (args' := [.p (.str s)]) rfl ?_
  obtain ⟨j, rfl⟩ : ∃ j, k = j + 2 := ⟨k - 2, by omega⟩
  have hA := fun m => name_Read u.n04 s (by omega) (j + 1) (by omega) m
  have hn := nameLen_le s
  obtain ⟨n, hnn⟩ : ∃ n, nameLen s = n := ⟨_, rfl⟩
  rw [hnn] at hA hn
  have hB := fun m => typ_kindOf u (j + 1) (by omega) (s.take n) m
  obtain ⟨kd, hkd⟩ : ∃ kd, kindW (s.take n) = kd := ⟨_, rfl⟩
  rw [hkd] at hB
  have hC := fun m => has_prefix1 u.m05 j (s.drop n) 40 m
  rw [head_drop] at hC
  obtain ⟨v, e, z, hN, hz⟩ := numS_form (s.drop (n + 1))
  have hD := fun m => value_Number u.m05 (s.drop (n + 1)) (by rw [List.length_drop]; omega) (j + 1) (by rw [List.length_drop]; omega) m
  rw [hN] at hD
  rw [List.length_drop] at hz
  have hF := fun m => has_prefix1 u.m05 j (s.drop (n + 1 + z)) 41 m
  rw [head_drop] at hF
  have w1 : IntKind.i64.wrap ((n : Int) + 1) = n + 1 := wrap_i64 (by omega) (by omega)
  have t1 : ((n : Int) + 1).toNat = n + 1 := by omega
  have p1 : (0 : Int) ≤ (n : Int) + 1 := by omega
  unfold numT at hD
  refine readT_cases s _ hnn hkd hN ?_ ?_ ?_ ?_ ?_ ?_ ?_
  · intro h1 hr
    rw [hr]
    rcases h1 with rfl | rfl
    · simp (maxSteps := 1000000) [Fn.f_typ_Read, hA, hB, hn, bounds, asNat, asInt, rT, tP]
    · simp (maxSteps := 1000000) [Fn.f_typ_Read, hA, hB, hn, bounds, asNat, asInt, rT, tP]
  · intro h1 h0 hr
    rw [hr]
    subst h0
    simp (maxSteps := 1000000) [Fn.f_typ_Read, hA, hB, hn, bounds, asNat, asInt, rT, tP]
  all_goals
    intro h1 h0
    have b1 : (kd == 1) = false := by simp; omega
    have b2 : (kd == 2) = false := by simp; omega
    have b0 : (kd == 0) = false := by simpa using h0
  · intro h2 hr
    rw [hr]
    rw [decide_eq_false h2] at hC
    simp (maxSteps := 1000000) [Fn.f_typ_Read, hA, hB, hn, bounds, asNat, asInt, b0, b1, b2, hC, rT, tP]
  all_goals
    intro h2
    have hlt : n < s.length := (List.getElem?_eq_some_iff.1 h2).1
    have hlt' : n + 1 ≤ s.length := hlt
    have hz2 : n + 1 + z ≤ s.length := by omega
    have w2 : IntKind.i64.wrap ((n : Int) + 1 + z) = n + 1 + z := wrap_i64 (by omega) (by omega)
    have t2 : ((n : Int) + 1 + z).toNat = n + 1 + z := by omega
    have p2 : (0 : Int) ≤ (n : Int) + 1 + z := by omega
    have w3 : IntKind.i64.wrap ((n : Int) + 1 + z + 1) = n + 1 + z + 1 := wrap_i64 (by omega) (by omega)
    rw [decide_eq_true h2] at hC
  · intro h3 hr
    rw [hr]
    have e0 : (e == 0) = false := by simpa using h3
    simp (maxSteps := 1000000) [Fn.f_typ_Read, hA, hB, hn, bounds, asNat, asInt, b0, b1, b2, hC, w1, t1, p1, hlt', hD, e0, bne, rT, tP]
  all_goals
    intro h3
    subst h3
  · intro h4 hr
    rw [hr]
    rw [decide_eq_false h4] at hF
    simp (maxSteps := 1000000) [Fn.f_typ_Read, hA, hB, hn, bounds, asNat, asInt, b0, b1, b2, hC, w1, t1, p1, hlt', hD, w2, t2, p2, hz2, hF, bne, rT, tP]
  · intro h4 h5 hr
    rw [hr]
    rw [decide_eq_true h4] at hF
    by_cases g1 : v < 1
    · simp (maxSteps := 1000000) [Fn.f_typ_Read, hA, hB, hn, bounds, asNat, asInt, b0, b1, b2, hC, w1, t1, p1, hlt', hD, w2, t2, p2, hz2, hF, bne, rT, tP, g1]
    · have g2 : 120 < v := by omega
      simp (maxSteps := 1000000) [Fn.f_typ_Read, hA, hB, hn, bounds, asNat, asInt, b0, b1, b2, hC, w1, t1, p1, hlt', hD, w2, t2, p2, hz2, hF, bne, rT, tP, g1, g2]
  · intro h4 h5 hr
    rw [hr]
    rw [decide_eq_true h4] at hF
    have g1 : ¬ v < 1 := by omega
    have g2 : ¬ 120 < v := by omega
    simp (maxSteps := 1000000) [Fn.f_typ_Read, hA, hB, hn, bounds, asNat, asInt, b0, b1, b2, hC, w1, t1, p1, hlt', hD, w2, t2, p2, hz2, hF, bne, rT, tP, g1, g2, w3]
end Hx

namespace Hx
open Go
set_option linter.unusedSimpArgs false
set_option linter.unusedVariables false
set_option maxHeartbeats 8000000
variable {E : Env}
attribute [-simp] List.getD_eq_getElem?_getD getElem?_pos
def NumOk (E : Env) : Prop := ∀ (s : List UInt8), (s.length : Int) ≤ 1000000000 → ∀ (k : Nat), s.length + 30 ≤ k → ∀ m : Mem, denF E (k + 1) 38 [.p (.str s)] m = some (.ret (numS s), m)
theorem kindW_cases (s : List UInt8) (Q : Prop) (q1 : (s == [105, 110, 116]) = true → kindW s = 1 → Q) (q2 : (s == [105, 110, 116]) = false → (s == [108, 111, 110, 103]) = true → kindW s = 2 → Q)
    (q3 : (s == [105, 110, 116]) = false → (s == [108, 111, 110, 103]) = false → (s == [116, 101, 120, 116]) = true → kindW s = 3 → Q)
    (q4 : (s == [105, 110, 116]) = false → (s == [108, 111, 110, 103]) = false → (s == [116, 101, 120, 116]) = false → (s == [98, 121, 116, 101, 115]) = true → kindW s = 4 → Q)
    (q5 : (s == [105, 110, 116]) = false → (s == [108, 111, 110, 103]) = false → (s == [116, 101, 120, 116]) = false → (s == [98, 121, 116, 101, 115]) = false → kindW s = 0 → Q) : Q := by
  have e1 : (wInt == s) = (s == [105, 110, 116]) := list_beq_comm _ _
  have e2 : (wLong == s) = (s == [108, 111, 110, 103]) := list_beq_comm _ _
  have e3 : (wText == s) = (s == [116, 101, 120, 116]) := list_beq_comm _ _
  have e4 : (wBytes == s) = (s == [98, 121, 116, 101, 115]) := list_beq_comm _ _
  have hk : kindW s = if (s == [105, 110, 116]) then 1 else if (s == [108, 111, 110, 103]) then 2 else if (s == [116, 101, 120, 116]) then 3 else if (s == [98, 121, 116, 101, 115]) then 4 else 0 := by
    unfold kindW
    rw [e1, e2, e3, e4]
  cases h1 : (s == [105, 110, 116]) with
  | true => exact q1 h1 (by rw [hk, h1]; rfl)
  | false =>
    cases h2 : (s == [108, 111, 110, 103]) with
    | true => exact q2 h1 h2 (by rw [hk, h1, h2]; rfl)
    | false =>
      cases h3 : (s == [116, 101, 120, 116]) with
      | true => exact q3 h1 h2 h3 (by rw [hk, h1, h2, h3]; rfl)
      | false =>
        cases h4 : (s == [98, 121, 116, 101, 115]) with
        | true => exact q4 h1 h2 h3 h4 (by rw [hk, h1, h2, h3, h4]; rfl)
        | false => exact q5 h1 h2 h3 h4 (by rw [hk, h1, h2, h3, h4]; rfl)
theorem ref_TRead (u : X06 E) (h90 : E.fn 90 = some Fn.f_haulageref06_Read) (hNum : NumOk E) (s : List UInt8) (hs : (s.length : Int) ≤ 1000000000) (k : Nat) (hk : s.length + 40 ≤ k) (m : Mem) : denF E (k + 1) 90 [.p (.str s)] m = some (.ret (readT s), m) := by
  refine denF_wp h90 rfl (args' := [.p (.str s)]) rfl ?_
  obtain ⟨j, rfl⟩ : ∃ j, k = j + 2 := ⟨k - 2, by omega⟩
  have hA := fun m => ref_NRead u.n04 s (by omega) (j + 1) (by omega) m
  have hn := nameLen_le s
  obtain ⟨n, hnn⟩ : ∃ n, nameLen s = n := ⟨_, rfl⟩
  rw [hnn] at hA hn
  obtain ⟨v, e, z, hN, hz⟩ := numS_form (s.drop (n + 1))
  have hD := fun m => hNum (s.drop (n + 1)) (by rw [List.length_drop]; omega) (j + 1) (by rw [List.length_drop]; omega) m
  rw [hN] at hD
  rw [List.length_drop] at hz
  have w1 : IntKind.i64.wrap ((n : Int) + 1) = n + 1 := wrap_i64 (by omega) (by omega)
  have t1 : ((n : Int) + 1).toNat = n + 1 := by omega
  have p1 : (0 : Int) ≤ (n : Int) + 1 := by omega
  unfold numT at hD
  have main : ∀ kd : Int, (kd = 3 ∨ kd = 4) → kindW (s.take n) = kd → (s.take n == [105, 110, 116]) = false → (s.take n == [108, 111, 110, 103]) = false → (s.take n == [116, 101, 120, 116]) = decide (kd = 3) → (s.take n == [98, 121, 116, 101, 115]) = decide (kd = 4) →
      Wp (den E (denF E (j + 2)) (j + 2) Fn.f_haulageref06_Read.body ⟨[.p (.str s)] ++ List.replicate (Fn.f_haulageref06_Read.ntmps - [AV.p (PV.str s)].length) (.tup []), [], []⟩)
        (fun e st => ∃ out1 m1, leave Fn.f_haulageref06_Read (some (e, st)) = some (out1, m1) ∧ stripOut out1 = some (.ret (readT s))) := by
    intro kd hkd hk a1 a2 a3 a4
    have fin : ∀ (q : AV), readT s = q → Wp (den E (denF E (j + 2)) (j + 2) Fn.f_haulageref06_Read.body ⟨[.p (.str s)] ++ List.replicate (Fn.f_haulageref06_Read.ntmps - [AV.p (PV.str s)].length) (.tup []), [], []⟩)
        (fun e st => ∃ out1 m1, leave Fn.f_haulageref06_Read (some (e, st)) = some (out1, m1) ∧ stripOut out1 = some (.ret q)) → Wp (den E (denF E (j + 2)) (j + 2) Fn.f_haulageref06_Read.body ⟨[.p (.str s)] ++ List.replicate (Fn.f_haulageref06_Read.ntmps - [AV.p (PV.str s)].length) (.tup []), [], []⟩)
        (fun e st => ∃ out1 m1, leave Fn.f_haulageref06_Read (some (e, st)) = some (out1, m1) ∧ stripOut out1 = some (.ret (readT s))) := by
      intro q h1 h2
      rw [h1]
      exact h2
    refine readT_cases s _ hnn hk hN ?_ ?_ ?_ ?_ ?_ ?_ ?_
    · intro h1 _; omega
    · intro h1 h0 _; omega
    · intro _ _ h2 hr
      refine fin _ hr ?_
      clear fin hr
      by_cases hlt : n < s.length
      · obtain ⟨c, hc⟩ : ∃ c, s[n]? = some c := ⟨_, List.getElem?_eq_getElem hlt⟩
        have hlt' : ¬ (s.length : Int) ≤ n := by omega
        have hc40 : ((c.toNat : Int) == 40) = false := by
          have : c ≠ 40 := by rintro rfl; exact h2 hc
          have e : (c == 40) = ((c.toNat : Int) == 40) := u8_beq
          rw [← e]
          simpa using this
        rcases hkd with rfl | rfl <;> simp (maxSteps := 1000000) [Fn.f_haulageref06_Read, hA, hn, bounds, asNat, asInt, a1, a2, a3, a4, hc, hc40, hlt', bne, rT, tP]
      · have hlt' : (s.length : Int) ≤ n := by omega
        rcases hkd with rfl | rfl <;> simp (maxSteps := 1000000) [Fn.f_haulageref06_Read, hA, hn, bounds, asNat, asInt, a1, a2, a3, a4, hlt', bne, rT, tP]
    all_goals
      intro _ _ h2
      have hlt : n < s.length := (List.getElem?_eq_some_iff.1 h2).1
      have hlt' : n + 1 ≤ s.length := hlt
      have hlt2 : ¬ (s.length : Int) ≤ n := by omega
      have hz2 : n + 1 + z ≤ s.length := by omega
      have w2 : IntKind.i64.wrap ((n : Int) + 1 + z) = n + 1 + z := wrap_i64 (by omega) (by omega)
      have t2 : ((n : Int) + 1 + z).toNat = n + 1 + z := by omega
      have p2 : (0 : Int) ≤ (n : Int) + 1 + z := by omega
      have w3 : IntKind.i64.wrap ((n : Int) + 1 + z + 1) = n + 1 + z + 1 := wrap_i64 (by omega) (by omega)
      have e40 : ((40 : UInt8).toNat : Int) = 40 := rfl
    · intro h3 hr
      refine fin _ hr ?_
      clear fin hr
      have e0 : (e == 0) = false := by simpa using h3
      rcases hkd with rfl | rfl <;> simp (maxSteps := 1000000) [Fn.f_haulageref06_Read, hA, hn, bounds, asNat, asInt, a1, a2, a3, a4, h2, hlt2, e40, w1, t1, p1, hlt', hD, e0, bne, rT, tP]
    all_goals
      intro h3
      subst h3
    · intro h4 hr
      refine fin _ hr ?_
      clear fin hr
      by_cases hl4 : n + 1 + z < s.length
      · obtain ⟨c, hc⟩ : ∃ c, s[n + 1 + z]? = some c := ⟨_, List.getElem?_eq_getElem hl4⟩
        have hl4' : ¬ (s.length : Int) ≤ n + 1 + z := by omega
        have hc41 : ((c.toNat : Int) == 41) = false := by
          have : c ≠ 41 := by rintro rfl; exact h4 hc
          have e : (c == 41) = ((c.toNat : Int) == 41) := u8_beq
          rw [← e]
          simpa using this
        rcases hkd with rfl | rfl <;> simp (maxSteps := 1000000) [Fn.f_haulageref06_Read, hA, hn, bounds, asNat, asInt, a1, a2, a3, a4, h2, hlt2, e40, w1, t1, p1, hlt', hD, w2, t2, p2, hc, hc41, hl4', bne, rT, tP]
      · have hl4' : (s.length : Int) ≤ n + 1 + z := by omega
        rcases hkd with rfl | rfl <;> simp (maxSteps := 1000000) [Fn.f_haulageref06_Read, hA, hn, bounds, asNat, asInt, a1, a2, a3, a4, h2, hlt2, e40, w1, t1, p1, hlt', hD, w2, t2, p2, hl4', bne, rT, tP]
    all_goals
      intro h4
      have hl4 : n + 1 + z < s.length := (List.getElem?_eq_some_iff.1 h4).1
      have hl4' : ¬ (s.length : Int) ≤ n + 1 + z := by omega
      have e41 : ((41 : UInt8).toNat : Int) = 41 := rfl
    · intro h5 hr
      refine fin _ hr ?_
      clear fin hr
      by_cases g1 : v < 1
      · rcases hkd with rfl | rfl <;> simp (maxSteps := 1000000) [Fn.f_haulageref06_Read, hA, hn, bounds, asNat, asInt, a1, a2, a3, a4, h2, hlt2, e40, w1, t1, p1, hlt', hD, w2, t2, p2, h4, e41, hl4', bne, rT, tP, g1]
      · have g2 : 120 < v := by omega
        rcases hkd with rfl | rfl <;> simp (maxSteps := 1000000) [Fn.f_haulageref06_Read, hA, hn, bounds, asNat, asInt, a1, a2, a3, a4, h2, hlt2, e40, w1, t1, p1, hlt', hD, w2, t2, p2, h4, e41, hl4', bne, rT, tP, g1, g2]
    · intro h5 hr
      refine fin _ hr ?_
      clear fin hr
      have g1 : ¬ v < 1 := by omega
      have g2 : ¬ 120 < v := by omega
      rcases hkd with rfl | rfl <;> simp (maxSteps := 1000000) [Fn.f_haulageref06_Read, hA, hn, bounds, asNat, asInt, a1, a2, a3, a4, h2, hlt2, e40, w1, t1, p1, hlt', hD, w2, t2, p2, h4, e41, hl4', bne, rT, tP, g1, g2, w3]
  refine kindW_cases (s.take n) _ ?_ ?_ ?_ ?_ ?_
  · intro a1 hk
    have hr : readT s = rT 1 0 n 0 := by unfold readT; rw [hnn, hk, if_pos (.inl rfl)]
    rw [hr]
    simp (maxSteps := 1000000) [Fn.f_haulageref06_Read, hA, hn, bounds, asNat, asInt, a1, rT, tP]
  · intro a1 a2 hk
    have hr : readT s = rT 2 0 n 0 := by unfold readT; rw [hnn, hk, if_pos (.inr rfl)]
    rw [hr]
    simp (maxSteps := 1000000) [Fn.f_haulageref06_Read, hA, hn, bounds, asNat, asInt, a1, a2, rT, tP]
  · intro a1 a2 a3 hk
    refine main 3 (.inl rfl) hk a1 a2 a3 ?_
    rw [beq_iff_eq.1 a3]
    rfl
  · intro a1 a2 a3 a4 hk
    exact main 4 (.inr rfl) hk a1 a2 a3 a4
  · intro a1 a2 a3 a4 hk
    have hr : readT s = rT 0 0 0 5 := by unfold readT; rw [hnn, hk, if_neg (by omega), if_pos (.inl rfl)]
    rw [hr]
    simp (maxSteps := 1000000) [Fn.f_haulageref06_Read, hA, hn, bounds, asNat, asInt, a1, a2, a3, a4, rT, tP]
end Hx
